/- Plain facts: tasks that are easier, or fewer, demand no more. No condition: plain lemmas. Orders of tasks: the plain part of Assign. No condition: plain lemmas. copied and ordered of both sides. The conditions: the tasks read as named and are few. ordered of both sides. The conditions: the tasks and the order read as named and are few. Assign: has and tried of the reference; the closures of the program. The conditions: the rows read as named. Assign of the program. The conditions: the tasks read as named. -/
import Derived.Test.YtmahagcghpoekaaGreatMg8
import Derived.Test.YtmahagcghpoekaaGreatMg14
import Derived.Test.YtmahagcghpoekaaGreatMg18
import Derived.BigRegion
import Derived.Deep.RegionHeld3
import Derived.Deep.RegionLaw
import Derived.Deep.Cut
import Derived.Deep.DeepCutAuto
namespace Go.Proofs.YtmahagcghpoekaaGreat
open Go.RowKit
set_option linter.unusedSimpArgs false
set_option linter.unusedVariables false
/-- each task of K stands for one of L and is no harder -/
structure Sim (K L : List Ta) (σ : Nat → Nat) : Prop where
  len : ∀ i, i < K.length → σ i < L.length
  mono : ∀ i j, i < j → σ i < σ j
  pri : ∀ i : Nat, i < K.length → (taAt K i).pri = (taAt L (σ i)).pri
  gap : ∀ i : Nat, i < K.length → (taAt L (σ i)).gap ≤ (taAt K i).gap
  jit : ∀ i : Nat, i < K.length → (taAt K i).jit ≤ (taAt L (σ i)).jit
  dl : ∀ i : Nat, i < K.length → (taAt L (σ i)).dl ≤ (taAt K i).dl
  pl : ∀ i : Nat, i < K.length → (taAt K i).pcs.length = (taAt L (σ i)).pcs.length
  pc : ∀ i : Nat, i < K.length → ∀ (k : Nat) (p q : P2), (taAt K i).pcs[k]? = some p → (taAt L (σ i)).pcs[k]? = some q → p.2 = q.2 ∧ p.1 ≤ q.1
theorem costP_le : ∀ (ps qs : List P2), ps.length = qs.length → (∀ (k : Nat) (p q : P2), ps[k]? = some p → qs[k]? = some q → p.1 ≤ q.1) → costP ps ≤ costP qs
  | [], [], _, _ => Int.le_refl _
  | p :: ps, q :: qs, hl, h => by
    have h1 := costP_le ps qs (by simpa using hl) (fun k a b ha hb => h (k + 1) a b (by simpa using ha) (by simpa using hb))
    have h2 := h 0 p q rfl rfl
    rw [costP, costP]; omega
theorem mostN_le {g g' j j' v : Int} (hg : 1 ≤ g) (hgg : g ≤ g') (hj : 0 ≤ j') (hjj : j' ≤ j) (hv : 0 ≤ v) : mostN g' j' v ≤ mostN g j v := by
  unfold mostN
  split
  · omega
  · have h1 : (v - 1 + j') / g' ≤ (v - 1 + j') / g := by
      rw [Int.le_ediv_iff_mul_le (by omega)]
      have a := Int.ediv_mul_le (v - 1 + j') (show g' ≠ 0 by omega)
      have b := Int.ediv_nonneg (a := v - 1 + j') (b := g') (by omega) (by omega)
      have c := Int.mul_le_mul_of_nonneg_left hgg b
      omega
    have h2 : (v - 1 + j') / g ≤ (v - 1 + j) / g := Int.ediv_le_ediv (by omega) (by omega)
    omega
section
variable {K L : List Ta} {σ : Nat → Nat}
theorem Sim.ahead (h : Sim K L σ) {i j : Nat} (hi : i < K.length) (hj : j < K.length) : Ahead K i j ↔ Ahead L (σ i) (σ j) := by
  have e1 : priI K i = priI L (σ i) := h.pri i hi
  have e2 : priI K j = priI L (σ j) := h.pri j hj
  have e3 : i < j ↔ σ i < σ j := by
    constructor
    · exact h.mono i j
    · intro hlt
      rcases Nat.lt_trichotomy i j with q | q | q
      · exact q
      · subst q; omega
      · have := h.mono j i q; omega
  unfold Ahead
  rw [e1, e2]
  omega
theorem Sim.cost (h : Sim K L σ) {i : Nat} (hi : i < K.length) : costT (taAt K i) ≤ costT (taAt L (σ i)) :=
  costP_le _ _ (h.pl i hi) (fun k p q hp hq => (h.pc i hi k p q hp hq).2)
theorem Sim.demTL (h : Sim K L σ) (hK : ValidT K) (hL : ValidT L) {i : Nat} (hi : i < K.length) {v : Int} (hv : 0 ≤ v) : demT (taAt K i) v ≤ demT (taAt L (σ i)) v := by
  have hk := taAt_mem' (L := K) (k := i) (by omega) (by omega)
  have hl := taAt_mem' (L := L) (k := (σ i : Int)) (by omega) (by have := h.len i hi; omega)
  have h1 := mostN_le (hL.gap _ hl).1 (h.gap i hi) (hK.jit _ hk).1 (h.jit i hi) hv
  have h2 := h.cost hi
  have h3 := (mostN_mono (hL.gap _ hl).1 (hL.jit _ hl).1 hv (Int.le_refl v)).1
  have h4 := (costT_bd hK.r hk).1
  exact Int.mul_le_mul h1 h2 (by omega) h3
theorem Sim.usesL (h : Sim K L σ) {i : Nat} (hi : i < K.length) {l : Int} (hu : uses K i l) : uses L (σ i) l := by
  obtain ⟨p, hp, e⟩ := hu
  obtain ⟨k, hk⟩ := List.mem_iff_getElem?.1 hp
  have hkl := (List.getElem?_eq_some_iff.1 hk).1
  have hq : (taAt L (σ i)).pcs[k]? = some ((taAt L (σ i)).pcs[k]'(by have := h.pl i hi; omega)) := List.getElem?_eq_getElem _
  have := (h.pc i hi k _ _ hk hq).1
  exact ⟨_, List.mem_of_getElem? hq, by rw [← this]; exact e⟩
/-- the ceiling of L is no further behind -/
theorem Sim.ceil (h : Sim K L σ) {i j : Nat} (hi : i < K.length) (hj : j < K.length) {l : Int} (hu : uses K i l) (hn : ¬ Ahead K j (ceilG K l)) : ¬ Ahead L (σ j) (ceilG L l) := by
  have hcK := isCeil K l
  have hcL := isCeil L l
  have hk0 : 0 ≤ ceilG K l := by
    rcases Int.lt_or_le (ceilG K l) 0 with q | q
    · exact absurd hu (hcK.none_ q i hi)
    · exact q
  have hl0 : 0 ≤ ceilG L l := by
    rcases Int.lt_or_le (ceilG L l) 0 with q | q
    · exact absurd (h.usesL hi hu) (hcL.none_ q _ (h.len i hi))
    · exact q
  obtain ⟨c, hc⟩ := Int.eq_ofNat_of_zero_le hk0
  have hck : c < K.length := by have := hcK.hi; omega
  have huc := h.usesL hck (by have := (hcK.some_ hk0).1; rw [hc] at this; exact this)
  rw [hc] at hn
  intro ha
  apply hn
  rw [h.ahead hj hck]
  by_cases e : ((σ c : Nat) : Int) = ceilG L l
  · rw [e]; exact ha
  · exact ahead_trans _ _ _ ha ((hcL.some_ hl0).2 (σ c) (h.len c hck) huc e)
end
theorem blkP_in {L : List Ta} {t : Int} {j : Nat} : ∀ (ps : List P2) (k i : Nat) (p : P2), (taAt L j).pcs.drop k = ps → ps[i]? = some p → 0 ≤ p.2 → ¬ Ahead L t (ceilG L p.2) → ((j : Int), ((k + i : Nat) : Int)) ∈ blkP L t j k ps
  | [], _, _, _, _, h, _, _ => by simp at h
  | q :: ps, k, i, p, hd, hi, h0, hn => by
    have hd' : (taAt L j).pcs.drop (k + 1) = ps := by rw [← List.drop_drop, hd]; rfl
    rw [blkP]
    cases i with
    | zero =>
      simp at hi
      subst hi
      rw [if_pos ⟨h0, aheadB_no.2 hn⟩]
      simp
    | succ i =>
      have := blkP_in ps (k + 1) i p hd' (by simpa using hi) h0 hn
      rw [show k + (i + 1) = k + 1 + i by omega]
      split
      · exact List.mem_cons_of_mem _ this
      · exact this
theorem blkFrom_in {L : List Ta} {t : Int} {b : P2} : ∀ (f j m : Nat), j ≤ m → m < j + f → aheadB L t m = true → b ∈ blkP L t m 0 (taAt L m).pcs → b ∈ blkFrom L t f j
  | 0, j, m, h1, h2, _, _ => by omega
  | f + 1, j, m, h1, h2, h3, h4 => by
    rw [blkFrom, List.mem_append]
    by_cases e : m = j
    · subst e; left; rw [if_pos h3]; exact h4
    · right; exact blkFrom_in f (j + 1) m (by omega) (by omega) h3 h4
theorem blockL_in {L : List Ta} {t : Int} {j k : Nat} {p : P2} (hj : j < L.length) (hp : (taAt L j).pcs[k]? = some p) (h0 : 0 ≤ p.2) (ha : Ahead L t j) (hn : ¬ Ahead L t (ceilG L p.2)) : ((j : Int), (k : Int)) ∈ blockL L t := by
  have := blkP_in (L := L) (t := t) (j := j) _ 0 k p rfl hp h0 hn
  rw [Nat.zero_add] at this
  exact blkFrom_in L.length 0 j (Nat.zero_le _) (by omega) (aheadB_iff.2 ha) this
theorem maxF_ge {L : List Ta} : ∀ (bs : List P2) (m : Int), m ≤ bs.foldl (fun m b => max m (ticksAt L b)) m ∧ ∀ b ∈ bs, ticksAt L b ≤ bs.foldl (fun m b => max m (ticksAt L b)) m
  | [], m => ⟨Int.le_refl _, by simp⟩
  | b :: bs, m => by
    obtain ⟨h1, h2⟩ := maxF_ge (L := L) bs (max m (ticksAt L b))
    rw [List.foldl_cons]
    refine ⟨by omega, fun c hc => ?_⟩
    rcases List.mem_cons.1 hc with rfl | hc
    · omega
    · exact h2 c hc
theorem maxF_le {L : List Ta} {x : Int} : ∀ (bs : List P2) (m : Int), m ≤ x → (∀ b ∈ bs, ticksAt L b ≤ x) → bs.foldl (fun m b => max m (ticksAt L b)) m ≤ x
  | [], m, h, _ => h
  | b :: bs, m, h, hb => by
    rw [List.foldl_cons]
    have := hb b (by simp)
    exact maxF_le (L := L) bs _ (by omega) (fun c hc => hb c (by simp [hc]))
section
variable {K L : List Ta} {σ : Nat → Nat}
theorem Sim.block (h : Sim K L σ) {j : Nat} (hj : j < K.length) : blockN K j ≤ blockN L (σ j) := by
  unfold blockN
  refine maxF_le _ 0 (maxF_ge _ _).1 (fun b hb => ?_)
  have hB := blockL_mem hb
  obtain ⟨i, hi⟩ := Int.eq_ofNat_of_zero_le hB.j0
  obtain ⟨k, hk⟩ := Int.eq_ofNat_of_zero_le hB.k0
  have hil : i < K.length := by have := hB.j1; omega
  have hkl : k < (taAt K i).pcs.length := by have := hB.k1; rw [hi, hk] at this; omega
  have hp : (taAt K i).pcs[k]? = some (taAt K i).pcs[k] := List.getElem?_eq_getElem hkl
  have hq : (taAt L (σ i)).pcs[k]? = some ((taAt L (σ i)).pcs[k]'(by have := h.pl i hil; omega)) := List.getElem?_eq_getElem _
  obtain ⟨e1, e2⟩ := h.pc i hil k _ _ hp hq
  have hlk := hB.lk
  rw [hi, hk, Int.toNat_natCast, hp] at hlk
  simp only [Option.getD_some] at hlk
  have hah := hB.ah
  rw [hi] at hah
  have hu : uses K i (taAt K i).pcs[k].2 := ⟨_, List.getElem_mem hkl, rfl⟩
  have hn := h.ceil hil hj hu hlk.2
  have hin := blockL_in (L := L) (t := (σ j : Int)) (h.len i hil) hq (by rw [← e1]; exact hlk.1) ((h.ahead hj hil).1 hah) (by rw [← e1]; exact hn)
  have hge := (maxF_ge (L := L) (blockL L (σ j)) 0).2 _ hin
  have et : ticksAt K b = (taAt K i).pcs[k].1 := by rw [ticksAt, hi, hk, Int.toNat_natCast, hp]; rfl
  have eu : ticksAt L (((σ i : Nat) : Int), (k : Int)) = ((taAt L (σ i)).pcs[k]'(by have := h.pl i hil; omega)).1 := by rw [ticksAt, Int.toNat_natCast, hq]; rfl
  rw [eu] at hge
  rw [et]; omega
theorem demL_nonneg {L : List Ta} {w : Int} {p : Int → Bool} : ∀ (ks : List Int) (n : Int), (∀ k ∈ ks, 0 ≤ demT (taAt L k) w) → demL L w (ks.filter p) n ≤ demL L w ks n
  | [], n, _ => Int.le_refl _
  | k :: ks, n, h => by
    have h0 := h k (by simp)
    have e : demL L w (k :: ks) n = demL L w ks (n + demT (taAt L k) w) := rfl
    rw [List.filter_cons, e]
    split
    · exact demL_nonneg ks _ (fun j hj => h j (by simp [hj]))
    · refine Int.le_trans (demL_nonneg ks n (fun j hj => h j (by simp [hj]))) ?_
      exact demL_le ks _ _ (by omega) (fun j _ => Int.le_refl _)
theorem demL_map {K L : List Ta} {v : Int} {f : Int → Int} : ∀ (ks : List Int) (n m : Int), n ≤ m → (∀ k ∈ ks, demT (taAt K k) v ≤ demT (taAt L (f k)) v) → demL K v ks n ≤ demL L v (ks.map f) m
  | [], n, m, h, _ => h
  | k :: ks, n, m, h, hk => by
    have h0 := hk k (by simp)
    refine demL_map (K := K) ks _ _ ?_ (fun j hj => hk j (by simp [hj]))
    show n + demT (taAt K k) v ≤ m + demT (taAt L (f k)) v
    omega
theorem Sim.dem (h : Sim K L σ) (hK : ValidT K) (hL : ValidT L) {j : Nat} (hj : j < K.length) {v : Int} (hv : 0 ≤ v ∧ v ≤ 1000000) : demN K j v ≤ demN L (σ j) v := by
  have hown : ownN K j ≤ ownN L (σ j) := by
    have := h.cost hj
    have := h.block hj
    unfold ownN; omega
  let f : Int → Int := fun k => ((σ k.toNat : Nat) : Int)
  have h1 : demN K j v ≤ demL L v ((aheadL K j).map f) (ownN L (σ j)) := by
    refine demL_map _ _ _ hown (fun k hk => ?_)
    obtain ⟨⟨k0, k1⟩, _⟩ := aheadL_mem.1 hk
    obtain ⟨i, rfl⟩ := Int.eq_ofNat_of_zero_le k0
    show demT (taAt K i) v ≤ demT (taAt L ((σ (Int.toNat (i : Int)) : Nat) : Int)) v
    rw [Int.toNat_natCast]
    exact h.demTL hK hL (by omega) hv.1
  have hp : ((aheadL K j).map f).Perm ((aheadL L (σ j)).filter (fun x => decide (x ∈ (aheadL K j).map f))) := by
    rw [List.perm_ext_iff_of_nodup]
    · intro x
      rw [List.mem_filter, decide_eq_true_eq]
      refine ⟨fun hx => ⟨?_, hx⟩, fun hx => hx.2⟩
      obtain ⟨k, hk, rfl⟩ := List.mem_map.1 hx
      obtain ⟨⟨k0, k1⟩, k2⟩ := aheadL_mem.1 hk
      obtain ⟨i, rfl⟩ := Int.eq_ofNat_of_zero_le k0
      have hi : i < K.length := by omega
      rw [aheadL_mem]
      refine ⟨⟨by show 0 ≤ ((σ _ : Nat) : Int); omega, ?_⟩, aheadB_iff.2 ?_⟩
      · show ((σ (Int.toNat (i : Int)) : Nat) : Int) < _
        rw [Int.toNat_natCast]
        have := h.len i hi; omega
      · show Ahead L ((σ (Int.toNat (i : Int)) : Nat) : Int) _
        rw [Int.toNat_natCast]
        exact (h.ahead hi hj).1 (aheadB_iff.1 k2)
    · have hpw : (aheadL K j).Pairwise (· < ·) := (idxs_pw _).filter _
      have hpm : ((aheadL K j).map f).Pairwise (· < ·) := by
        rw [List.pairwise_map]
        refine List.Pairwise.imp_of_mem (fun {a b} ha hb hab => ?_) hpw
        have a0 := (aheadL_mem.1 ha).1.1
        have b0 := (aheadL_mem.1 hb).1.1
        have := h.mono a.toNat b.toNat (by omega)
        show ((σ a.toNat : Nat) : Int) < ((σ b.toNat : Nat) : Int)
        omega
      exact hpm.imp (fun hab => by omega)
    · exact ((idxs_nodup _).filter _).filter _
  rw [demL_perm hp] at h1
  refine Int.le_trans h1 ?_
  exact demL_nonneg _ _ (fun k hk => by
    obtain ⟨⟨k0, k1⟩, _⟩ := aheadL_mem.1 hk
    exact (demT_bd hL (taAt_mem' k0 k1) hv).1)
theorem Sim.meet (h : Sim K L σ) (hK : ValidT K) (hL : ValidT L) {j : Nat} (hj : j < K.length) {F S : Int} (hm : meetB L F S (σ j) = true) : meetB K F S j = true ∧ winN K F S j ≤ winN L F S (σ j) := by
  unfold meetB at hm ⊢
  rw [Bool.and_eq_true, decide_eq_true_eq, decide_eq_true_eq] at hm ⊢
  obtain ⟨y, hy, y1, y2, y3, _⟩ := (isWin L F S (σ j)).some_ (by omega)
  have hd := h.dem hK hL hj (v := (y : Int)) (by omega)
  have hI := isWin K F S j
  have hb := winN_bd K F S j
  have hjt := h.jit j hj
  have hdl := h.dl j hj
  by_cases h0 : winN K F S j = 0
  · exact absurd (by omega) (hI.none_ h0 y y1 y2)
  · obtain ⟨x, hx, x1, x2, x3, x4⟩ := hI.some_ h0
    have hxy : x ≤ y := by
      rcases Nat.lt_or_ge y x with q | q
      · exact absurd (by omega) (x4 y y1 q)
      · exact q
    omega
theorem Sim.acc (h : Sim K L σ) (hK : ValidT K) (hL : ValidT L) {F S : Int} (ha : accB L F S = true) : accB K F S = true :=
  accB_iff.2 (fun j hj => (h.meet hK hL hj (accB_iff.1 ha (σ j) (h.len j hj))).1)
end
end Go.Proofs.YtmahagcghpoekaaGreat
namespace Go.Proofs.YtmahagcghpoekaaGreat
open Go.RowKit
set_option linter.unusedSimpArgs false
set_option linter.unusedVariables false
def setPri (L : List Ta) (k : Int) (p : Int) : List Ta := L.set k.toNat { taAt L k with pri := p }
/-- tasks with the priorities of an order, the first rank first -/
def ordFrom (N : Nat) : Nat → List Int → List Ta → List Ta
  | _, [], L => L
  | r, k :: ks, L => ordFrom N (r + 1) ks (setPri L k ((N : Int) - 1 - r))
def ordL (L : List Ta) (o : List Int) : List Ta := ordFrom o.length 0 o L
theorem setPri_len (L : List Ta) (k p : Int) : (setPri L k p).length = L.length := by simp [setPri]
theorem ordFrom_len (N : Nat) : ∀ (ks : List Int) (r : Nat) (L : List Ta), (ordFrom N r ks L).length = L.length
  | [], _, _ => rfl
  | k :: ks, r, L => by rw [ordFrom, ordFrom_len N ks, setPri_len]
theorem ordL_len (L : List Ta) (o : List Int) : (ordL L o).length = L.length := ordFrom_len _ _ _ _
theorem setPri_at {L : List Ta} {k : Int} (h0 : 0 ≤ k) (h1 : k < L.length) (p : Int) {i : Int} (hi : 0 ≤ i) : taAt (setPri L k p) i = if i = k then { taAt L k with pri := p } else taAt L i := by
  unfold setPri
  simp only [taAt, List.getElem?_set]
  by_cases e : i = k
  · subst e
    rw [if_pos rfl, if_pos rfl, if_pos (by omega)]; rfl
  · rw [if_neg (by omega), if_neg e]
/-- the priority that an order gives -/
def prO (N : Nat) : Nat → List Int → Int → Int → Int
  | _, [], _, p => p
  | r, k :: ks, i, p => prO N (r + 1) ks i (if i = k then (N : Int) - 1 - r else p)
theorem ordFrom_at (N : Nat) {i : Int} (hi : 0 ≤ i) : ∀ (ks : List Int) (r : Nat) (L : List Ta), (∀ k ∈ ks, 0 ≤ k ∧ k < L.length) → taAt (ordFrom N r ks L) i = { taAt L i with pri := prO N r ks i (taAt L i).pri }
  | [], _, L, _ => rfl
  | k :: ks, r, L, h => by
    have hk := h k (by simp)
    rw [ordFrom, ordFrom_at N hi ks (r + 1) _ (fun j hj => by rw [setPri_len]; exact h j (by simp [hj])), setPri_at hk.1 hk.2 _ hi, prO]
    by_cases e : i = k
    · subst e; rw [if_pos rfl, if_pos rfl]
    · rw [if_neg e, if_neg e]
theorem prO_no (N : Nat) {i : Int} : ∀ (ks : List Int) (r : Nat) (p : Int), i ∉ ks → prO N r ks i p = p
  | [], _, _, _ => rfl
  | k :: ks, r, p, h => by
    rw [prO, if_neg (fun e => h (by simp [e]))]
    exact prO_no N ks (r + 1) p (fun hm => h (by simp [hm]))
theorem prO_get (N : Nat) {i : Int} : ∀ (ks : List Int) (r j : Nat) (p : Int), ks.Nodup → ks[j]? = some i → prO N r ks i p = (N : Int) - 1 - ((r + j : Nat) : Int)
  | [], _, _, _, _, h => by simp at h
  | k :: ks, r, 0, p, hn, h => by
    simp at h; subst h
    rw [prO, if_pos rfl]
    exact prO_no N ks _ _ (List.nodup_cons.1 hn).1
  | k :: ks, r, j + 1, p, hn, h => by
    rw [prO, prO_get N ks (r + 1) j _ (List.nodup_cons.1 hn).2 (by simpa using h)]
    omega
/-- an order of all tasks -/
structure IsOrd (n : Nat) (o : List Int) : Prop where
  perm : o.Perm (idxs n)
theorem IsOrd.nodup {n : Nat} {o : List Int} (h : IsOrd n o) : o.Nodup := h.perm.nodup_iff.2 (idxs_nodup n)
theorem IsOrd.mem {n : Nat} {o : List Int} (h : IsOrd n o) {x : Int} : x ∈ o ↔ 0 ≤ x ∧ x < n := by rw [h.perm.mem_iff, idxs_mem]
theorem IsOrd.len {n : Nat} {o : List Int} (h : IsOrd n o) : o.length = n := by rw [h.perm.length_eq, idxs_len]
theorem ordL_at {L : List Ta} {o : List Int} (h : IsOrd L.length o) {i : Int} (hi : 0 ≤ i) : taAt (ordL L o) i = { taAt L i with pri := prO o.length 0 o i (taAt L i).pri } :=
  ordFrom_at _ hi o 0 L (fun k hk => h.mem.1 hk)
theorem ordL_pri {L : List Ta} {o : List Int} (h : IsOrd L.length o) {i : Int} {j : Nat} (hj : o[j]? = some i) : priI (ordL L o) i = (L.length : Int) - 1 - j := by
  have hi := h.mem.1 (List.mem_of_getElem? hj)
  unfold priI
  rw [ordL_at h hi.1]
  show prO _ _ _ _ _ = _
  rw [prO_get _ o 0 j _ h.nodup hj, h.len]
  omega
theorem ordL_ahead {L : List Ta} {o : List Int} (h : IsOrd L.length o) {a b : Int} {p q : Nat} (hp : o[p]? = some a) (hq : o[q]? = some b) : Ahead (ordL L o) a b ↔ p < q := by
  unfold Ahead
  rw [ordL_pri h hp, ordL_pri h hq]
  constructor
  · rintro (h1 | ⟨h1, h2⟩)
    · omega
    · have : p = q := by omega
      subst this; rw [hp] at hq; simp at hq; omega
  · intro h1; left; omega
theorem idx_of_mem {o : List Int} {x : Int} (h : x ∈ o) : ∃ p : Nat, o[p]? = some x := List.getElem?_of_mem h
/-- those ahead of a task are those in front of it -/
theorem ordL_front {L : List Ta} {pre post : List Int} {k : Int} (h : IsOrd L.length (pre ++ k :: post)) : (aheadL (ordL L (pre ++ k :: post)) k).Perm pre := by
  have hk : (pre ++ k :: post)[pre.length]? = some k := by simp
  have hnp : pre.Nodup := (List.nodup_append.1 h.nodup).1
  refine (List.perm_ext_iff_of_nodup ((idxs_nodup _).filter _) hnp).2 (fun x => ?_)
  show x ∈ aheadL (ordL L (pre ++ k :: post)) k ↔ _
  rw [aheadL_mem, ordL_len, aheadB_iff]
  constructor
  · rintro ⟨hx, ha⟩
    obtain ⟨p, hp⟩ := idx_of_mem (h.mem.2 hx)
    have := (ordL_ahead h hp hk).1 ha
    rw [List.getElem?_append_left this] at hp
    exact List.mem_of_getElem? hp
  · intro hx
    obtain ⟨p, hp⟩ := idx_of_mem hx
    have hlt := (List.getElem?_eq_some_iff.1 hp).1
    have hp' : (pre ++ k :: post)[p]? = some x := by rw [List.getElem?_append_left hlt]; exact hp
    exact ⟨h.mem.1 (List.mem_of_getElem? hp'), (ordL_ahead h hp' hk).2 hlt⟩
theorem demL_same {K L : List Ta} {v : Int} : ∀ (ks : List Int) (n : Int), (∀ k ∈ ks, demT (taAt K k) v = demT (taAt L k) v) → demL K v ks n = demL L v ks n
  | [], _, _ => rfl
  | k :: ks, n, h => by
    show demL K v ks (n + demT (taAt K k) v) = demL L v ks (n + demT (taAt L k) v)
    rw [h k (by simp)]
    exact demL_same ks _ (fun j hj => h j (by simp [hj]))
theorem ordL_dem {L : List Ta} {pre post : List Int} {k : Int} (h : IsOrd L.length (pre ++ k :: post)) (v : Int) :
    demN (ordL L (pre ++ k :: post)) k v = demL L v pre (costT (taAt L k) + blockN (ordL L (pre ++ k :: post)) k) := by
  have hk := h.mem.1 (show k ∈ pre ++ k :: post by simp)
  have e1 : ownN (ordL L (pre ++ k :: post)) k = costT (taAt L k) + blockN (ordL L (pre ++ k :: post)) k := by
    unfold ownN; rw [ordL_at h hk.1]; rfl
  unfold demN
  rw [demL_perm (ordL_front h), e1]
  refine demL_same pre _ (fun j hj => ?_)
  have hj' := h.mem.1 (show j ∈ pre ++ k :: post by simp [hj])
  rw [ordL_at h hj'.1]; rfl
/-- the order in which a task is tried -/
def tryO (free : List Int) (k : Int) (placed : List Int) : List Int := free.filter (fun n => !(n == k)) ++ k :: placed
def asgF (L : List Ta) (F S : Int) : Nat → List Int → List Int → Option (List Int)
  | 0, _, placed => some placed
  | f + 1, free, placed =>
    match free.find? (fun k => meetB (ordL L (tryO free k placed)) F S k) with
    | none => none
    | some k => asgF L F S f (free.filter (fun n => !(n == k))) (k :: placed)
def asgR (L : List Ta) (F S : Int) : List Int × Int :=
  if okB L F S then
    match asgF L F S L.length (idxs L.length) [] with
    | none => ([], 3)
    | some p => if accB (ordL L p) F S then ((ordL L p).map Ta.pri, 0) else ([], 3)
  else ([], 1)
structure FreeOk (n : Nat) (free placed : List Int) : Prop where
  perm : (free ++ placed).Perm (idxs n)
theorem FreeOk.nodup {n : Nat} {free placed : List Int} (h : FreeOk n free placed) : free.Nodup ∧ placed.Nodup ∧ ∀ a ∈ free, a ∉ placed := by
  have := h.perm.nodup_iff.2 (idxs_nodup n)
  obtain ⟨h1, h2, h3⟩ := List.nodup_append.1 this
  exact ⟨h1, h2, fun a ha hb => h3 a ha a hb rfl⟩
theorem filter_ne_perm {free : List Int} {k : Int} (hn : free.Nodup) (hk : k ∈ free) : (free.filter (fun n => !(n == k)) ++ [k]).Perm free := by
  refine (List.perm_ext_iff_of_nodup ?_ hn).2 (fun x => ?_)
  · refine List.nodup_append.2 ⟨hn.filter _, by simp, fun a ha b hb => ?_⟩
    simp at ha hb; omega
  · simp only [List.mem_append, List.mem_filter, List.mem_singleton, Bool.not_eq_true', beq_eq_false_iff_ne]
    constructor
    · rintro (⟨h1, _⟩ | rfl)
      · exact h1
      · exact hk
    · intro h
      by_cases e : x = k
      · exact .inr e
      · exact .inl ⟨h, e⟩
theorem FreeOk.tryO {n : Nat} {free placed : List Int} (h : FreeOk n free placed) {k : Int} (hk : k ∈ free) : IsOrd n (tryO free k placed) := by
  refine ⟨?_⟩
  have h1 := filter_ne_perm h.nodup.1 hk
  unfold Proofs.YtmahagcghpoekaaGreat.tryO
  have : (free.filter (fun n => !(n == k)) ++ k :: placed) = (free.filter (fun n => !(n == k)) ++ [k]) ++ placed := by simp
  rw [this]
  exact (h1.append_right placed).trans h.perm
theorem FreeOk.step {n : Nat} {free placed : List Int} (h : FreeOk n free placed) {k : Int} (hk : k ∈ free) : FreeOk n (free.filter (fun n => !(n == k))) (k :: placed) := ⟨(h.tryO hk).perm⟩
theorem FreeOk.start (n : Nat) : FreeOk n (idxs n) [] := ⟨by simp⟩
theorem asgF_ord {L : List Ta} {F S : Int} : ∀ (f : Nat) (free placed p : List Int), FreeOk L.length free placed → free.length = f → asgF L F S f free placed = some p → IsOrd L.length p
  | 0, free, placed, p, h, hl, e => by
    simp [asgF] at e; subst e
    obtain rfl : free = [] := List.length_eq_zero_iff.1 hl
    exact ⟨by simpa using h.perm⟩
  | f + 1, free, placed, p, h, hl, e => by
    rw [asgF] at e
    split at e
    · simp at e
    · rename_i k hk
      have hm := List.mem_of_find?_eq_some hk
      refine asgF_ord f _ _ p (h.step hm) ?_ e
      have := (filter_ne_perm h.nodup.1 hm).length_eq
      simp at this; omega
theorem asg_ord {L : List Ta} {F S : Int} {p : List Int} (h : asgF L F S L.length (idxs L.length) [] = some p) : IsOrd L.length p :=
  asgF_ord _ _ _ p (FreeOk.start _) (idxs_len _) h
theorem ordL_mem {L : List Ta} {o : List Int} (h : IsOrd L.length o) {u : Ta} (hu : u ∈ ordL L o) : ∃ t ∈ L, ∃ p : Int, 0 ≤ p ∧ p < L.length ∧ u = { t with pri := p } := by
  obtain ⟨i, hi⟩ := List.getElem?_of_mem hu
  have hlt := (List.getElem?_eq_some_iff.1 hi).1
  rw [ordL_len] at hlt
  have e := taAt_of hi
  obtain ⟨j, hj⟩ := idx_of_mem (x := (i : Int)) (h.mem.2 ⟨by omega, by omega⟩)
  have hjl := (List.getElem?_eq_some_iff.1 hj).1
  rw [h.len] at hjl
  have hp := ordL_pri h hj
  unfold priI at hp
  rw [ordL_at h (by omega)] at e hp
  simp only [] at hp
  refine ⟨taAt L i, taAt_mem' (by omega) (by omega), (L.length : Int) - 1 - j, by omega, by omega, ?_⟩
  rw [← e, hp]
theorem ordL_valid {L : List Ta} {o : List Int} (hv : ValidT L) (h : IsOrd L.length o) : validL (ordL L o) = true := by
  have hl := hv.r.len
  unfold validL
  rw [Bool.and_eq_true, List.all_eq_true]
  constructor
  · unfold rightB
    rw [Bool.and_eq_true, decide_eq_true_eq, List.all_eq_true]
    refine ⟨by rw [ordL_len]; exact hl, fun u hu => ?_⟩
    obtain ⟨t, ht, p, h0, h1, rfl⟩ := ordL_mem h hu
    have h2 := hv.r.pcs t ht
    unfold taskB
    rw [Bool.and_eq_true, Bool.and_eq_true, inB_iff, inB_iff, List.all_eq_true]
    refine ⟨⟨by simp only []; omega, by simp only []; omega⟩, fun q hq => ?_⟩
    have := hv.r.piece t ht q hq
    unfold pieceB
    simp only [Bool.and_eq_true, inB_iff]
    omega
  · intro u hu
    obtain ⟨t, ht, p, h0, h1, rfl⟩ := ordL_mem h hu
    exact patB_iff.2 ⟨hv.vp t ht, hv.dl t ht⟩
end Go.Proofs.YtmahagcghpoekaaGreat
namespace Go.Proofs.YtmahagcghpoekaaGreat
open Go.RowKit
set_option linter.unusedSimpArgs false
set_option linter.unusedVariables false
theorem cloneTk_any (a : Option Addr) (n c : Nat) (xs : List TaV) (w : World) (hn : n ≤ 1000) (hR : Rd w a n 6 (xs.map encTa)) (h0 : n = 0 → (a = none ∧ c = 0) ∨ ∃ ad, a = some ad) :
    Calls Tryz.prog 95 #[.slice a n c] w (OutN w.heap.size n 45 6 w (xs.flatMap encTa)) := by
  have hl := hR.length
  rcases a with _ | ad
  · obtain rfl : n = 0 := by
      rcases Nat.eq_zero_or_pos n with q | q
      · exact q
      · obtain ⟨b, off, q2, _⟩ := hR.at_ q; simp at q2
    rcases h0 rfl with ⟨_, rfl⟩ | ⟨ad, q⟩
    · obtain rfl : xs = [] := List.length_eq_zero_iff.1 hl
      have heq := Lib.run_eql_slice_nil (P := Tryz.prog) w 22 45 none 0 0 0 0 Tryz.underlying22
      go_enter Tryz.func95, Tryz.ntmps95
      go_wp2
      go_ret
      exact ⟨_, _, rfl, World.ownsRow_nil _ _ _ _, Below.refl _ _⟩
    · simp at q
  · have HR := Lib.hid hR
    have e1 := ETk
    have HOW : Hid ((w.alloc (.cells #[] 45)).ownsRow w.heap.size 45 6 (.slice (some ⟨w.heap.size, 0, none⟩) 0 0) 0 []) := Lib.hid (World.ownsRow_lit w #[] 0 (Nat.le_refl _) (by decide) rfl)
    have heq := Lib.run_eql_slice_nil (P := Tryz.prog) w 22 45 (some ad) n c 0 0 Tryz.underlying22
    clear hR hl h0
    go_enter Tryz.func95, Tryz.ntmps95
    go_wp2_with (at_builtin; refine wpList_pushAll (B := w.heap.size) (n := 0) (xs := []) rfl _ _ _ rfl e1 encTa_len encTa_one rfl HOW.out rfl (HR.out.ext (by (repeat' (first | (with_reducible exact Below.refl _ _) | (with_reducible assumption) | (with_reducible refine Below.alloc ?_ ?_ _) | (with_reducible refine Below.drew ?_) | (with_reducible refine Below.draws ?_ _) | (with_reducible refine Below.setCell ?_ ?_ _) | (refine Below.then ?_ (by with_reducible assumption)) | go_size)))) (fun _ => .inr ⟨_, rfl⟩) (by omega) (by decide) (by simp) ?_; intro v2 w2 hown2 hv2 hb2)
    rw [Nat.zero_add, List.nil_append] at hown2
    obtain ⟨a', c', rfl⟩ := hv2
    rw [Nat.zero_add] at hown2 ⊢
    go_ret
    exact ⟨_, _, rfl, hown2, Below.trans (by (repeat' (first | (with_reducible exact Below.refl _ _) | (with_reducible assumption) | (with_reducible refine Below.alloc ?_ ?_ _) | (with_reducible refine Below.drew ?_) | (with_reducible refine Below.draws ?_ _) | (with_reducible refine Below.setCell ?_ ?_ _) | (refine Below.then ?_ (by with_reducible assumption)) | go_size))) hb2⟩
theorem clonePc_any (a : Option Addr) (n c : Nat) (xs : List P2) (w : World) (hn : n ≤ 1000) (hR : Rd w a n 2 (xs.map enc2)) (h0 : n = 0 → (a = none ∧ c = 0) ∨ ∃ ad, a = some ad) :
    Calls Tryz.prog 96 #[.slice a n c] w (OutN w.heap.size n 55 2 w (xs.flatMap enc2)) := by
  have hl := hR.length
  rcases a with _ | ad
  · obtain rfl : n = 0 := by
      rcases Nat.eq_zero_or_pos n with q | q
      · exact q
      · obtain ⟨b, off, q2, _⟩ := hR.at_ q; simp at q2
    rcases h0 rfl with ⟨_, rfl⟩ | ⟨ad, q⟩
    · obtain rfl : xs = [] := List.length_eq_zero_iff.1 hl
      have heq := Lib.run_eql_slice_nil (P := Tryz.prog) w 43 55 none 0 0 0 0 Tryz.underlying43
      go_enter Tryz.func96, Tryz.ntmps96
      go_wp2
      go_ret
      exact ⟨_, _, rfl, World.ownsRow_nil _ _ _ _, Below.refl _ _⟩
    · simp at q
  · have HR := Lib.hid hR
    have e1 := EPc
    have HOW : Hid ((w.alloc (.cells #[] 55)).ownsRow w.heap.size 55 2 (.slice (some ⟨w.heap.size, 0, none⟩) 0 0) 0 []) := Lib.hid (World.ownsRow_lit w #[] 0 (Nat.le_refl _) (by decide) rfl)
    have heq := Lib.run_eql_slice_nil (P := Tryz.prog) w 43 55 (some ad) n c 0 0 Tryz.underlying43
    clear hR hl h0
    go_enter Tryz.func96, Tryz.ntmps96
    go_wp2_with (at_builtin; refine wpList_pushAll (B := w.heap.size) (n := 0) (xs := []) rfl _ _ _ rfl e1 enc2_len enc2_one rfl HOW.out rfl (HR.out.ext (by (repeat' (first | (with_reducible exact Below.refl _ _) | (with_reducible assumption) | (with_reducible refine Below.alloc ?_ ?_ _) | (with_reducible refine Below.drew ?_) | (with_reducible refine Below.draws ?_ _) | (with_reducible refine Below.setCell ?_ ?_ _) | (refine Below.then ?_ (by with_reducible assumption)) | go_size)))) (fun _ => .inr ⟨_, rfl⟩) (by omega) (by decide) (by simp) ?_; intro v2 w2 hown2 hv2 hb2)
    rw [Nat.zero_add, List.nil_append] at hown2
    obtain ⟨a', c', rfl⟩ := hv2
    rw [Nat.zero_add] at hown2 ⊢
    go_ret
    exact ⟨_, _, rfl, hown2, Below.trans (by (repeat' (first | (with_reducible exact Below.refl _ _) | (with_reducible assumption) | (with_reducible refine Below.alloc ?_ ?_ _) | (with_reducible refine Below.drew ?_) | (with_reducible refine Below.draws ?_ _) | (with_reducible refine Below.setCell ?_ ?_ _) | (refine Below.then ?_ (by with_reducible assumption)) | go_size))) hb2⟩
theorem ownsT_at {w : World} {B q n c : Nat} {g : List TaV} (h : w.ownsRow B 45 6 (.slice (some ⟨q, 0, none⟩) n c) n (g.flatMap encTa)) {k : Nat} {t : TaV} (hk : g[k]? = some t) (j : Nat) (hj : j < 6) : w.cell? ⟨q, k * 6 + j, none⟩ = (encTa t)[j]? := by
  obtain ⟨hi, rfl⟩ := List.getElem?_eq_some_iff.1 hk
  have hl := (Rd.of_owns encTa_len (by decide) h).length
  have : (k + 1) * 6 ≤ n * 6 := Nat.mul_le_mul_right 6 (by omega)
  rw [h.cellAt (k * 6 + j) (by omega), flat_get encTa_len g k j hi hj]
set_option maxRecDepth 100000 in
set_option maxHeartbeats 4000000 in
theorem pcopied_M (a : Option Addr) (n c : Nat) (L : List Ta) (hn : n ≤ 1000) (hP : ∀ t ∈ L, t.pcs.length ≤ 1000) (w : World) (hL : RdL w a n L) (hN : NilOk a n c) :
    Calls Tryz.prog 70 #[.slice a n c] w (OutM w n L) := by
  obtain ⟨g, hG, rfl⟩ := hL
  have HR := Lib.hid hG
  have HG0 := Lib.hid hG.length
  have hN' : n = 0 → (a = none ∧ c = 0) ∨ ∃ ad, a = some ad := hN
  have HNN := Lib.hid hN'
  have HH : Hid (∀ t ∈ g, t.n ≤ 1000) := Lib.hid (fun t ht => by
    have h1 := hP t.ta (List.mem_map_of_mem ht)
    have h2 := (hG.ok t ht).1.length
    have h3 : t.ta.pcs.length = t.pcs.length := rfl
    omega)
  clear hG hP hN hN'
  go_enter Tryz.func70, Tryz.ntmps70
  go_wp2_with (go_at_call 95; (with_reducible refine (cloneTk_any _ _ _ g _ hn HR.out.rd HNN.out).mono ?_); rintro e w1 ⟨a1, c1, rfl, hown1, hb1⟩; have HO1 := Lib.hid hown1; have HB1 := Lib.hid hb1; clear hown1 hb1)
  go_loopw [9] (fun i wr => ∃ (k : Nat) (g' : List TaV), k ≤ n ∧ i = .int .i64 k ∧ g'.length = k ∧ wr.ownsRow w.heap.size 45 6 (.slice a1 n c1) n ((g' ++ g.drop k).flatMap encTa) ∧ (∀ t ∈ g', PcO w.heap.size wr t) ∧ PcAp g' ∧ g'.map TaV.ta = (g.take k).map TaV.ta ∧ Below w.heap.size w wr) (fun i _ => n - (intOf i).toNat)
  case atStart => exact ⟨0, [], Nat.zero_le _, rfl, rfl, HO1.out, by simp, List.Pairwise.nil, rfl, HB1.out⟩
  case round =>
    obtain ⟨k, g', hk, rfl, hl, hO, hok, hap, hg', hB⟩ := hrel
    have HO := Lib.hid hO; have HB := Lib.hid hB; have HG' := Lib.hid hg'; have HOK := Lib.hid hok; have HAP := Lib.hid hap; have HL := Lib.hid hl
    have hz := hB.size
    clear hO hB hg' hok hap hl HO1
    by_cases hlt : k < n
    · obtain ⟨q, rfl, hq1, hq⟩ := owns_addr HO.out (by omega)
      have hkl : k < g.length := by rw [HG0.out]; exact hlt
      have hgd : g.drop k = g[k] :: g.drop (k + 1) := List.drop_eq_getElem_cons hkl
      have hgm : g[k] ∈ g := List.getElem_mem hkl
      obtain ⟨b, off, rfl, hb0, hc⟩ := HR.out.rd.at_ (by omega)
      have x5 := hc k (by simpa using hkl) 5 (by omega)
      obtain ⟨t, ht⟩ : ∃ t, g[k] = t := ⟨_, rfl⟩
      rw [ht] at hgd hgm
      have hgk : (g.map encTa)[k]'(by simpa using hkl) = encTa t := by rw [List.getElem_map, ht]
      rw [hgk] at x5
      have htn : t.n ≤ 1000 := HH.out _ hgm
      have hok := (HR.out.ok t hgm).ext HB.out
      obtain ⟨pri, dl, fi, ga, ji, ta, tn, tc, ps⟩ := t
      simp [encTa] at x5
      simp only [] at htn
      have h5 := (HB.out.cell (p := ⟨b, off + k * 6 + 5, none⟩) hb0).trans x5
      have hbr : b < wr.heap.size := by omega
      have HT1 : Hid (Rd wr ta tn 2 (ps.map enc2)) := Lib.hid hok.1
      have HT2 : Hid (tn = 0 → (ta = none ∧ tc = 0) ∨ ∃ ad, ta = some ad) := Lib.hid hok.2
      have HTK := Lib.hid (take_of_drop hgd)
      have hpl : (g' ++ g.drop k)[k]? = some (⟨pri, dl, fi, ga, ji, ta, tn, tc, ps⟩ : TaV) := by
        rw [List.getElem?_append_right (by rw [HL.out]; exact Nat.le_refl _), HL.out, Nat.sub_self, hgd]; rfl
      have HPL := Lib.hid hpl
      have HGD := Lib.hid hgd
      have hcq := ownsT_at HO.out hpl 5 (by omega)
      have hfq := HO.out.frozenAt (k * 6 + 5)
      simp [encTa] at hcq
      clear ht hgd hgm hpl hok x5 hc hgk
      go_wp2_with (go_at_call 96; (with_reducible refine (clonePc_any _ _ _ ps _ htn HT1.out HT2.out).mono ?_); rintro e w2 ⟨a2, c2, rfl, hown2, hb2⟩; have HO2 := Lib.hid hown2; have HB2 := Lib.hid hb2; (have hc2 := (hb2.cell (p := ⟨q, k * 6 + 5, none⟩) hq).trans hcq); (have hf2 := (hb2.frozen (p := ⟨q, k * 6 + 5, none⟩) hq).trans hfq); have hz2 := hb2.size; clear hown2 hb2)
      go_roundw
      case rel =>
        have hs := (owns_ext HO.out HB2.out).stored (k * 6 + 5) (.slice a2 tn c2)
        rw [flat_set encTa_len _ k 5 _ ⟨pri, dl, fi, ga, ji, a2, tn, c2, ps⟩ _ HPL.out (by omega) rfl] at hs
        have hst : ∀ {t : TaV} {B : Nat}, PcO B w2 t → PcO B (w2.setCell ⟨q, k * 6 + 5, none⟩ (.slice a2 tn c2)) t := fun h => owns_kept h (owns_ext HO.out HB2.out) (by decide) hs.2
        refine ⟨k + 1, g' ++ [⟨pri, dl, fi, ga, ji, a2, tn, c2, ps⟩], by omega, by go_num, by simp [HL.out], ?_, ?_, ?_, ?_, ?_⟩
        · have e : (g' ++ g.drop k).set k (⟨pri, dl, fi, ga, ji, a2, tn, c2, ps⟩ : TaV) = g' ++ [⟨pri, dl, fi, ga, ji, a2, tn, c2, ps⟩] ++ g.drop (k + 1) := by
            rw [List.set_append_right _ _ (by rw [HL.out]; exact Nat.le_refl _), HL.out, Nat.sub_self, HGD.out, List.append_assoc]; rfl
          rw [← e]; exact hs.1
        · intro t ht
          rcases List.mem_append.1 ht with ht | ht
          · exact hst (owns_ext (HOK.out t ht) HB2.out)
          · simp at ht; subst ht; exact hst (owns_mono HO2.out hz)
        · refine List.pairwise_append.2 ⟨HAP.out, List.pairwise_singleton _ _, ?_⟩
          intro t ht u hu x hx hy
          simp at hu
          subst hu
          have h1 := (PcO.low (HOK.out t ht) x hx).2
          have h2 := (PcO.low (B := wr.heap.size) (t := ⟨pri, dl, fi, ga, ji, a2, tn, c2, ps⟩) HO2.out x hy).1
          omega
        · rw [HTK.out, List.map_append, List.map_append, HG'.out]; rfl
        · exact (Below.then HB.out HB2.out).setCell (p := ⟨q, k * 6 + 5, none⟩) hq1 _
      case measure => simp [intOf]; omega
    · have hkn : k = n := by omega
      subst hkn
      have e1 : g.drop k = [] := List.drop_of_length_le (by rw [HG0.out]; exact Nat.le_refl _)
      have e2 : g.take k = g := List.take_of_length_le (by rw [HG0.out]; exact Nat.le_refl _)
      have hO := HO.out
      rw [e1, List.append_nil] at hO
      have hg := HG'.out
      rw [e2] at hg
      have HO9 := Lib.hid hO; have HG9 := Lib.hid hg
      clear hO hg e1 e2
      go_wp2
      go_ret
      exact ⟨_, _, _, rfl, ⟨⟨HO9.out, HOK.out⟩, HAP.out⟩, HG9.out, HB.out⟩
end Go.Proofs.YtmahagcghpoekaaGreat
namespace Go.Proofs.YtmahagcghpoekaaGreat
open Go.RowKit
set_option linter.unusedSimpArgs false
set_option linter.unusedVariables false
set_option maxRecDepth 100000 in
set_option maxHeartbeats 4000000 in
theorem ordered_M (a : Option Addr) (n c : Nat) (L : List Ta) (b : Option Addr) (m d : Nat) (o : List Int) (hn : n ≤ 5) (hP : ∀ t ∈ L, t.pcs.length ≤ 1000) (w : World) (hL : RdL w a n L) (hN : NilOk a n c) (hO : Rd w b m 1 (o.map enc1)) (hm : m ≤ 5) (ho : ∀ k ∈ o, 0 ≤ k ∧ k < n) :
    Calls Tryz.prog 39 #[.slice a n c, .slice b m d] w (OutM w n (ordL L o)) := by
  have HR := Lib.hid hL; have HP := Lib.hid hP; have HNN := Lib.hid hN; have HO := Lib.hid hO; have HRG := Lib.hid ho
  have HOL := Lib.hid hO.length
  have HLL := Lib.hid hL.length
  obtain ⟨R, hR⟩ : ∃ R, ordL L o = R := ⟨_, rfl⟩
  have HA : Hid (ordFrom m 0 (o.drop 0) L = R) := Lib.hid (by rw [← hR, ordL, hO.length]; rfl)
  rw [hR]
  clear hL hP hN hO ho hR
  go_enter Tryz.func39, Tryz.ntmps39
  go_wp2_with (go_at_call 70; (with_reducible refine (pcopied_M _ _ _ L (by omega) HP.out _ HR.out HNN.out).mono ?_); rintro e w1 ⟨a1, c1, g1, rfl, hm1, hg1, hb1⟩; have HM1 := Lib.hid hm1; have HG1 := Lib.hid hg1; have B1 := Lib.hid hb1; clear hm1 hb1 hg1)
  go_loopw [12] (fun i wr => ∃ (r : Nat) (g : List TaV), r ≤ m ∧ i = .int .i64 r ∧ MutT w.heap.size wr a1 n c1 g ∧ ordFrom m r (o.drop r) (g.map TaV.ta) = R ∧ Below w.heap.size w wr) (fun i _ => m - (intOf i).toNat)
  case atStart => exact ⟨0, g1, Nat.zero_le _, rfl, HM1.out, by rw [HG1.out]; exact HA.out, B1.out⟩
  case round =>
    obtain ⟨r, g, hr, rfl, hmm, he, hB⟩ := hrel
    have HM := Lib.hid hmm; have HE := Lib.hid he; have HB := Lib.hid hB
    have hgl := hmm.rd.length
    clear hmm he hB HM1 HG1 B1 HA
    by_cases hlt : r < m
    · obtain ⟨x, b1, o1, rfl, hb1, hc1, hx1⟩ := (HO.out.ext HB.out).idx r hlt
      obtain ⟨hx0, hxn⟩ := HRG.out x (List.mem_of_getElem? hx1)
      obtain ⟨k, rfl⟩ := Int.eq_ofNat_of_zero_le hx0
      have hkn : k < n := by omega
      obtain ⟨q, rfl, hq1, hq2⟩ := HM.out.addr (by omega)
      obtain ⟨t, ht⟩ : ∃ t, g[k]? = some t := ⟨_, List.getElem?_eq_getElem (by omega)⟩
      obtain ⟨c0, f0⟩ := HM.out.at_ ht 0 (by omega)
      obtain ⟨pri, dl, fi, ga, ji, ta, tn, tc, ps⟩ := t
      simp [encTa] at c0
      simp only [Nat.add_zero] at f0
      have hE := HE.out
      have hod : o.drop r = (k : Int) :: o.drop (r + 1) := by obtain ⟨h1, h2⟩ := List.getElem?_eq_some_iff.1 hx1; rw [List.drop_eq_getElem_cons h1, h2]
      rw [hod, ordFrom] at hE
      have hset : (g.set k ⟨(m : Int) - 1 - r, dl, fi, ga, ji, ta, tn, tc, ps⟩).map TaV.ta = setPri (g.map TaV.ta) k ((m : Int) - 1 - r) := by
        rw [set_map, setPri, taAt_of (by rw [List.getElem?_map, ht]; rfl), Int.toNat_natCast]; rfl
      rw [← hset] at hE
      have HE2 := Lib.hid hE
      have M : MutT w.heap.size (wr.setCell ⟨q, k * 6, none⟩ (.int .i64 ((m : Int) - 1 - r))) (some ⟨q, 0, none⟩) n c1 (g.set k ⟨(m : Int) - 1 - r, dl, fi, ga, ji, ta, tn, tc, ps⟩) := HM.out.set ht 0 (by omega) (.int .i64 ((m : Int) - 1 - r)) rfl rfl rfl rfl rfl
      have HM2 := Lib.hid M
      have hwr1 : IntKind.i64.wrap ((m : Int) - 1) = (m : Int) - 1 := IntWalk.i64_in _ (by omega)
      have hwr2 : IntKind.i64.wrap ((m : Int) - 1 - r) = (m : Int) - 1 - r := IntWalk.i64_in _ (by omega)
      clear hE hset hod hx1 ht M HE
      go_wp2_with fail
      go_roundw
      case rel => exact ⟨r + 1, _, by omega, by go_num, HM2.out, HE2.out, HB.out.setCell hq1 _⟩
      case measure => simp [intOf]; omega
    · have hE := HE.out
      rw [List.drop_of_length_le (by rw [HOL.out]; omega), ordFrom] at hE
      have HE2 := Lib.hid hE
      clear hE
      go_wp2_with fail
      go_ret
      exact ⟨_, _, _, rfl, HM.out, HE2.out, HB.out⟩
end Go.Proofs.YtmahagcghpoekaaGreat
namespace Go.Proofs.YtmahagcghpoekaaGreat
open Go.RowKit
set_option linter.unusedSimpArgs false
set_option linter.unusedVariables false
def hasI (l : List Int) (n : Int) : Bool := l.any (fun x => x == n)
theorem hasI_cons {x : Int} {l : List Int} {n : Int} : hasI (x :: l) n = (x == n || hasI l n) := rfl
theorem hasI_iff {l : List Int} {n : Int} : hasI l n = true ↔ n ∈ l := by simp [hasI]
/-- those without a place -/
def freeL (n : Nat) (placed : List Int) : List Int := (idxs n).filter (fun i => !(hasI placed i))
theorem tryO_free (n : Nat) (k : Int) (placed : List Int) : tryO (freeL n placed) k placed = (idxs n).filter (fun i => !(i == k) && !(hasI placed i)) ++ k :: placed := by
  unfold tryO freeL
  rw [List.filter_filter]
/-- a row of ints that reads as xs -/
def OutRd (w : World) (xs : List Int) (e : Ending) (w' : World) : Prop :=
  ∃ a l c, e = .returned (.slice a l c) ∧ Rd w' a l 1 (xs.map enc1) ∧ Below w.heap.size w w'
theorem filter_take_succ {p : Int → Bool} {n k : Nat} (h : k < n) : ((idxs n).take (k + 1)).filter p = ((idxs n).take k).filter p ++ (if p k = true then [(k : Int)] else []) := by
  rw [List.take_add_one, idxs_get h, List.filter_append]
  congr 1
  by_cases e : p k = true
  · simp [e]
  · simp [e]
/-- what the closure of Assign has captured -/
structure AsC (L : List Ta) (F S : Int) (a : Option Addr) (n c fb lb pb sb : Nat) (free placed : List Int) (w : World) : Prop where
  l0 : w.cell? ⟨lb, 0, none⟩ = some (.slice a n c)
  s0 : w.cell? ⟨sb, 0, none⟩ = some (.int .i64 F)
  s1 : w.cell? ⟨sb, 1, none⟩ = some (.int .i64 S)
  f0 : ∃ a2 n2 c2, w.cell? ⟨fb, 0, none⟩ = some (.slice a2 n2 c2) ∧ Rd w a2 n2 1 (free.map enc1) ∧ (n2 = 0 → (a2 = none ∧ c2 = 0) ∨ ∃ ad, a2 = some ad)
  p0 : ∃ a3 n3 c3, w.cell? ⟨pb, 0, none⟩ = some (.slice a3 n3 c3) ∧ Rd w a3 n3 1 (placed.map enc1) ∧ (n3 = 0 → (a3 = none ∧ c3 = 0) ∨ ∃ ad, a3 = some ad)
  rd : RdL w a n L
theorem keep_cA {w w' : World} (hb : Below w.heap.size w w') {b o : Nat} {v : Value} (h : w.cell? ⟨b, o, none⟩ = some v) : w'.cell? ⟨b, o, none⟩ = some v := (hb.cell (p := ⟨b, o, none⟩) (World.block_lt_of_cell? w _ h)).trans h
theorem AsC.ext {L : List Ta} {F S : Int} {a : Option Addr} {n c fb lb pb sb : Nat} {free placed : List Int} {w w' : World} (h : AsC L F S a n c fb lb pb sb free placed w) (hb : Below w.heap.size w w') : AsC L F S a n c fb lb pb sb free placed w' := by
  obtain ⟨a2, n2, c2, h1, h2, h3⟩ := h.f0
  obtain ⟨a3, n3, c3, k1, k2, k3⟩ := h.p0
  exact ⟨keep_cA hb h.l0, keep_cA hb h.s0, keep_cA hb h.s1, ⟨a2, n2, c2, keep_cA hb h1, h2.ext hb, h3⟩, ⟨a3, n3, c3, keep_cA hb k1, k2.ext hb, k3⟩, h.rd.ext hb⟩
theorem nodup_get {xs : List Int} (h : xs.Nodup) {i j : Nat} {x : Int} (hi : xs[i]? = some x) (hj : xs[j]? = some x) : i = j := by
  have hl := (List.getElem?_eq_some_iff.1 hi).1
  exact (List.getElem?_inj hl h).1 (hi.trans hj.symm)
theorem idxGo_get {xs : List Int} {k : Int} : ∀ (r : Nat), k ∈ xs → ∃ i : Nat, idxGo (fun v => v == k) r xs = ((r + i : Nat) : Int) ∧ xs[i]? = some k := by
  induction xs with
  | nil => intro r h; simp at h
  | cons x xs ih =>
    intro r h
    by_cases e : x = k
    · subst e; exact ⟨0, by simp [idxGo], rfl⟩
    · have hm : k ∈ xs := by rcases List.mem_cons.1 h with h | h; exact absurd h.symm e; exact h
      obtain ⟨i, h1, h2⟩ := ih (r + 1) hm
      refine ⟨i + 1, ?_, by simpa using h2⟩
      rw [idxGo, if_neg (by simpa using e), h1]
      congr 1; omega
theorem cutL_filter {xs : List Int} (hn : xs.Nodup) {k : Int} {i : Nat} (hi : xs[i]? = some k) : cutL xs i = xs.filter (fun n => !(n == k)) := by
  obtain ⟨hl, e⟩ := List.getElem?_eq_some_iff.1 hi
  have hx : xs = xs.take i ++ k :: xs.drop (i + 1) := by rw [← e, ← List.drop_eq_getElem_cons hl, List.take_append_drop]
  have hnd := hn
  rw [hx] at hnd
  obtain ⟨h1, h2, h3⟩ := List.nodup_append.1 hnd
  have h4 := List.nodup_cons.1 h2
  have ft : ∀ l : List Int, k ∉ l → l.filter (fun n => !(n == k)) = l := fun l hl => List.filter_eq_self.2 (fun x hx => by
    have : x ≠ k := fun e => hl (e ▸ hx)
    simpa using this)
  conv => rhs; rw [hx]
  rw [List.filter_append, List.filter_cons, if_neg (by simp), ft _ (fun h => h3 k h k (by simp) rfl), ft _ h4.1]
  rfl
set_option maxRecDepth 100000 in
set_option maxHeartbeats 8000000 in
theorem asgC_any (a : Option Addr) (n c fb lb pb sb : Nat) (F S : Int) (L : List Ta) (free placed : List Int) (k : Int) (w : World) (hv : ValidT L) (hS : supB F S = true) (hf : FreeOk n free placed) (hk : k ∈ free) (hN : NilOk a n c) (hc : AsC L F S a n c fb lb pb sb free placed w) :
    Calls Tryz.prog 34 #[.int .i64 k, .pointer (some ⟨fb, 0, none⟩), .pointer (some ⟨lb, 0, none⟩), .pointer (some ⟨pb, 0, none⟩), .pointer (some ⟨sb, 0, none⟩)] w fun e w' => e = .returned (.bool (meetB (ordL L (tryO free k placed)) F S k)) ∧ Below w.heap.size w w' := by
  have hll := hc.rd.length
  have hord := hf.tryO hk
  have hkr := hord.mem.1 (show k ∈ tryO free k placed by unfold tryO; simp)
  obtain ⟨kk, rfl⟩ := Int.eq_ofNat_of_zero_le hkr.1
  have hkn : kk < n := by omega
  obtain ⟨R, hR⟩ : ∃ R, meetB (ordL L (tryO free kk placed)) F S kk = R := ⟨_, rfl⟩
  have HRR := Lib.hid hR
  rw [hR]
  have HRG : Hid (∀ x ∈ tryO free kk placed, 0 ≤ x ∧ x < n) := Lib.hid (fun x hx => hord.mem.1 hx)
  have HPN : Hid (∀ t ∈ L, t.pcs.length ≤ 1000) := Lib.hid (fun t ht => by have := (hv.r.pcs t ht).2; omega)
  have HVO : Hid (ValidT (ordL L (tryO free kk placed))) := Lib.hid (valid_of (ordL_valid hv (by rw [hll]; exact hord)))
  obtain ⟨too, hto⟩ : ∃ l, tryO free kk placed = l := ⟨_, rfl⟩
  rw [hto] at HRR HRG HVO
  have HTO := Lib.hid hto
  clear hR hord hkr hto
  obtain ⟨a2, n2, c2, h1, h2, h3⟩ := hc.f0
  have hn5 : n ≤ 5 := by rw [← hll]; exact hv.r.len
  obtain ⟨i, hi1, hi2⟩ := idxGo_get (xs := free) 0 hk
  rw [Nat.zero_add] at hi1
  have hlf := h2.length
  have hin : i < n2 := by rw [← hlf]; exact (List.getElem?_eq_some_iff.1 hi2).1
  have hln : free.length + placed.length = n := by have := hf.perm.length_eq; simp [idxs_len] at this; omega
  obtain ⟨w0, hw0⟩ : ∃ w0, w0 = w.alloc (.cells #[.int .i64 kk] 3) := ⟨_, rfl⟩
  have hb0 : Below w.heap.size w w0 := by rw [hw0]; (repeat' (first | (with_reducible exact Below.refl _ _) | (with_reducible assumption) | (with_reducible refine Below.alloc ?_ ?_ _) | (with_reducible refine Below.drew ?_) | (with_reducible refine Below.draws ?_ _) | (with_reducible refine Below.setCell ?_ ?_ _) | (refine Below.then ?_ (by with_reducible assumption)) | go_size))
  have q0 : w0.cell? ⟨w.heap.size, 0, none⟩ = some (.int .i64 kk) := by rw [hw0]; simp [go_sem]
  have hz0 : w0.heap.size = w.heap.size + 1 := by rw [hw0]; simp
  have B0 := Lib.hid hb0
  obtain ⟨a3, n3, c3, p1, p2, p3⟩ := (hc.ext hb0).p0
  have h1' := keep_cA hb0 h1
  have hn3 := p2.length
  have HH2 := Lib.hid (h2.ext hb0); have HH3 := Lib.hid h3; have HC := Lib.hid (hc.ext hb0)
  have HP2 := Lib.hid p2; have HP3 := Lib.hid p3
  have HI1 := Lib.hid hi1; have HI2 := Lib.hid hi2; have HND := Lib.hid hf.nodup.1
  have hl0 := (hc.ext hb0).l0; have hs0 := (hc.ext hb0).s0; have hs1 := (hc.ext hb0).s1
  obtain ⟨kb, hkb⟩ : ∃ x, w.heap.size = x := ⟨_, rfl⟩
  rw [hkb] at q0 hz0
  have HKB := Lib.hid hkb
  have HONE : Hid (∀ j x, i < j → free[j]? = some x → (x == kk) = false) := Lib.hid (fun j x hij hj => by
    rw [beq_eq_false_iff_ne]
    rintro rfl
    have := nodup_get hf.nodup.1 hi2 hj
    omega)
  have HF := Lib.hid hf; have HV := Lib.hid hv; have HS := Lib.hid hS; have HNN := Lib.hid hN; have HK := Lib.hid hk
  clear hc h2 h3 hb0 p2 p3 h1 hi1 hi2 hf hv hS hN hk
  go_enter Tryz.func34, Tryz.ntmps34
  go_upto_region 1 with fail
  rw [← hw0]
  clear hw0 hkb
  go_wp2_with (first
    | (go_at_call 36; (with_reducible refine (cloneA_any _ _ _ free _ (by omega) HH2.out HH3.out).mono ?_); rintro e w1 ⟨a4, c4, rfl, hown1, hb1⟩; obtain ⟨b4, rfl, hb41, hb42⟩ := owns_addr hown1 (by omega); have HO1 := Lib.hid hown1; have B1 := Lib.hid hb1; have q1 := keep_cA hb1 q0; clear hown1 hb1)
    | (go_at_call 35; (with_reducible refine (del_any w0.heap.size b4 n2 c4 i free kk kb _ (by omega) HO1.out (by omega) (by omega) q1 HI1.out hin HONE.out).mono ?_); rintro e w2 ⟨rfl, hown2, hg2⟩; have HO2 := Lib.hid hown2; have B2 := Lib.hid (B1.out.grown hg2 (by omega) (fun j hj => by simp at hj; omega)); clear hown2 hg2))
  have r0 := keep_cA B2.out hl0; have r1 := keep_cA B2.out hs0; have r2 := keep_cA B2.out hs1; have r3 := keep_cA B2.out p1; have r4 := keep_cA B2.out q0
  clear hl0 hs0 hs1 h1' p1 q0
  obtain ⟨W, hW⟩ : ∃ W, ((w2.alloc (.cells #[.int .i64 kk] 3)).alloc (.cells #[.slice (some ⟨b4, 0, none⟩) (n2 - 1) c4, .slice (some ⟨w2.heap.size, 0, none⟩) 1 1, .slice a3 n3 c3] 26)).drew = W := ⟨_, rfl⟩
  have hbW : Below w2.heap.size w2 W := by rw [← hW]; (repeat' (first | (with_reducible exact Below.refl _ _) | (with_reducible assumption) | (with_reducible refine Below.alloc ?_ ?_ _) | (with_reducible refine Below.drew ?_) | (with_reducible refine Below.draws ?_ _) | (with_reducible refine Below.setCell ?_ ?_ _) | (refine Below.then ?_ (by with_reducible assumption)) | go_size))
  have HBW := Lib.hid hbW
  have hrd3 : Rd W (some ⟨w2.heap.size + 1, 0, none⟩) 3 1 (([⟨some ⟨b4, 0, none⟩, n2 - 1, c4, cutL free i⟩, ⟨some ⟨w2.heap.size, 0, none⟩, 1, 1, [(kk : Int)]⟩, ⟨a3, n3, c3, placed⟩] : List ISl).map fun s => [valS s]) := by
    refine ⟨rfl, by omega, fun _ => ⟨_, 0, rfl, by rw [← hW]; simp, fun x hx j hj => ?_⟩⟩
    have hx' : x < 3 := by simpa using hx
    obtain rfl : j = 0 := by omega
    rw [← hW]
    rcases x with _ | _ | _ | x
    · simp [go_sem]
    · simp [go_sem]
    · simp [go_sem]
    · omega
  have hrk : Rd W (some ⟨w2.heap.size, 0, none⟩) 1 1 ([(kk : Int)].map enc1) := by
    refine ⟨rfl, by omega, fun _ => ⟨_, 0, rfl, by rw [← hW]; simp; omega, fun x hx j hj => ?_⟩⟩
    have hx' : x < 1 := by simpa using hx
    obtain rfl : j = 0 := by omega
    obtain rfl : x = 0 := by omega
    rw [← hW]
    simp [go_sem, enc1]
  have hlen1 : (cutL free i).length = n2 - 1 := by rw [cutL_len (by omega)]; omega
  have hcat := concat_any _ 3 3 _ W hrd3 (fun s hs => by
    simp only [List.mem_cons, List.not_mem_nil, or_false] at hs
    rcases hs with rfl | rfl | rfl
    · exact ⟨(ownsI_rd HO2.out).ext hbW, fun _ => .inr ⟨_, rfl⟩⟩
    · exact ⟨hrk, fun h => by simp at h⟩
    · exact ⟨(HP2.out.ext B2.out).ext hbW, HP3.out⟩) (by simp only [sizeS]; omega) (by simp only [sizeS]; omega)
  have hsz : sizeS ([⟨some ⟨b4, 0, none⟩, n2 - 1, c4, cutL free i⟩, ⟨some ⟨w2.heap.size, 0, none⟩, 1, 1, [(kk : Int)]⟩, ⟨a3, n3, c3, placed⟩] : List ISl) = n := by simp only [sizeS]; omega
  have hct : catS ([⟨some ⟨b4, 0, none⟩, n2 - 1, c4, cutL free i⟩, ⟨some ⟨w2.heap.size, 0, none⟩, 1, 1, [(kk : Int)]⟩, ⟨a3, n3, c3, placed⟩] : List ISl) = too := by
    rw [← HTO.out]
    simp only [catS, List.append_nil]
    rw [cutL_filter HND.out HI2.out]; rfl
  rw [hsz, hct] at hcat
  have HCAT := Lib.hid hcat
  have HW := Lib.hid hW
  clear hrd3 hrk hlen1 hcat hsz hct hbW
  have u0 := keep_cA HBW.out r0; have u1 := keep_cA HBW.out r1; have u2 := keep_cA HBW.out r2; have u3 := keep_cA HBW.out r3; have u4 := keep_cA HBW.out r4
  go_region_held3 (fun w' => w'.cell? ⟨lb, 0, none⟩ = some (.slice a n c) ∧ w'.cell? ⟨sb, 0, none⟩ = some (.int .i64 F) ∧ w'.cell? ⟨sb, 1, none⟩ = some (.int .i64 S) ∧ w'.cell? ⟨pb, 0, none⟩ = some (.slice a3 n3 c3) ∧ w'.cell? ⟨kb, 0, none⟩ = some (.int .i64 kk))
    (first | go_keep)
    (first
      | (go_at_call 40; (with_reducible refine (HCAT.out).mono ?_); rintro e w3 ⟨a5, c5, rfl, hown3, hb3⟩; have HO3 := Lib.hid (ownsI_rd hown3); have B3 := Lib.hid (Below.then HBW.out hb3); have x0 := keep_cA B3.out r0; have x1 := keep_cA B3.out r1; have x2 := keep_cA B3.out r2; have x3 := keep_cA B3.out r3; have x4 := keep_cA B3.out r4; clear hown3 hb3)
      | (go_at_call 39; (with_reducible refine (ordered_M _ _ _ L _ _ _ too hn5 HPN.out _ (HC.out.rd.ext (Below.then B2.out B3.out)) HNN.out HO3.out hn5 HRG.out).mono ?_); rintro e w4 ⟨a6, c6, g6, rfl, hm6, hg6, hb6⟩; have HM6 : Hid (RdL w4 a6 n (ordL L too)) := Lib.hid (by rw [← hg6]; exact hm6.rdL); have B4 := Lib.hid hb6; have y0 := keep_cA hb6 x0; have y1 := keep_cA hb6 x1; have y2 := keep_cA hb6 x2; have y3 := keep_cA hb6 x3; have y4 := keep_cA hb6 x4; clear hm6 hg6 hb6)
      | (go_at_call 38; (with_reducible refine (meets_is HM6.out HVO.out HS.out hkn HRR.out).mono ?_); rintro e w5 ⟨rfl, hb7⟩; have B5 := Lib.hid hb7; have z0 := keep_cA hb7 y0; have z1 := keep_cA hb7 y1; have z2 := keep_cA hb7 y2; have z3 := keep_cA hb7 y3; have z4 := keep_cA hb7 y4; clear hb7))
  all_goals
    go_wp2_with fail
    go_ret
    exact ⟨rfl, Below.then B0.out (Below.then B2.out (Below.then B3.out (Below.then B4.out B5.out)))⟩
end Go.Proofs.YtmahagcghpoekaaGreat
namespace Go.Proofs.YtmahagcghpoekaaGreat
open Go.RowKit
set_option linter.unusedSimpArgs false
set_option linter.unusedVariables false
abbrev valI (k : Int) : Value := .int .i64 k
theorem ai_idx (g : Nat) (lb : Array Value) (p : Int → Bool) (a : Option Addr) (n c : Nat) (xs : List Int) (w : World) (hR : Rd w a n 1 (xs.map enc1)) (hf : PredIn g lb valI p xs w) :
    Calls Tryz.prog 33 #[.slice a n c, .func (.func g) #[] lb] w fun e w' => e = .returned (.int .i64 (idxGo p 0 xs)) ∧ Below w.heap.size w w' := by
  have HL := Lib.hid hR.length
  have hs := hR.small
  have HR := Lib.hid hR; clear hR
  have eg := hf.eg
  have HF := Lib.hid hf.gives; clear hf
  generalize hg : idxGo p 0 xs = R
  have HG := Lib.hid hg; clear hg
  go_enter Tryz.func33, Tryz.ntmps33
  go_wp2
  go_loopw [8] (fun i wr => ∃ k : Nat, k ≤ n ∧ i = .int .i64 k ∧ idxGo p k (xs.drop k) = R ∧ Below w.heap.size w wr) (fun i _ => n - (intOf i).toNat)
  case atStart => exact ⟨0, Nat.zero_le _, rfl, HG.out, Below.refl _ _⟩
  case round =>
    obtain ⟨k, hk, rfl, he, hB⟩ := hrel
    have HE := Lib.hid he; clear he
    by_cases hlt : k < n
    · obtain ⟨x, b, off, rfl, hb, hc, hx, _, HD⟩ := (HR.out.ext hB).nextK k hlt
      have h0 := hc 0 (by omega)
      clear hc
      simp [enc1] at h0
      have hcall := HF.out x hx wr hB
      have HB := Lib.hid hB; clear hB
      have HE2 : Hid ((if p x = true then (k : Int) else idxGo p (k + 1) (xs.drop (k + 1))) = R) := by have := HE.out; rw [HD.out] at this; exact this
      cases hq : p x
      · rw [hq] at hcall HE2
        go_wp2_with (go_at_fn g; refine hcall.mono ?_; rintro e w1 ⟨rfl, hb1⟩)
        go_roundw
        case rel => exact ⟨k + 1, by omega, by go_num, by simpa using HE2.out, HB.out.trans (hb1.mono HB.out.size)⟩
        case measure => simp [intOf]; omega
      · rw [hq] at hcall HE2
        have : R = k := by simpa using HE2.out.symm
        subst this
        go_wp2_with (go_at_fn g; refine hcall.mono ?_; rintro e w1 ⟨rfl, hb1⟩)
        go_ret
        exact ⟨rfl, HB.out.trans (hb1.mono HB.out.size)⟩
    · have : R = -1 := by rw [← HE.out, drop_end HL.out (by omega)]; rfl
      subst this
      go_wp2
      go_ret
      exact ⟨rfl, hB⟩

theorem idxGo_find {p : Int → Bool} : ∀ (xs : List Int) (r : Nat), (idxGo p r xs = -1 ∧ xs.find? p = none) ∨ ∃ (i : Nat) (k : Int), idxGo p r xs = ((r + i : Nat) : Int) ∧ xs[i]? = some k ∧ xs.find? p = some k
  | [], r => .inl ⟨rfl, rfl⟩
  | x :: xs, r => by
    by_cases h : p x = true
    · right; exact ⟨0, x, by rw [idxGo, if_pos h, Nat.add_zero], rfl, by rw [List.find?_cons, h]⟩
    · have h' : p x = false := by simpa using h
      rw [idxGo, if_neg h, List.find?_cons, h']
      rcases idxGo_find xs (r + 1) with ⟨h1, h2⟩ | ⟨i, k, h1, h2, h3⟩
      · exact .inl ⟨h1, h2⟩
      · right; exact ⟨i + 1, k, by rw [h1]; congr 1; omega, by simpa using h2, h3⟩
theorem asg_pred {L : List Ta} {F S : Int} {a : Option Addr} {n c fb lb pb sb : Nat} {free placed : List Int} {w : World} (hv : ValidT L) (hS : supB F S = true) (hf : FreeOk n free placed) (hN : NilOk a n c) (hc : AsC L F S a n c fb lb pb sb free placed w) :
    PredIn 34 #[.pointer (some ⟨fb, 0, none⟩), .pointer (some ⟨lb, 0, none⟩), .pointer (some ⟨pb, 0, none⟩), .pointer (some ⟨sb, 0, none⟩)] valI (fun k => meetB (ordL L (tryO free k placed)) F S k) free w :=
  ⟨fun args w => by kernel_rfl, fun k hk w' hb => asgC_any a n c fb lb pb sb F S L free placed k w' hv hS hf hk hN (hc.ext hb)⟩
/-- the two rows that Assign keeps in boxes -/
structure FP (w : World) (fb : Nat) (free placed : List Int) (a2 : Option Addr) (n2 c2 : Nat) (a3 : Option Addr) (n3 c3 : Nat) : Prop where
  lt : fb + 1 < w.heap.size
  f0 : w.cell? ⟨fb, 0, none⟩ = some (.slice a2 n2 c2)
  ff : w.frozen? ⟨fb, 0, none⟩ = false
  p0 : w.cell? ⟨fb + 1, 0, none⟩ = some (.slice a3 n3 c3)
  pf : w.frozen? ⟨fb + 1, 0, none⟩ = false
  fo : w.ownsRow (fb + 2) 3 1 (.slice a2 n2 c2) n2 (free.flatMap enc1)
  po : w.ownsRow (fb + 2) 3 1 (.slice a3 n3 c3) n3 (placed.flatMap enc1)
  ap : ∀ x, (Value.slice a2 n2 c2).ownBlock = some x → (Value.slice a3 n3 c3).ownBlock ≠ some x
theorem FP.ext {w w' : World} {fb free placed a2 n2 c2 a3 n3 c3} (h : FP w fb free placed a2 n2 c2 a3 n3 c3) (hb : Below w.heap.size w w') : FP w' fb free placed a2 n2 c2 a3 n3 c3 := by
  have h1 := h.lt
  have h2 := hb.size
  exact ⟨by omega, keep_cA hb h.f0, (hb.frozen (p := ⟨fb, 0, none⟩) (by simp only []; omega)).trans h.ff, keep_cA hb h.p0, (hb.frozen (p := ⟨fb + 1, 0, none⟩) (by simp only []; omega)).trans h.pf, owns_ext h.fo hb, owns_ext h.po hb, h.ap⟩
theorem own_low {w : World} {B e k n : Nat} {v : Value} {xs : List Value} (h : w.ownsRow B e k v n xs) : ∀ x, v.ownBlock = some x → B ≤ x ∧ x < w.heap.size := by
  intro x hx
  rcases h.2 with ⟨rfl, _⟩ | ⟨g, cap, cur, rfl, hB, hg, _⟩
  · simp [Value.ownBlock] at hx
  · simp [Value.ownBlock] at hx; subst hx; exact ⟨hB, (Array.getElem?_eq_some_iff.1 hg).1⟩
/-- free is pushed to, in place or anew -/
theorem FP.free' {w w' : World} {fb free placed a2 n2 c2 a3 n3 c3} (h : FP w fb free placed a2 n2 c2 a3 n3 c3) {free' : List Int} {a4 : Option Addr} {n4 c4 : Nat} (hO : w'.ownsRow (fb + 2) 3 1 (.slice a4 n4 c4) n4 (free'.flatMap enc1)) (hg : w.grownBy w' (Value.slice a2 n2 c2).ownBlock)
    (hap : ∀ x, (Value.slice a4 n4 c4).ownBlock = some x → (Value.slice a3 n3 c3).ownBlock ≠ some x) :
    FP (w'.setCell ⟨fb, 0, none⟩ (.slice a4 n4 c4)) fb free' placed a4 n4 c4 a3 n3 c3 := by
  have h1 := h.lt
  have hB : Below (fb + 2) w w' := (Below.refl _ w).grown hg (by omega) (fun j hj => (own_low h.fo j hj).1)
  have e1 : w'.cell? ⟨fb, 0, none⟩ = some (.slice a2 n2 c2) := (hB.cell (p := ⟨fb, 0, none⟩) (by simp only []; omega)).trans h.f0
  have e2 : w'.cell? ⟨fb + 1, 0, none⟩ = some (.slice a3 n3 c3) := (hB.cell (p := ⟨fb + 1, 0, none⟩) (by simp only []; omega)).trans h.p0
  have e3 : w'.frozen? ⟨fb, 0, none⟩ = false := (hB.frozen (p := ⟨fb, 0, none⟩) (by simp only []; omega)).trans h.ff
  have e4 : w'.frozen? ⟨fb + 1, 0, none⟩ = false := (hB.frozen (p := ⟨fb + 1, 0, none⟩) (by simp only []; omega)).trans h.pf
  have hne : ¬ fb + 1 = fb := by omega
  have hne' : ¬ fb = fb + 1 := by omega
  have hP : w'.ownsRow (fb + 2) 3 1 (.slice a3 n3 c3) n3 (placed.flatMap enc1) := h.po.kept hg (by
    rcases hx : (Value.slice a3 n3 c3).ownBlock with _ | x
    · exact .inl rfl
    · right; intro e; exact h.ap x e.symm hx)
  refine ⟨by have := hB.size; simp; omega, by simp [go_sem, e1], by simp [go_sem, e3], by simp [go_sem, e2, hne, hne'], by simp [go_sem, e4, hne, hne'], owns_far hO (by omega) _, owns_far hP (by omega) _, hap⟩
/-- placed is made anew -/
theorem FP.placed' {w w' : World} {fb free placed a2 n2 c2 a3 n3 c3} (h : FP w fb free placed a2 n2 c2 a3 n3 c3) {placed' : List Int} {a4 : Option Addr} {n4 c4 : Nat} (hb : Below w.heap.size w w') (hO : w'.ownsRow w.heap.size 3 1 (.slice a4 n4 c4) n4 (placed'.flatMap enc1)) :
    FP (w'.setCell ⟨fb + 1, 0, none⟩ (.slice a4 n4 c4)) fb free placed' a2 n2 c2 a4 n4 c4 := by
  have h1 := h.lt
  have hE := h.ext hb
  have e1 := hE.f0; have e2 := hE.p0; have e3 := hE.ff; have e4 := hE.pf
  have hne : ¬ fb + 1 = fb := by omega
  have hne' : ¬ fb = fb + 1 := by omega
  refine ⟨by have := hb.size; simp; omega, by simp [go_sem, e1, hne, hne'], by simp [go_sem, e3, hne, hne'], by simp [go_sem, e2], by simp [go_sem, e4], owns_far hE.fo (by omega) _, owns_far (owns_mono hO (by omega)) (by omega) _, fun x hx hy => ?_⟩
  have h2 := (own_low h.fo x hx).2
  have h3 := (own_low hO x hy).1
  omega
end Go.Proofs.YtmahagcghpoekaaGreat
