/- Plain facts: tasks that are easier, or fewer, demand no more. No condition: plain lemmas. -/
import Derived.Test.YtabbmnnohnfbeaaRsDem
namespace Go.Proofs.Ytabbmnnohnfbeaa
open Go.RowKit
set_option linter.unusedSimpArgs false
set_option linter.unusedVariables false
/-- each task of K stands for one of L and is no harder -/
structure Sim (K L : List Ta) (σ : Nat → Nat) : Prop where
  len : ∀ i, i < K.length → σ i < L.length
  mono : ∀ i j, i < j → σ i < σ j
  pri : ∀ i : Nat, i < K.length → (taAt K i).pri = (taAt L (σ i)).pri
  gap : ∀ i : Nat, i < K.length → (taAt L (σ i)).gap ≤ (taAt K i).gap
  jit : ∀ i : Nat, i < K.length → (taAt K i).jit ≤ (taAt L (σ i)).jit
  dl : ∀ i : Nat, i < K.length → (taAt L (σ i)).dl ≤ (taAt K i).dl
  pl : ∀ i : Nat, i < K.length → (taAt K i).pcs.length = (taAt L (σ i)).pcs.length
  pc : ∀ i : Nat, i < K.length → ∀ (k : Nat) (p q : P2), (taAt K i).pcs[k]? = some p → (taAt L (σ i)).pcs[k]? = some q → p.2 = q.2 ∧ p.1 ≤ q.1
theorem costP_le : ∀ (ps qs : List P2), ps.length = qs.length → (∀ (k : Nat) (p q : P2), ps[k]? = some p → qs[k]? = some q → p.1 ≤ q.1) → costP ps ≤ costP qs
  | [], [], _, _ => Int.le_refl _
  | p :: ps, q :: qs, hl, h => by
    have h1 := costP_le ps qs (by simpa using hl) (fun k a b ha hb => h (k + 1) a b (by simpa using ha) (by simpa using hb))
    have h2 := h 0 p q rfl rfl
    rw [costP, costP]; omega
theorem mostN_le {g g' j j' v : Int} (hg : 1 ≤ g) (hgg : g ≤ g') (hj : 0 ≤ j') (hjj : j' ≤ j) (hv : 0 ≤ v) : mostN g' j' v ≤ mostN g j v := by
  unfold mostN
  split
  · omega
  · have h1 : (v - 1 + j') / g' ≤ (v - 1 + j') / g := by
      rw [Int.le_ediv_iff_mul_le (by omega)]
      have a := Int.ediv_mul_le (v - 1 + j') (show g' ≠ 0 by omega)
      have b := Int.ediv_nonneg (a := v - 1 + j') (b := g') (by omega) (by omega)
      have c := Int.mul_le_mul_of_nonneg_left hgg b
      omega
    have h2 : (v - 1 + j') / g ≤ (v - 1 + j) / g := Int.ediv_le_ediv (by omega) (by omega)
    omega
section
variable {K L : List Ta} {σ : Nat → Nat}
theorem Sim.ahead (h : Sim K L σ) {i j : Nat} (hi : i < K.length) (hj : j < K.length) : Ahead K i j ↔ Ahead L (σ i) (σ j) := by
  have e1 : priI K i = priI L (σ i) := h.pri i hi
  have e2 : priI K j = priI L (σ j) := h.pri j hj
  have e3 : i < j ↔ σ i < σ j := by
    constructor
    · exact h.mono i j
    · intro hlt
      rcases Nat.lt_trichotomy i j with q | q | q
      · exact q
      · subst q; omega
      · have := h.mono j i q; omega
  unfold Ahead
  rw [e1, e2]
  omega
theorem Sim.cost (h : Sim K L σ) {i : Nat} (hi : i < K.length) : costT (taAt K i) ≤ costT (taAt L (σ i)) :=
  costP_le _ _ (h.pl i hi) (fun k p q hp hq => (h.pc i hi k p q hp hq).2)
theorem Sim.demTL (h : Sim K L σ) (hK : ValidT K) (hL : ValidT L) {i : Nat} (hi : i < K.length) {v : Int} (hv : 0 ≤ v) : demT (taAt K i) v ≤ demT (taAt L (σ i)) v := by
  have hk := taAt_mem' (L := K) (k := i) (by omega) (by omega)
  have hl := taAt_mem' (L := L) (k := (σ i : Int)) (by omega) (by have := h.len i hi; omega)
  have h1 := mostN_le (hL.gap _ hl).1 (h.gap i hi) (hK.jit _ hk).1 (h.jit i hi) hv
  have h2 := h.cost hi
  have h3 := (mostN_mono (hL.gap _ hl).1 (hL.jit _ hl).1 hv (Int.le_refl v)).1
  have h4 := (costT_bd hK.r hk).1
  exact Int.mul_le_mul h1 h2 (by omega) h3
theorem Sim.usesL (h : Sim K L σ) {i : Nat} (hi : i < K.length) {l : Int} (hu : uses K i l) : uses L (σ i) l := by
  obtain ⟨p, hp, e⟩ := hu
  obtain ⟨k, hk⟩ := List.mem_iff_getElem?.1 hp
  have hkl := (List.getElem?_eq_some_iff.1 hk).1
  have hq : (taAt L (σ i)).pcs[k]? = some ((taAt L (σ i)).pcs[k]'(by have := h.pl i hi; omega)) := List.getElem?_eq_getElem _
  have := (h.pc i hi k _ _ hk hq).1
  exact ⟨_, List.mem_of_getElem? hq, by rw [← this]; exact e⟩
/-- the ceiling of L is no further behind -/
theorem Sim.ceil (h : Sim K L σ) {i j : Nat} (hi : i < K.length) (hj : j < K.length) {l : Int} (hu : uses K i l) (hn : ¬ Ahead K j (ceilG K l)) : ¬ Ahead L (σ j) (ceilG L l) := by
  have hcK := isCeil K l
  have hcL := isCeil L l
  have hk0 : 0 ≤ ceilG K l := by
    rcases Int.lt_or_le (ceilG K l) 0 with q | q
    · exact absurd hu (hcK.none_ q i hi)
    · exact q
  have hl0 : 0 ≤ ceilG L l := by
    rcases Int.lt_or_le (ceilG L l) 0 with q | q
    · exact absurd (h.usesL hi hu) (hcL.none_ q _ (h.len i hi))
    · exact q
  obtain ⟨c, hc⟩ := Int.eq_ofNat_of_zero_le hk0
  have hck : c < K.length := by have := hcK.hi; omega
  have huc := h.usesL hck (by have := (hcK.some_ hk0).1; rw [hc] at this; exact this)
  rw [hc] at hn
  intro ha
  apply hn
  rw [h.ahead hj hck]
  by_cases e : ((σ c : Nat) : Int) = ceilG L l
  · rw [e]; exact ha
  · exact ahead_trans _ _ _ ha ((hcL.some_ hl0).2 (σ c) (h.len c hck) huc e)
end
theorem blkP_in {L : List Ta} {t : Int} {j : Nat} : ∀ (ps : List P2) (k i : Nat) (p : P2), (taAt L j).pcs.drop k = ps → ps[i]? = some p → 0 ≤ p.2 → ¬ Ahead L t (ceilG L p.2) → ((j : Int), ((k + i : Nat) : Int)) ∈ blkP L t j k ps
  | [], _, _, _, _, h, _, _ => by simp at h
  | q :: ps, k, i, p, hd, hi, h0, hn => by
    have hd' : (taAt L j).pcs.drop (k + 1) = ps := by rw [← List.drop_drop, hd]; rfl
    rw [blkP]
    cases i with
    | zero =>
      simp at hi
      subst hi
      rw [if_pos ⟨h0, aheadB_no.2 hn⟩]
      simp
    | succ i =>
      have := blkP_in ps (k + 1) i p hd' (by simpa using hi) h0 hn
      rw [show k + (i + 1) = k + 1 + i by omega]
      split
      · exact List.mem_cons_of_mem _ this
      · exact this
theorem blkFrom_in {L : List Ta} {t : Int} {b : P2} : ∀ (f j m : Nat), j ≤ m → m < j + f → aheadB L t m = true → b ∈ blkP L t m 0 (taAt L m).pcs → b ∈ blkFrom L t f j
  | 0, j, m, h1, h2, _, _ => by omega
  | f + 1, j, m, h1, h2, h3, h4 => by
    rw [blkFrom, List.mem_append]
    by_cases e : m = j
    · subst e; left; rw [if_pos h3]; exact h4
    · right; exact blkFrom_in f (j + 1) m (by omega) (by omega) h3 h4
theorem blockL_in {L : List Ta} {t : Int} {j k : Nat} {p : P2} (hj : j < L.length) (hp : (taAt L j).pcs[k]? = some p) (h0 : 0 ≤ p.2) (ha : Ahead L t j) (hn : ¬ Ahead L t (ceilG L p.2)) : ((j : Int), (k : Int)) ∈ blockL L t := by
  have := blkP_in (L := L) (t := t) (j := j) _ 0 k p rfl hp h0 hn
  rw [Nat.zero_add] at this
  exact blkFrom_in L.length 0 j (Nat.zero_le _) (by omega) (aheadB_iff.2 ha) this
theorem maxF_ge {L : List Ta} : ∀ (bs : List P2) (m : Int), m ≤ bs.foldl (fun m b => max m (ticksAt L b)) m ∧ ∀ b ∈ bs, ticksAt L b ≤ bs.foldl (fun m b => max m (ticksAt L b)) m
  | [], m => ⟨Int.le_refl _, by simp⟩
  | b :: bs, m => by
    obtain ⟨h1, h2⟩ := maxF_ge (L := L) bs (max m (ticksAt L b))
    rw [List.foldl_cons]
    refine ⟨by omega, fun c hc => ?_⟩
    rcases List.mem_cons.1 hc with rfl | hc
    · omega
    · exact h2 c hc
theorem maxF_le {L : List Ta} {x : Int} : ∀ (bs : List P2) (m : Int), m ≤ x → (∀ b ∈ bs, ticksAt L b ≤ x) → bs.foldl (fun m b => max m (ticksAt L b)) m ≤ x
  | [], m, h, _ => h
  | b :: bs, m, h, hb => by
    rw [List.foldl_cons]
    have := hb b (by simp)
    exact maxF_le (L := L) bs _ (by omega) (fun c hc => hb c (by simp [hc]))
section
variable {K L : List Ta} {σ : Nat → Nat}
theorem Sim.block (h : Sim K L σ) {j : Nat} (hj : j < K.length) : blockN K j ≤ blockN L (σ j) := by
  unfold blockN
  refine maxF_le _ 0 (maxF_ge _ _).1 (fun b hb => ?_)
  have hB := blockL_mem hb
  obtain ⟨i, hi⟩ := Int.eq_ofNat_of_zero_le hB.j0
  obtain ⟨k, hk⟩ := Int.eq_ofNat_of_zero_le hB.k0
  have hil : i < K.length := by have := hB.j1; omega
  have hkl : k < (taAt K i).pcs.length := by have := hB.k1; rw [hi, hk] at this; omega
  have hp : (taAt K i).pcs[k]? = some (taAt K i).pcs[k] := List.getElem?_eq_getElem hkl
  have hq : (taAt L (σ i)).pcs[k]? = some ((taAt L (σ i)).pcs[k]'(by have := h.pl i hil; omega)) := List.getElem?_eq_getElem _
  obtain ⟨e1, e2⟩ := h.pc i hil k _ _ hp hq
  have hlk := hB.lk
  rw [hi, hk, Int.toNat_natCast, hp] at hlk
  simp only [Option.getD_some] at hlk
  have hah := hB.ah
  rw [hi] at hah
  have hu : uses K i (taAt K i).pcs[k].2 := ⟨_, List.getElem_mem hkl, rfl⟩
  have hn := h.ceil hil hj hu hlk.2
  have hin := blockL_in (L := L) (t := (σ j : Int)) (h.len i hil) hq (by rw [← e1]; exact hlk.1) ((h.ahead hj hil).1 hah) (by rw [← e1]; exact hn)
  have hge := (maxF_ge (L := L) (blockL L (σ j)) 0).2 _ hin
  have et : ticksAt K b = (taAt K i).pcs[k].1 := by rw [ticksAt, hi, hk, Int.toNat_natCast, hp]; rfl
  have eu : ticksAt L (((σ i : Nat) : Int), (k : Int)) = ((taAt L (σ i)).pcs[k]'(by have := h.pl i hil; omega)).1 := by rw [ticksAt, Int.toNat_natCast, hq]; rfl
  rw [eu] at hge
  rw [et]; omega
theorem demL_nonneg {L : List Ta} {w : Int} {p : Int → Bool} : ∀ (ks : List Int) (n : Int), (∀ k ∈ ks, 0 ≤ demT (taAt L k) w) → demL L w (ks.filter p) n ≤ demL L w ks n
  | [], n, _ => Int.le_refl _
  | k :: ks, n, h => by
    have h0 := h k (by simp)
    have e : demL L w (k :: ks) n = demL L w ks (n + demT (taAt L k) w) := rfl
    rw [List.filter_cons, e]
    split
    · exact demL_nonneg ks _ (fun j hj => h j (by simp [hj]))
    · refine Int.le_trans (demL_nonneg ks n (fun j hj => h j (by simp [hj]))) ?_
      exact demL_le ks _ _ (by omega) (fun j _ => Int.le_refl _)
theorem demL_map {K L : List Ta} {v : Int} {f : Int → Int} : ∀ (ks : List Int) (n m : Int), n ≤ m → (∀ k ∈ ks, demT (taAt K k) v ≤ demT (taAt L (f k)) v) → demL K v ks n ≤ demL L v (ks.map f) m
  | [], n, m, h, _ => h
  | k :: ks, n, m, h, hk => by
    have h0 := hk k (by simp)
    refine demL_map (K := K) ks _ _ ?_ (fun j hj => hk j (by simp [hj]))
    show n + demT (taAt K k) v ≤ m + demT (taAt L (f k)) v
    omega
theorem Sim.dem (h : Sim K L σ) (hK : ValidT K) (hL : ValidT L) {j : Nat} (hj : j < K.length) {v : Int} (hv : 0 ≤ v ∧ v ≤ 1000000) : demN K j v ≤ demN L (σ j) v := by
  have hown : ownN K j ≤ ownN L (σ j) := by
    have := h.cost hj
    have := h.block hj
    unfold ownN; omega
  let f : Int → Int := fun k => ((σ k.toNat : Nat) : Int)
  have h1 : demN K j v ≤ demL L v ((aheadL K j).map f) (ownN L (σ j)) := by
    refine demL_map _ _ _ hown (fun k hk => ?_)
    obtain ⟨⟨k0, k1⟩, _⟩ := aheadL_mem.1 hk
    obtain ⟨i, rfl⟩ := Int.eq_ofNat_of_zero_le k0
    show demT (taAt K i) v ≤ demT (taAt L ((σ (Int.toNat (i : Int)) : Nat) : Int)) v
    rw [Int.toNat_natCast]
    exact h.demTL hK hL (by omega) hv.1
  have hp : ((aheadL K j).map f).Perm ((aheadL L (σ j)).filter (fun x => decide (x ∈ (aheadL K j).map f))) := by
    rw [List.perm_ext_iff_of_nodup]
    · intro x
      rw [List.mem_filter, decide_eq_true_eq]
      refine ⟨fun hx => ⟨?_, hx⟩, fun hx => hx.2⟩
      obtain ⟨k, hk, rfl⟩ := List.mem_map.1 hx
      obtain ⟨⟨k0, k1⟩, k2⟩ := aheadL_mem.1 hk
      obtain ⟨i, rfl⟩ := Int.eq_ofNat_of_zero_le k0
      have hi : i < K.length := by omega
      rw [aheadL_mem]
      refine ⟨⟨by show 0 ≤ ((σ _ : Nat) : Int); omega, ?_⟩, aheadB_iff.2 ?_⟩
      · show ((σ (Int.toNat (i : Int)) : Nat) : Int) < _
        rw [Int.toNat_natCast]
        have := h.len i hi; omega
      · show Ahead L ((σ (Int.toNat (i : Int)) : Nat) : Int) _
        rw [Int.toNat_natCast]
        exact (h.ahead hi hj).1 (aheadB_iff.1 k2)
    · have hpw : (aheadL K j).Pairwise (· < ·) := (idxs_pw _).filter _
      have hpm : ((aheadL K j).map f).Pairwise (· < ·) := by
        rw [List.pairwise_map]
        refine List.Pairwise.imp_of_mem (fun {a b} ha hb hab => ?_) hpw
        have a0 := (aheadL_mem.1 ha).1.1
        have b0 := (aheadL_mem.1 hb).1.1
        have := h.mono a.toNat b.toNat (by omega)
        show ((σ a.toNat : Nat) : Int) < ((σ b.toNat : Nat) : Int)
        omega
      exact hpm.imp (fun hab => by omega)
    · exact ((idxs_nodup _).filter _).filter _
  rw [demL_perm hp] at h1
  refine Int.le_trans h1 ?_
  exact demL_nonneg _ _ (fun k hk => by
    obtain ⟨⟨k0, k1⟩, _⟩ := aheadL_mem.1 hk
    exact (demT_bd hL (taAt_mem' k0 k1) hv).1)
theorem Sim.meet (h : Sim K L σ) (hK : ValidT K) (hL : ValidT L) {j : Nat} (hj : j < K.length) {F S : Int} (hm : meetB L F S (σ j) = true) : meetB K F S j = true ∧ winN K F S j ≤ winN L F S (σ j) := by
  unfold meetB at hm ⊢
  rw [Bool.and_eq_true, decide_eq_true_eq, decide_eq_true_eq] at hm ⊢
  obtain ⟨y, hy, y1, y2, y3, _⟩ := (isWin L F S (σ j)).some_ (by omega)
  have hd := h.dem hK hL hj (v := (y : Int)) (by omega)
  have hI := isWin K F S j
  have hb := winN_bd K F S j
  have hjt := h.jit j hj
  have hdl := h.dl j hj
  by_cases h0 : winN K F S j = 0
  · exact absurd (by omega) (hI.none_ h0 y y1 y2)
  · obtain ⟨x, hx, x1, x2, x3, x4⟩ := hI.some_ h0
    have hxy : x ≤ y := by
      rcases Nat.lt_or_ge y x with q | q
      · exact absurd (by omega) (x4 y y1 q)
      · exact q
    omega
theorem Sim.acc (h : Sim K L σ) (hK : ValidT K) (hL : ValidT L) {F S : Int} (ha : accB L F S = true) : accB K F S = true :=
  accB_iff.2 (fun j hj => (h.meet hK hL hj (accB_iff.1 ha (σ j) (h.len j hj))).1)
end
end Go.Proofs.Ytabbmnnohnfbeaa
