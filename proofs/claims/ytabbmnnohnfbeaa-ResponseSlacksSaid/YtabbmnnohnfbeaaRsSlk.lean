/- Slack: tasks with a longer first piece; the plain part. No condition: plain lemmas. -/
import Derived.Test.YtabbmnnohnfbeaaRsLongS
import Derived.Test.YtabbmnnohnfbeaaRsTop
namespace Go.Proofs.Ytabbmnnohnfbeaa
open Go.RowKit
set_option linter.unusedSimpArgs false
set_option linter.unusedVariables false
/-- the same tasks but for ticks, deadlines and patterns -/
structure SameT (K L : List Ta) : Prop where
  len : K.length = L.length
  pri : ∀ i : Int, priI K i = priI L i
  lk : ∀ i : Int, (taAt K i).pcs.map Prod.snd = (taAt L i).pcs.map Prod.snd
variable {K L : List Ta}
theorem SameT.ahead (h : SameT K L) (a b : Int) : Ahead K a b ↔ Ahead L a b := by unfold Ahead; rw [h.pri, h.pri]
theorem SameT.aheadB (h : SameT K L) (a b : Int) : aheadB K a b = aheadB L a b := by
  unfold Proofs.Ytabbmnnohnfbeaa.aheadB; exact decide_eq_decide.2 (h.ahead a b)
theorem SameT.rank (h : SameT K L) : rankL K = rankL L := by
  unfold rankL
  have : ltR K = ltR L := by funext a b; unfold ltR; rw [h.pri, h.pri]
  rw [this, h.len]
theorem SameT.cnt (h : SameT K L) (i : Int) : cnt K i = cnt L i := by
  unfold Proofs.Ytabbmnnohnfbeaa.cnt
  rw [h.len]
  congr 2
  funext j; exact h.aheadB j i
theorem SameT.ceilP (h : SameT K L) (lock i : Int) : ∀ (ps qs : List P2) (b : Int), ps.map Prod.snd = qs.map Prod.snd → ceilP K lock i b ps = ceilP L lock i b qs
  | [], [], b, _ => rfl
  | [], _ :: _, b, e => by simp at e
  | _ :: _, [], b, e => by simp at e
  | p :: ps, q :: qs, b, e => by
    simp at e
    rw [Proofs.Ytabbmnnohnfbeaa.ceilP, Proofs.Ytabbmnnohnfbeaa.ceilP, e.1, h.aheadB]
    exact SameT.ceilP h lock i ps qs _ e.2
theorem SameT.ceilFrom (h : SameT K L) (lock : Int) : ∀ (f i : Nat) (b : Int), ceilFrom K lock f i b = ceilFrom L lock f i b
  | 0, _, _ => rfl
  | f + 1, i, b => by rw [Proofs.Ytabbmnnohnfbeaa.ceilFrom, Proofs.Ytabbmnnohnfbeaa.ceilFrom, h.ceilP lock i _ _ b (h.lk i)]; exact SameT.ceilFrom h lock f (i + 1) _
theorem SameT.ceil (h : SameT K L) (lock : Int) : ceilG K lock = ceilG L lock := by unfold ceilG; rw [h.len]; exact h.ceilFrom lock _ _ _
theorem SameT.blkP (h : SameT K L) (t j : Int) : ∀ (ps qs : List P2) (k : Nat), ps.map Prod.snd = qs.map Prod.snd → blkP K t j k ps = blkP L t j k qs
  | [], [], _, _ => rfl
  | [], _ :: _, _, e => by simp at e
  | _ :: _, [], _, e => by simp at e
  | p :: ps, q :: qs, k, e => by
    simp at e
    rw [Proofs.Ytabbmnnohnfbeaa.blkP, Proofs.Ytabbmnnohnfbeaa.blkP, e.1, h.aheadB, h.ceil, SameT.blkP h t j ps qs (k + 1) e.2]
theorem SameT.blkFrom (h : SameT K L) (t : Int) : ∀ (f j : Nat), blkFrom K t f j = blkFrom L t f j
  | 0, _ => rfl
  | f + 1, j => by rw [Proofs.Ytabbmnnohnfbeaa.blkFrom, Proofs.Ytabbmnnohnfbeaa.blkFrom, h.aheadB, h.blkP t j _ _ 0 (h.lk j), SameT.blkFrom h t f (j + 1)]
theorem SameT.blockL (h : SameT K L) (t : Int) : blockL K t = blockL L t := by unfold Proofs.Ytabbmnnohnfbeaa.blockL; rw [h.len]; exact h.blkFrom t _ _
/-- a longer first piece -/
def longP : List P2 → Int → List P2
  | [], _ => []
  | p :: ps, m => (p.1 + m, p.2) :: ps
def longT (u : Ta) (m : Int) : Ta := { u with pcs := longP u.pcs m }
def longL (L : List Ta) (t : Nat) (m : Int) : List Ta := L.set t (longT (taAt L t) m)
theorem longP_snd (ps : List P2) (m : Int) : (longP ps m).map Prod.snd = ps.map Prod.snd := by cases ps <;> rfl
theorem longP_len (ps : List P2) (m : Int) : (longP ps m).length = ps.length := by cases ps <;> rfl
theorem longP_cost : ∀ (ps : List P2) (m : Int), ps ≠ [] → costP (longP ps m) = costP ps + m
  | [], _, h => absurd rfl h
  | p :: ps, m, _ => by simp only [longP, costP]; omega
theorem longP_get : ∀ (ps : List P2) (m : Int) (k : Nat) (p : P2), ps[k]? = some p → (longP ps m)[k]? = some (if k = 0 then (p.1 + m, p.2) else p)
  | [], _, _, _, h => by simp at h
  | q :: ps, m, 0, p, h => by simp at h; subst h; simp [longP]
  | q :: ps, m, k + 1, p, h => by simp at h; simp [longP, h]
theorem longL_len (L : List Ta) (t : Nat) (m : Int) : (longL L t m).length = L.length := by simp [longL]
theorem longL_at (L : List Ta) {t : Nat} (ht : t < L.length) (m : Int) (i : Int) : taAt (longL L t m) i = if i.toNat = t then longT (taAt L t) m else taAt L i := by
  unfold longL
  simp only [taAt, List.getElem?_set]
  by_cases e : t = i.toNat
  · rw [if_pos e, if_pos ht, if_pos e.symm]; rfl
  · rw [if_neg e, if_neg (fun h => e h.symm)]
theorem longL_same (L : List Ta) {t : Nat} (ht : t < L.length) (m : Int) : SameT (longL L t m) L := by
  refine ⟨longL_len L t m, fun i => ?_, fun i => ?_⟩
  · unfold priI
    rw [longL_at L ht]
    split
    · rename_i e; show (taAt L t).pri = (taAt L i).pri; unfold taAt; rw [Int.toNat_natCast, e]
    · rfl
  · rw [longL_at L ht]
    split
    · rename_i e; simp only [longT, longP_snd]; unfold taAt; rw [Int.toNat_natCast, e]
    · rfl
theorem longL_mem {L : List Ta} {t : Nat} {m : Int} {u : Ta} (h : u ∈ longL L t m) : u ∈ L ∨ u = longT (taAt L t) m := List.mem_or_eq_of_mem_set h
theorem longP_mem {ps : List P2} {m : Int} {p : P2} (h : p ∈ longP ps m) : ∃ q ∈ ps, p.2 = q.2 ∧ (p.1 = q.1 ∨ p.1 = q.1 + m) := by
  cases ps with
  | nil => simp [longP] at h
  | cons q ps =>
    simp only [longP, List.mem_cons] at h
    rcases h with rfl | h
    · exact ⟨q, by simp, rfl, .inr rfl⟩
    · exact ⟨p, by simp [h], rfl, .inl rfl⟩
theorem ValidT.long {L : List Ta} (hv : ValidT L) {t : Nat} (ht : t < L.length) {m : Int} (h0 : 0 ≤ m) (h1 : m ≤ 200) : ValidT4 (longL L t m) := by
  have hm : taAt L t ∈ L := taAt_mem' (by omega) (by omega)
  refine ⟨⟨by rw [longL_len]; exact hv.r.len, fun u hu => ?_, fun u hu p hp => ?_⟩, fun u hu => ?_, fun u hu => ?_, fun u hu => ?_, fun u hu => ?_, fun u hu => ?_⟩ <;> rcases longL_mem hu with h | rfl
  · exact hv.r.pcs u h
  · simp only [longT, longP_len]; exact hv.r.pcs _ hm
  · have := hv.r.piece u h p hp; omega
  · obtain ⟨q, hq, e1, e2⟩ := longP_mem hp
    have := hv.r.piece _ hm q hq
    omega
  · exact hv.first u h
  · exact hv.first (taAt L t) hm
  · exact hv.gap u h
  · exact hv.gap (taAt L t) hm
  · exact hv.jit u h
  · exact hv.jit (taAt L t) hm
  · exact hv.dl u h
  · exact hv.dl (taAt L t) hm
  · exact hv.vp u h
  · exact hv.vp (taAt L t) hm
theorem longL_zero (L : List Ta) {t : Nat} (ht : t < L.length) : longL L t 0 = L := by
  unfold longL
  have e : longT (taAt L t) 0 = taAt L t := by
    unfold longT
    have : longP (taAt L t).pcs 0 = (taAt L t).pcs := by cases h : (taAt L t).pcs <;> simp [longP]
    rw [this]
  rw [e]
  apply List.ext_getElem?
  intro i
  rw [List.getElem?_set]
  split
  · rename_i h; subst h
    simp [ht, List.getElem?_eq_getElem ht, taAt_of (List.getElem?_eq_getElem ht)]
  · rfl
theorem longL_sim (L : List Ta) {t : Nat} (ht : t < L.length) {m m' : Int} (h : m ≤ m') : Sim (longL L t m) (longL L t m') (fun i => i) := by
  have e : ∀ i : Nat, taAt (longL L t m) i = taAt (longL L t m') i ∨ (taAt (longL L t m) i = longT (taAt L t) m ∧ taAt (longL L t m') i = longT (taAt L t) m') := fun i => by
    rw [longL_at L ht, longL_at L ht]; split
    · exact .inr ⟨rfl, rfl⟩
    · exact .inl rfl
  refine ⟨fun i hi => by rw [longL_len] at *; exact hi, fun i j hij => hij, fun i hi => ?_, fun i hi => ?_, fun i hi => ?_, fun i hi => ?_, fun i hi => ?_, fun i hi k p q hp hq => ?_⟩
  · rcases e i with h | ⟨h1, h2⟩
    · rw [h]
    · rw [h1, h2]; rfl
  · rcases e i with h | ⟨h1, h2⟩
    · rw [h]; exact Int.le_refl _
    · rw [h1, h2]; exact Int.le_refl _
  · rcases e i with h | ⟨h1, h2⟩
    · rw [h]; exact Int.le_refl _
    · rw [h1, h2]; exact Int.le_refl _
  · rcases e i with h | ⟨h1, h2⟩
    · rw [h]; exact Int.le_refl _
    · rw [h1, h2]; exact Int.le_refl _
  · rcases e i with h | ⟨h1, h2⟩
    · rw [h]
    · rw [h1, h2]; simp [longT, longP_len]
  · rcases e i with h | ⟨h1, h2⟩
    · rw [h, hq] at hp; simp at hp; subst hp; exact ⟨rfl, Int.le_refl _⟩
    · rw [h1] at hp; rw [h2] at hq
      simp only [longT] at hp hq
      have hk : k < (taAt L t).pcs.length := by have := (List.getElem?_eq_some_iff.1 hp).1; rwa [longP_len] at this
      rw [longP_get _ m k _ (List.getElem?_eq_getElem hk)] at hp
      rw [longP_get _ m' k _ (List.getElem?_eq_getElem hk)] at hq
      simp at hp hq
      subst hp; subst hq
      split <;> simp <;> omega
theorem long_mono {L : List Ta} (hv : ValidT L) {t : Nat} (ht : t < L.length) {F S m m' : Int} (h0 : 0 ≤ m) (h : m ≤ m') (h1 : m' ≤ 200) (ha : accB (longL L t m') F S = true) : accB (longL L t m) F S = true :=
  Sim.acc4 (longL_sim L ht h) (hv.long ht h0 (by omega)) (hv.long ht (by omega) h1) ha
/-- the greatest number with which they are accepted -/
structure IsSlk (L : List Ta) (F S : Int) (t : Nat) (x : Int) : Prop where
  lo : 0 ≤ x
  hi : x ≤ 200
  is : accB (longL L t x) F S = true
  top : x = 200 ∨ accB (longL L t (x + 1)) F S = false
theorem IsSlk.unique {L : List Ta} (hv : ValidT L) {t : Nat} (ht : t < L.length) {F S x y : Int} (hx : IsSlk L F S t x) (hy : IsSlk L F S t y) : x = y := by
  have key : ∀ {x y : Int}, IsSlk L F S t x → IsSlk L F S t y → ¬ x < y := fun {x y} hx hy hlt => by
    rcases hx.top with h | h
    · have := hy.hi; omega
    · have := long_mono hv ht (m := x + 1) (m' := y) (by have := hx.lo; omega) (by omega) hy.hi hy.is
      rw [h] at this; simp at this
  have h1 := key hx hy
  have h2 := key hy hx
  omega
/-- as the reference looks for it -/
def slkFrom (L : List Ta) (F S : Int) (t : Nat) : Nat → Nat → Int → Int
  | 0, _, b => b
  | f + 1, n, b => if accB (longL L t n) F S = true then slkFrom L F S t f (n + 1) n else b
def slkN (L : List Ta) (F S : Int) (t : Nat) : Int := slkFrom L F S t 201 0 (-1)
theorem slkFrom_is {L : List Ta} {F S : Int} {t : Nat} : ∀ (f n : Nat) (b : Int), f + n = 201 → (n : Int) = b + 1 → (0 ≤ b → accB (longL L t b) F S = true) → (slkFrom L F S t f n b = -1 ∧ accB (longL L t 0) F S = false) ∨ IsSlk L F S t (slkFrom L F S t f n b)
  | 0, n, b, h1, h2, h3 => by
    right
    have : b = 200 := by omega
    subst this
    exact ⟨by simp [slkFrom], by simp [slkFrom], h3 (by omega), .inl rfl⟩
  | f + 1, n, b, h1, h2, h3 => by
    rw [slkFrom]
    split
    · rename_i hc
      exact slkFrom_is f (n + 1) n (by omega) (by omega) (fun _ => hc)
    · rename_i hc
      rcases Int.lt_or_le b 0 with hb | hb
      · left
        obtain rfl : n = 0 := by omega
        exact ⟨by omega, by simpa using hc⟩
      · right
        exact ⟨hb, by omega, h3 hb, .inr (by rw [show b + 1 = n by omega]; simpa using hc)⟩
theorem slkN_is {L : List Ta} {F S : Int} {t : Nat} (ht : t < L.length) (ha : accB L F S = true) : IsSlk L F S t (slkN L F S t) := by
  rcases slkFrom_is (L := L) (F := F) (S := S) (t := t) 201 0 (-1) rfl (by omega) (fun h => by omega) with ⟨_, h⟩ | h
  · rw [longL_zero L ht, ha] at h; simp at h
  · exact h
theorem slkN_no {L : List Ta} {F S : Int} {t : Nat} (ht : t < L.length) (ha : accB L F S = false) : slkN L F S t = -1 := by
  unfold slkN
  rw [slkFrom, if_neg (by rw [show ((0 : Nat) : Int) = 0 from rfl, longL_zero L ht, ha]; simp)]
def slkR (L : List Ta) (F S t : Int) : Int × Int :=
  if okB L F S && inB t 0 ((L.length : Int) - 1) then (if accB L F S then (slkN L F S t.toNat, 0) else (0, 15)) else (0, 1)
end Go.Proofs.Ytabbmnnohnfbeaa
