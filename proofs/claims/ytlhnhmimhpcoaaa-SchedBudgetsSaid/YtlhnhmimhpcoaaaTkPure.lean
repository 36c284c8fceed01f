/- Plain facts: tasks, who is ahead, ranks, ceilings, blockers. No condition: plain lemmas. -/
import Derived.Test.YtlhnhmimhpcoaaaIsPure
namespace Go.Proofs.Ytlhnhmimhpcoaaa
open Go.RowKit
set_option linter.unusedSimpArgs false
set_option linter.unusedVariables false
/-- a task as the document has it -/
structure Ta where
  pri : Int
  dl : Int
  first : Int
  gap : Int
  jit : Int
  pcs : List P2
deriving DecidableEq, Inhabited
def taAt (L : List Ta) (i : Int) : Ta := (L[i.toNat]?).getD default
def priI (L : List Ta) (i : Int) : Int := (taAt L i).pri
theorem taAt_of {L : List Ta} {k : Nat} {t : Ta} (h : L[k]? = some t) : taAt L k = t := by simp [taAt, h]
theorem priI_of {L : List Ta} {k : Nat} {t : Ta} (h : L[k]? = some t) : priI L k = t.pri := by simp [priI, taAt_of h]
/-- task a is ahead of task b -/
def Ahead (L : List Ta) (a b : Int) : Prop := priI L b < priI L a ∨ (priI L a = priI L b ∧ a < b)
instance (L : List Ta) (a b : Int) : Decidable (Ahead L a b) := inferInstanceAs (Decidable (_ ∨ _))
def aheadB (L : List Ta) (a b : Int) : Bool := decide (Ahead L a b)
theorem aheadB_iff {L : List Ta} {a b : Int} : aheadB L a b = true ↔ Ahead L a b := decide_eq_true_iff
theorem aheadB_no {L : List Ta} {a b : Int} : aheadB L a b = false ↔ ¬ Ahead L a b := decide_eq_false_iff_not
theorem ahead_trans {L : List Ta} (a b c : Int) (h : Ahead L a b) (k : Ahead L b c) : Ahead L a c := by unfold Ahead at *; omega
theorem ahead_asym {L : List Ta} (a b : Int) (h : Ahead L a b) : ¬ Ahead L b a := by unfold Ahead at *; omega
theorem ahead_irr {L : List Ta} (a : Int) : ¬ Ahead L a a := by unfold Ahead; omega
theorem ahead_total {L : List Ta} {a b : Int} (h : a ≠ b) : Ahead L a b ∨ Ahead L b a := by unfold Ahead; omega
def ltR (L : List Ta) (a b : Int) : Bool := decide (priI L b < priI L a)
/-- the tasks from the first rank on -/
def rankL (L : List Ta) : List Int := isortL (ltR L) (idxs L.length)
theorem rank_perm (L : List Ta) : (rankL L).Perm (idxs L.length) := isort_perm _ _
theorem rank_len (L : List Ta) : (rankL L).length = L.length := by rw [(rank_perm L).length_eq, idxs_len]
theorem rank_mem {L : List Ta} {x : Int} : x ∈ rankL L ↔ 0 ≤ x ∧ x < L.length := by rw [(rank_perm L).mem_iff, idxs_mem]
theorem rank_pw (L : List Ta) : (rankL L).Pairwise (Ahead L) :=
  isort_pw ahead_trans (fun a b h => .inl (by simpa [ltR] using h)) ((idxs_pw _).imp (fun {a b} hab h => by
    have h2 : ¬ priI L a < priI L b := by simpa [ltR] using h
    unfold Ahead; omega))
/-- the number of those ahead: the rank -/
def cnt (L : List Ta) (i : Int) : Nat := ((idxs L.length).filter (fun j => aheadB L j i)).length
theorem rank_cnt {L : List Ta} {p : Nat} {x : Int} (h : (rankL L)[p]? = some x) : cnt L x = p := by
  have := pw_place (f := fun j => aheadB L j x) (rank_pw L) ahead_asym h (fun y => aheadB_iff)
  rw [← this, cnt]
  exact ((rank_perm L).filter _).length_eq.symm
theorem rank_at {L : List Ta} {x : Int} (h0 : 0 ≤ x) (h1 : x < L.length) : (rankL L)[cnt L x]? = some x := by
  obtain ⟨p, hp, e⟩ := List.mem_iff_getElem.1 (rank_mem.2 ⟨h0, h1⟩)
  have h : (rankL L)[p]? = some x := by rw [List.getElem?_eq_getElem hp, e]
  rw [rank_cnt h]; exact h
theorem cnt_lt {L : List Ta} {x : Int} (h0 : 0 ≤ x) (h1 : x < L.length) : cnt L x < L.length := by
  have := (List.getElem?_eq_some_iff.1 (rank_at h0 h1)).1
  rw [rank_len] at this; exact this
theorem cnt_ahead {L : List Ta} {x y : Int} (h0 : 0 ≤ x) (h1 : x < L.length) (h2 : 0 ≤ y) (h3 : y < L.length) : cnt L x < cnt L y ↔ Ahead L x y := by
  have hx := rank_at h0 h1
  have hy := rank_at h2 h3
  have get : ∀ {i j : Nat} {a b : Int}, (rankL L)[i]? = some a → (rankL L)[j]? = some b → i < j → Ahead L a b := by
    intro i j a b ha hb hij
    obtain ⟨hi, e1⟩ := List.getElem?_eq_some_iff.1 ha
    obtain ⟨hj, e2⟩ := List.getElem?_eq_some_iff.1 hb
    have := List.pairwise_iff_getElem.1 (rank_pw L) i j hi hj hij
    rw [e1, e2] at this; exact this
  constructor
  · exact get hx hy
  · intro h
    rcases Nat.lt_trichotomy (cnt L x) (cnt L y) with q | q | q
    · exact q
    · rw [q, hy] at hx; simp at hx; subst hx; exact absurd h (ahead_irr _)
    · exact absurd h (ahead_asym _ _ (get hy hx q))
/-- as the reference puts them -/
def rankSet (L : List Ta) : Nat → Nat → List Int → List Int
  | 0, _, out => out
  | f + 1, i, out => rankSet L f (i + 1) (out.set (cnt L i) i)
theorem rankSet_len (L : List Ta) : ∀ (f i : Nat) (out : List Int), (rankSet L f i out).length = out.length
  | 0, _, _ => rfl
  | f + 1, i, out => by rw [rankSet, rankSet_len L f]; simp
theorem rankSet_get {L : List Ta} : ∀ (f i : Nat) (out : List Int), f + i = L.length → out.length = L.length → (∀ j : Nat, j < i → out[cnt L j]? = some (j : Int)) → ∀ j : Nat, j < L.length → (rankSet L f i out)[cnt L j]? = some (j : Int)
  | 0, i, out, hf, ho, h, j, hj => h j (by omega)
  | f + 1, i, out, hf, ho, h, j, hj => by
    refine rankSet_get f (i + 1) _ (by omega) (by simpa using ho) (fun m hm => ?_) j hj
    rw [List.getElem?_set]
    by_cases e : cnt L i = cnt L m
    · rw [if_pos e, if_pos (by rw [ho]; exact cnt_lt (by omega) (by omega))]
      have h1 := rank_at (L := L) (x := i) (by omega) (by omega)
      have h2 := rank_at (L := L) (x := m) (by omega) (by omega)
      rw [e, h2] at h1
      exact h1.symm
    · rw [if_neg e]
      have : m ≠ i := fun q => e (by rw [q])
      exact h m (by omega)
theorem rankSet_eq (L : List Ta) : rankSet L L.length 0 (List.replicate L.length 0) = rankL L := by
  apply List.ext_getElem?
  intro p
  by_cases hp : p < L.length
  · have hp' : p < (rankL L).length := by rw [rank_len]; exact hp
    have hx : (rankL L)[p]? = some (rankL L)[p] := List.getElem?_eq_getElem hp'
    obtain ⟨h0, h1⟩ := rank_mem.1 (List.getElem_mem hp')
    obtain ⟨k, hk⟩ := Int.eq_ofNat_of_zero_le h0
    have := rankSet_get (L := L) L.length 0 (List.replicate L.length 0) (by omega) (by simp) (fun j hj => by omega) k (by omega)
    rw [hx]
    rw [hk] at hx ⊢
    rw [rank_cnt hx] at this
    exact this
  · rw [List.getElem?_eq_none (by rw [rankSet_len]; simp; omega), List.getElem?_eq_none (by rw [rank_len]; omega)]
/-- the rank of each task -/
def ofL (L : List Ta) : List Int := (idxs L.length).map (fun i => (cnt L i : Int))
theorem ofL_get {L : List Ta} {k : Nat} (h : k < L.length) : (ofL L)[k]? = some (cnt L k : Int) := by unfold ofL; rw [List.getElem?_map, idxs_get h]; rfl
/-- valid pieces, tasks -/
def pieceB (p : P2) : Bool := inB p.1 1 200 && inB p.2 (-1) 5
def taskB (t : Ta) : Bool := inB t.pri 0 99 && inB t.pcs.length 1 8 && t.pcs.all pieceB
def rightB (L : List Ta) : Bool := decide (L.length ≤ 5) && L.all taskB
structure Right (L : List Ta) : Prop where
  len : L.length ≤ 5
  pri : ∀ t ∈ L, 0 ≤ t.pri ∧ t.pri ≤ 99
  pcs : ∀ t ∈ L, 1 ≤ t.pcs.length ∧ t.pcs.length ≤ 8
  piece : ∀ t ∈ L, ∀ p ∈ t.pcs, (1 ≤ p.1 ∧ p.1 ≤ 200) ∧ (-1 ≤ p.2 ∧ p.2 ≤ 5)
theorem right_of {L : List Ta} (h : rightB L = true) : Right L := by
  unfold rightB at h
  simp only [Bool.and_eq_true, decide_eq_true_eq, List.all_eq_true] at h
  refine ⟨h.1, fun t ht => ?_, fun t ht => ?_, fun t ht p hp => ?_⟩ <;> have h2 := h.2 t ht <;> simp only [taskB, Bool.and_eq_true, List.all_eq_true, inB_iff] at h2
  · exact h2.1.1
  · omega
  · have := h2.2 p hp
    simp only [pieceB, Bool.and_eq_true, inB_iff] at this
    exact this
def uses (L : List Ta) (i lock : Int) : Prop := ∃ p ∈ (taAt L i).pcs, p.2 = lock
def usesB (L : List Ta) (i lock : Int) : Bool := (taAt L i).pcs.any (fun p => p.2 == lock)
theorem usesB_iff {L : List Ta} {i lock : Int} : usesB L i lock = true ↔ uses L i lock := by simp [usesB, uses, List.any_eq_true]
/-- the ceiling as the reference looks for it: over the pieces of task i, b the best so far -/
def ceilP (L : List Ta) (lock i : Int) : Int → List P2 → Int
  | b, [] => b
  | b, p :: ps => ceilP L lock i (if p.2 = lock ∧ (b < 0 ∨ aheadB L i b = true) then i else b) ps
def ceilFrom (L : List Ta) (lock : Int) : Nat → Nat → Int → Int
  | 0, _, b => b
  | f + 1, i, b => ceilFrom L lock f (i + 1) (ceilP L lock i b (taAt L i).pcs)
def ceilG (L : List Ta) (lock : Int) : Int := ceilFrom L lock L.length 0 (-1)
/-- it is the first of those below m that use the lock -/
structure IsCeil (L : List Ta) (lock : Int) (m : Nat) (c : Int) : Prop where
  lo : -1 ≤ c
  hi : c < m
  none_ : c < 0 → ∀ j : Nat, j < m → ¬ uses L j lock
  some_ : 0 ≤ c → uses L c lock ∧ ∀ j : Nat, j < m → uses L j lock → (j : Int) ≠ c → Ahead L c j
theorem ceilP_same {L : List Ta} {lock i : Int} {b : Int} : ∀ (ps : List P2), (∀ p ∈ ps, p.2 ≠ lock) → ceilP L lock i b ps = b
  | [], _ => rfl
  | p :: ps, h => by rw [ceilP, if_neg (fun q => h p (by simp) q.1)]; exact ceilP_same ps (fun q hq => h q (by simp [hq]))
theorem ceilP_own {L : List Ta} {lock i : Int} (h0 : 0 ≤ i) : ∀ (ps : List P2), ceilP L lock i i ps = i
  | [] => rfl
  | p :: ps => by
    rw [ceilP]; split
    · exact ceilP_own h0 ps
    · exact ceilP_own h0 ps
theorem ceilP_eq {L : List Ta} {lock i b : Int} (h0 : 0 ≤ i) : ∀ (ps : List P2), ceilP L lock i b ps = if (∃ p ∈ ps, p.2 = lock) ∧ (b < 0 ∨ aheadB L i b = true) then i else b
  | [] => by simp [ceilP]
  | p :: ps => by
    rw [ceilP]
    by_cases h1 : p.2 = lock
    · by_cases h2 : b < 0 ∨ aheadB L i b = true
      · rw [if_pos ⟨h1, h2⟩, ceilP_own h0, if_pos ⟨⟨p, by simp, h1⟩, h2⟩]
      · rw [if_neg (fun q => h2 q.2), ceilP_eq h0 ps, if_neg (fun q => h2 q.2), if_neg (fun q => h2 q.2)]
    · rw [if_neg (fun q => h1 q.1), ceilP_eq h0 ps]
      have : (∃ q ∈ p :: ps, q.2 = lock) ↔ (∃ q ∈ ps, q.2 = lock) := by
        constructor
        · rintro ⟨q, hq, e⟩
          rcases List.mem_cons.1 hq with rfl | hq
          · exact absurd e h1
          · exact ⟨q, hq, e⟩
        · rintro ⟨q, hq, e⟩; exact ⟨q, by simp [hq], e⟩
      simp only [this]
theorem isCeil_step {L : List Ta} {lock : Int} {i : Nat} {b : Int} (h : IsCeil L lock i b) : IsCeil L lock (i + 1) (ceilP L lock i b (taAt L i).pcs) := by
  obtain ⟨h1, h2, h3, h4⟩ := h
  rw [ceilP_eq (by omega)]
  split
  · rename_i hc
    refine ⟨by omega, by omega, fun h => by omega, fun _ => ⟨hc.1, fun j hj hu hne => ?_⟩⟩
    have hj' : j < i := by
      have : j ≠ i := fun q => hne (by rw [q])
      omega
    rcases hc.2 with hb | hb
    · exact absurd hu (h3 hb j hj')
    · have hb' := aheadB_iff.1 hb
      by_cases hb0 : b < 0
      · exact absurd hu (h3 hb0 j hj')
      · by_cases e : (j : Int) = b
        · rw [e]; exact hb'
        · exact ahead_trans _ _ _ hb' ((h4 (by omega)).2 j hj' hu e)
  · rename_i hc
    refine ⟨h1, by omega, fun hb j hj hu => ?_, fun hb => ⟨(h4 hb).1, fun j hj hu hne => ?_⟩⟩
    · by_cases e : j = i
      · subst e; exact hc ⟨hu, .inl hb⟩
      · exact h3 hb j (by omega) hu
    · by_cases e : j = i
      · subst e
        have : ¬ Ahead L j b := fun q => hc ⟨hu, .inr (aheadB_iff.2 q)⟩
        rcases ahead_total (L := L) hne with q | q
        · exact absurd q this
        · exact q
      · exact (h4 hb).2 j (by omega) hu hne
theorem isCeil_from {L : List Ta} {lock : Int} : ∀ (f i : Nat) (b : Int), IsCeil L lock i b → IsCeil L lock (i + f) (ceilFrom L lock f i b)
  | 0, _, _, h => h
  | f + 1, i, b, h => by
    have := isCeil_from f (i + 1) _ (isCeil_step h)
    rw [show i + (f + 1) = i + 1 + f by omega]; exact this
theorem isCeil (L : List Ta) (lock : Int) : IsCeil L lock L.length (ceilG L lock) := by
  have := isCeil_from (L := L) (lock := lock) L.length 0 (-1) ⟨by omega, by omega, fun _ j hj => by omega, fun h => by omega⟩
  rw [Nat.zero_add] at this; exact this
theorem isCeil_unique {L : List Ta} {lock : Int} {m : Nat} {c d : Int} (h : IsCeil L lock m c) (k : IsCeil L lock m d) : c = d := by
  by_cases h0 : c < 0
  · by_cases h1 : d < 0
    · have := h.lo; have := k.lo; omega
    · obtain ⟨j, hj⟩ := Int.eq_ofNat_of_zero_le (show 0 ≤ d by omega)
      have hu := (k.some_ (by omega)).1
      rw [hj] at hu
      exact absurd hu (h.none_ h0 j (by have := k.hi; omega))
  · by_cases h1 : d < 0
    · obtain ⟨j, hj⟩ := Int.eq_ofNat_of_zero_le (show 0 ≤ c by omega)
      have hu := (h.some_ (by omega)).1
      rw [hj] at hu
      exact absurd hu (k.none_ h1 j (by have := h.hi; omega))
    · by_cases e : c = d
      · exact e
      · exfalso
        obtain ⟨j, hj⟩ := Int.eq_ofNat_of_zero_le (show 0 ≤ c by omega)
        obtain ⟨i, hi⟩ := Int.eq_ofNat_of_zero_le (show 0 ≤ d by omega)
        obtain ⟨u1, a1⟩ := h.some_ (by omega)
        obtain ⟨u2, a2⟩ := k.some_ (by omega)
        have b1 := a1 i (by have := k.hi; omega) (hi ▸ u2) (by rw [← hi]; exact fun q => e q.symm)
        have b2 := a2 j (by have := h.hi; omega) (hj ▸ u1) (by rw [← hj]; exact e)
        rw [← hi] at b1; rw [← hj] at b2
        exact ahead_asym _ _ b1 b2
/-- the ceilings as the program lays them: task k's pieces -/
def layP (k : Int) : List Int → List P2 → List Int
  | C, [] => C
  | C, p :: ps => layP k (if 0 ≤ p.2 ∧ (C[p.2.toNat]?).getD 0 < 0 then C.set p.2.toNat k else C) ps
def layC (L : List Ta) : List Int → List Int → List Int
  | C, [] => C
  | C, k :: ks => layC L (layP k C (taAt L k).pcs) ks
theorem layP_len (k : Int) : ∀ (ps : List P2) (C : List Int), (layP k C ps).length = C.length
  | [], _ => rfl
  | p :: ps, C => by rw [layP, layP_len k ps]; split <;> simp
theorem layC_len (L : List Ta) : ∀ (ks C : List Int), (layC L C ks).length = C.length
  | [], _ => rfl
  | k :: ks, C => by rw [layC, layC_len L ks, layP_len]
def cAt (C : List Int) (x : Nat) : Int := (C[x]?).getD 0
theorem layP_at {k : Int} (hk : 0 ≤ k) {x : Nat} : ∀ (ps : List P2) (C : List Int), x < C.length → cAt (layP k C ps) x = if cAt C x < 0 ∧ (∃ p ∈ ps, p.2 = (x : Int)) then k else cAt C x
  | [], C, h => by simp [layP]
  | p :: ps, C, h => by
    rw [layP, layP_at hk ps _ (by split <;> simpa using h)]
    by_cases h1 : 0 ≤ p.2 ∧ (C[p.2.toNat]?).getD 0 < 0
    · rw [if_pos h1]
      by_cases e : p.2.toNat = x
      · have e' : p.2 = (x : Int) := by omega
        have e2 : cAt (C.set p.2.toNat k) x = k := by simp [cAt, e, h]
        rw [e2, if_neg (by omega), if_pos ⟨by have := h1.2; rw [e] at this; exact this, p, by simp, e'⟩]
      · have e2 : cAt (C.set p.2.toNat k) x = cAt C x := by simp [cAt, List.getElem?_set, e]
        have e3 : (∃ q ∈ p :: ps, q.2 = (x : Int)) ↔ (∃ q ∈ ps, q.2 = (x : Int)) := by
          constructor
          · rintro ⟨q, hq, e4⟩
            rcases List.mem_cons.1 hq with rfl | hq
            · exact absurd (by omega) e
            · exact ⟨q, hq, e4⟩
          · rintro ⟨q, hq, e4⟩; exact ⟨q, by simp [hq], e4⟩
        simp only [e2, e3]
    · rw [if_neg h1]
      by_cases e : p.2 = (x : Int)
      · have : ¬ cAt C x < 0 := fun q => h1 ⟨by omega, by rw [e]; exact q⟩
        rw [if_neg (fun q => this q.1), if_neg (fun q => this q.1)]
      · have e3 : (∃ q ∈ p :: ps, q.2 = (x : Int)) ↔ (∃ q ∈ ps, q.2 = (x : Int)) := by
          constructor
          · rintro ⟨q, hq, e4⟩
            rcases List.mem_cons.1 hq with rfl | hq
            · exact absurd e4 e
            · exact ⟨q, hq, e4⟩
          · rintro ⟨q, hq, e4⟩; exact ⟨q, by simp [hq], e4⟩
        simp only [e3]
theorem layC_at {L : List Ta} {x : Nat} : ∀ (ks C : List Int), (∀ k ∈ ks, 0 ≤ k) → x < C.length → cAt (layC L C ks) x = if cAt C x < 0 then ((ks.find? (fun k => usesB L k x)).getD (cAt C x)) else cAt C x
  | [], C, _, h => by simp [layC]
  | k :: ks, C, hk, h => by
    rw [layC, layC_at ks _ (fun j hj => hk j (by simp [hj])) (by rw [layP_len]; exact h), layP_at (hk k (by simp)) _ _ h]
    have hk0 := hk k (by simp)
    by_cases h0 : cAt C x < 0
    · by_cases hu : usesB L k x = true
      · have hu' : ∃ p ∈ (taAt L k).pcs, p.2 = (x : Int) := usesB_iff.1 hu
        have e1 : (if cAt C x < 0 ∧ (∃ p ∈ (taAt L k).pcs, p.2 = (x : Int)) then k else cAt C x) = k := if_pos ⟨h0, hu'⟩
        rw [e1, if_neg (by omega), if_pos h0, List.find?_cons_of_pos (p := fun k => usesB L k x) hu]; rfl
      · have hu' : ¬ ∃ p ∈ (taAt L k).pcs, p.2 = (x : Int) := fun q => hu (usesB_iff.2 q)
        have e1 : (if cAt C x < 0 ∧ (∃ p ∈ (taAt L k).pcs, p.2 = (x : Int)) then k else cAt C x) = cAt C x := if_neg (fun q => hu' q.2)
        rw [e1, if_pos h0, if_pos h0, List.find?_cons_of_neg (p := fun k => usesB L k x) hu]
    · have e1 : (if cAt C x < 0 ∧ (∃ p ∈ (taAt L k).pcs, p.2 = (x : Int)) then k else cAt C x) = cAt C x := if_neg (fun q => h0 q.1)
      rw [e1, if_neg h0, if_neg h0]
theorem layC_ceil {L : List Ta} {x : Nat} (hx : x < 6) : cAt (layC L (List.replicate 6 (-1)) (rankL L)) x = ceilG L x := by
  have e0 : cAt (List.replicate 6 (-1)) x = -1 := by unfold cAt; rw [List.getElem?_replicate, if_pos hx]; rfl
  rw [layC_at _ _ (fun k hk => (rank_mem.1 hk).1) (by simpa using hx), e0, if_pos (by omega)]
  refine isCeil_unique (m := L.length) ?_ (isCeil L x)
  cases hf : (rankL L).find? (fun k => usesB L k x) with
  | none =>
    rw [List.find?_eq_none] at hf
    refine ⟨by simp, by simp; omega, fun _ j hj hu => ?_, fun h => by simp at h⟩
    exact hf j (rank_mem.2 ⟨by omega, by omega⟩) (usesB_iff.2 hu)
  | some k =>
    rw [List.find?_eq_some_iff_append] at hf
    obtain ⟨hu, u1, u2, e, ha⟩ := hf
    have hm : k ∈ rankL L := by rw [e]; simp
    obtain ⟨k0, k1⟩ := rank_mem.1 hm
    show IsCeil L x L.length k
    refine ⟨by omega, k1, fun h => by omega, fun _ => ⟨usesB_iff.1 hu, fun j hj hju hne => ?_⟩⟩
    have hjm : (j : Int) ∈ rankL L := rank_mem.2 ⟨by omega, by omega⟩
    have hp := rank_pw L
    rw [e] at hjm hp
    rcases List.mem_append.1 hjm with q | q
    · have := ha _ q
      rw [usesB_iff.2 hju] at this
      simp at this
    · rcases List.mem_cons.1 q with q | q
      · exact absurd q hne
      · exact (List.pairwise_cons.1 (List.pairwise_append.1 hp).2.1).1 _ q
/-- the pieces that can block task t: those of task j -/
def blkP (L : List Ta) (t j : Int) : Nat → List P2 → List P2
  | _, [] => []
  | k, p :: ps => if 0 ≤ p.2 ∧ aheadB L t (ceilG L p.2) = false then (j, (k : Int)) :: blkP L t j (k + 1) ps else blkP L t j (k + 1) ps
def blkFrom (L : List Ta) (t : Int) : Nat → Nat → List P2
  | 0, _ => []
  | f + 1, j => (if aheadB L t j = true then blkP L t j 0 (taAt L j).pcs else []) ++ blkFrom L t f (j + 1)
def blockL (L : List Ta) (t : Int) : List P2 := blkFrom L t L.length 0
def ticksAt (L : List Ta) (b : P2) : Int := ((((taAt L b.1).pcs)[b.2.toNat]?).getD default).1
def blockN (L : List Ta) (t : Int) : Int := (blockL L t).foldl (fun m b => max m (ticksAt L b)) 0
/-- a piece of task j that can block task t -/
structure IsBlk (L : List Ta) (t : Int) (b : P2) : Prop where
  j0 : 0 ≤ b.1
  j1 : b.1 < L.length
  k0 : 0 ≤ b.2
  k1 : b.2 < (taAt L b.1).pcs.length
  ah : Ahead L t b.1
  lk : 0 ≤ ((((taAt L b.1).pcs)[b.2.toNat]?).getD default).2 ∧ ¬ Ahead L t (ceilG L ((((taAt L b.1).pcs)[b.2.toNat]?).getD default).2)
theorem blkP_mem {L : List Ta} {t : Int} {j : Nat} {b : P2} : ∀ (ps : List P2) (k : Nat), (taAt L j).pcs.drop k = ps → j < L.length → Ahead L t j → b ∈ blkP L t j k ps → IsBlk L t b ∧ b.1 = j
  | [], _, _, _, _, h => by simp [blkP] at h
  | p :: ps, k, hd, hj, ha, h => by
    have hd' : (taAt L j).pcs.drop (k + 1) = ps := by rw [← List.drop_drop, hd]; rfl
    have hg : (taAt L j).pcs[k]? = some p := by have := List.getElem?_drop (xs := (taAt L j).pcs) (i := k) (j := 0); rw [hd] at this; simpa using this.symm
    rw [blkP] at h
    split at h
    · rename_i hc
      rcases List.mem_cons.1 h with rfl | h
      · refine ⟨⟨by simp, by simp; omega, by simp, ?_, ha, ?_⟩, rfl⟩
        · have := (List.getElem?_eq_some_iff.1 hg).1; simp; omega
        · simp [hg]; exact ⟨hc.1, aheadB_no.1 hc.2⟩
      · exact blkP_mem ps (k + 1) hd' hj ha h
    · exact blkP_mem ps (k + 1) hd' hj ha h
theorem blkFrom_mem {L : List Ta} {t : Int} {b : P2} : ∀ (f j : Nat), j + f ≤ L.length → b ∈ blkFrom L t f j → IsBlk L t b
  | 0, _, _, h => by simp [blkFrom] at h
  | f + 1, j, hj, h => by
    rw [blkFrom] at h
    rcases List.mem_append.1 h with h | h
    · split at h
      · rename_i ha
        exact (blkP_mem _ 0 rfl (by omega) (aheadB_iff.1 ha) h).1
      · simp at h
    · exact blkFrom_mem f (j + 1) (by omega) h
theorem blockL_mem {L : List Ta} {t : Int} {b : P2} (h : b ∈ blockL L t) : IsBlk L t b := blkFrom_mem _ _ (by omega) h
end Go.Proofs.Ytlhnhmimhpcoaaa
