/- Plain facts: what Ask keeps, together. No condition: plain lemmas. -/
import Derived.Test.YtmdjbnicjohkjaaLkAskF
namespace Go.Proofs.Ytmdjbnicjohkjaa
open Go.RowKit
set_option linter.unusedSimpArgs false
set_option linter.unusedVariables false
structure AskKeeps (G A : List Th) (got : Bool) : Prop where
  v : validG A = true
  v0 : validG G = true
  len : A.length = G.length
  circ : (circleR A).2 = (circleR G).2
  up : ∀ i, effV G i ≤ effV A i
  eq : got = true → ∀ i, effV A i = effV G i
theorem priG_set {g : List Th} {k : Nat} {u v : Th} (hk : g[k]? = some u) (h : v.pri = u.pri) (m : Nat) : priG (g.set k v) m = priG g m := by
  unfold priG
  have : (g.set k v)[m]?.map Th.pri = g[m]?.map Th.pri := by rw [← List.getElem?_map, ← List.getElem?_map, map_set_same hk h]
  rw [this]
theorem nx_stay {g : List Th} {k : Nat} (hk : nextG g k < 0) {o : Int} {j m : Nat} (hj : nx g j o = k) (hm : j < m) : nx g m o < 0 := by
  obtain ⟨d, rfl⟩ : ∃ d, m = (j + 1) + d := ⟨m - (j + 1), by omega⟩
  rw [nx_add, nx_succ, hj, if_neg (by omega), Int.toNat_natCast]
  have : nextG g k = -1 := by have := (nextG_lo g k).1; omega
  rw [this, nx_neg]; omega
/-- it gets the lock -/
theorem ask_got {G : List Th} (hv : validG G = true) {k : Nat} {u : Th} {l : Int} (hk : G[k]? = some u) (hl : 0 ≤ l ∧ l ≤ 5) (hw : u.waits < 0) (hh : hasB u.holds l = false) (ho : holderG G l < 0) :
    AskKeeps G (G.set k ⟨u.pri, insL u.holds (cntLt u.holds l) l, u.waits⟩) true := by
  obtain ⟨h1, h2, h3⟩ := validG_iff.1 hv
  have hnone := holderG_none ho
  obtain ⟨a1, a2, _⟩ := h2 u (List.mem_of_getElem? hk)
  have hln : l ∉ u.holds := hnone u (List.mem_of_getElem? hk)
  have hV : validG (G.set k ⟨u.pri, insL u.holds (cntLt u.holds l) l, u.waits⟩) = true := by
    refine valid_set hv hk ?_ ⟨insL_asc a2.1 hln, fun x hx => ?_⟩ (fun j w hj hjw => ?_) (fun h0 => by simp only [] at h0; omega) (fun j w _ _ _ hm => insL_mem.2 (.inr hm))
    · rw [thOk_iff] at a1 ⊢; exact a1
    · rcases insL_mem.1 hx with rfl | hx
      · exact hl
      · exact a2.2 x hx
    · intro x hx
      rcases insL_mem.1 hx with rfl | hx
      · exact hnone w (List.mem_of_getElem? hjw)
      · exact sep_get h3 hk hjw (fun q => hj q.symm) x hx
  have hn : ∀ s, nextG (G.set k ⟨u.pri, insL u.holds (cntLt u.holds l) l, u.waits⟩) s = nextG G s := by
    have hho : ∀ x, x ≠ l → holderG (G.set k ⟨u.pri, insL u.holds (cntLt u.holds l) l, u.waits⟩) x = holderG G x := by
      intro x hx
      refine holderG_ext (map_set_same hk ?_)
      rw [Bool.eq_iff_iff, hasB_iff, hasB_iff]
      simp only []
      rw [insL_mem]
      exact ⟨fun h => h.resolve_left hx, .inr⟩
    intro s
    unfold nextG
    rw [List.getElem?_set]
    by_cases e : k = s
    · subst e
      rw [if_pos rfl, if_pos (List.getElem?_eq_some_iff.1 hk).1, hk]
      simp only [if_pos hw]
    · rw [if_neg e]
      cases q : G[s]? with
      | none => rfl
      | some v =>
        simp only []
        split
        · rfl
        · rename_i hv0
          refine hho _ (fun e => ?_)
          obtain ⟨⟨x, hx1, hx2⟩, _⟩ := (h2 v (List.mem_of_getElem? q)).2.2 (by omega)
          rw [e] at hx2
          exact hnone x hx1 hx2
  have hlen : (G.set k ⟨u.pri, insL u.holds (cntLt u.holds l) l, u.waits⟩).length = G.length := by simp
  have hp := fun m => priG_set (v := ⟨u.pri, insL u.holds (cntLt u.holds l) l, u.waits⟩) hk rfl m
  have he := effV_ext hn hlen hp
  refine ⟨hV, hv, hlen, circle_same hv hV ?_, fun i => by rw [he]; exact Int.le_refl _, fun _ => he⟩
  rw [hlen]
  constructor
  · rintro ⟨i, hi, h⟩; exact ⟨i, hi, by rw [circG_ext hn hlen]; exact h⟩
  · rintro ⟨i, hi, h⟩; exact ⟨i, hi, by rw [← circG_ext hn hlen]; exact h⟩
/-- it waits -/
theorem ask_waits {G : List Th} (hv : validG G = true) {k q : Nat} {u : Th} {l : Int} (hk : G[k]? = some u) (hl : 0 ≤ l ∧ l ≤ 5) (hw : u.waits < 0) (hh : hasB u.holds l = false) (ho : holderG G l = q) (hc : hasB (chainG G q) k = false) :
    AskKeeps G (G.set k ⟨u.pri, u.holds, l⟩) false := by
  obtain ⟨h1, h2, h3⟩ := validG_iff.1 hv
  obtain ⟨a1, a2, _⟩ := h2 u (List.mem_of_getElem? hk)
  have hkl := (List.getElem?_eq_some_iff.1 hk).1
  have hqk := holder_ne hv hk hh ho
  obtain ⟨v, hvq, hvl⟩ := holderG_some ho
  have hV : validG (G.set k ⟨u.pri, u.holds, l⟩) = true := by
    refine valid_set hv hk ?_ a2 (fun j w hj hjw => (show Sep u w from sep_get h3 hk hjw (fun q => hj q.symm))) (fun _ => ⟨⟨q, v, hqk, hvq, hvl⟩, fun m => by rw [hasB_iff.2 m] at hh; exact absurd hh (by simp)⟩) (fun j w _ _ _ hm => hm)
    rw [thOk_iff] at a1 ⊢; exact ⟨a1.1, by show -1 ≤ l; omega, hl.2⟩
  obtain ⟨A, hA⟩ : ∃ A, A = G.set k ⟨u.pri, u.holds, l⟩ := ⟨_, rfl⟩
  have hck := circ_hasB hk hl.1 ho hqk
  rw [hc, ← hA] at hck
  rw [← hA] at hV ⊢
  have hlen : A.length = G.length := by rw [hA]; simp
  have hp : ∀ m, priG A m = priG G m := by rw [hA]; exact fun m => priG_set (v := ⟨u.pri, u.holds, l⟩) hk rfl m
  have hn : ∀ s : Nat, nextG A s = if s = k then (q : Int) else nextG G s := by
    intro s; rw [hA, nextG_setW hk, if_neg (by omega : ¬ l < 0), ho]
  have hnk : nextG G k < 0 := by unfold nextG; rw [hk]; simp only [if_pos hw]; omega
  have hsame : ∀ (i : Int) (m : Nat), 0 ≤ i → 0 ≤ nx G m i → nx A m i = nx G m i := by
    intro i m hi h0
    refine nx_same (t := k) (fun s hs => by rw [hn, if_neg hs]) (.inl hi) m (fun j hj e => ?_)
    have := nx_stay hnk e hj
    omega
  refine ⟨hV, hv, hlen, circle_same hv hV ?_, effV_mono hlen hp (fun m i hm h => ?_), fun h => by simp at h⟩
  · rw [hlen]
    constructor
    · rintro ⟨i, hi, h⟩
      obtain ⟨m, hm⟩ := (circ_iff hi).1 h
      exact ⟨i, hi, (circ_iff (by omega)).2 ⟨m, by rw [hsame i (m + 1) (by omega) (by omega)]; exact hm⟩⟩
    · rintro ⟨i, hi, h⟩
      obtain ⟨m, hm⟩ := (circ_iff (by omega)).1 h
      by_cases e : ∃ j, nx A j i = k ∧ j < m + 1
      · obtain ⟨j, e1, e2⟩ := e
        exfalso
        have : circG A k = true := (circ_iff (by omega)).2 ⟨m, by
          rw [← e1, ← nx_add, Nat.add_comm, nx_add, hm]⟩
        rw [hck] at this; exact absurd this (by simp)
      · refine ⟨i, hi, (circ_iff hi).2 ⟨m, ?_⟩⟩
        rw [nx_same (g := A) (g' := G) (t := k) (fun s hs => by rw [hn, if_neg hs]) (.inl (by omega)) (m + 1) (fun j hj e1 => e ⟨j, e1, hj⟩)]
        exact hm
  · rw [hasB_iff, chain_iff hm] at h
    rw [hasB_iff, chain_iff (by omega)]
    obtain ⟨b1, b2, j, b3⟩ := h
    exact ⟨b1, b2, j, by rw [hsame m (j + 1) (by omega) (by omega)]; exact b3⟩
theorem ask_keeps {G : List Th} {t l : Int} (h : (askR G t l).2.2 = 0) : AskKeeps G (askR G t l).1 (askR G t l).2.1 := by
  unfold askR at h ⊢
  by_cases h0 : (isTh G t && inB l 0 5) = true
  · rw [if_pos h0] at h ⊢
    rw [Bool.and_eq_true] at h0
    obtain ⟨k, u, rfl, hk, hv, hkl⟩ := isTh_get h0.1
    have hl := inB_iff.1 h0.2
    rw [Int.toNat_natCast, thAt_eq hk] at h ⊢
    split at h
    · simp at h
    · rename_i h1
      rw [if_neg h1]
      have hh : hasB u.holds l = false := by cases q : hasB u.holds l; · rfl
                                             · exact absurd (.inr q) h1
      have hw : u.waits < 0 := by apply Classical.byContradiction; intro q; exact h1 (.inl (by omega))
      split at h
      · rename_i h2
        rw [if_pos h2]
        exact ask_got hv hk hl hw hh h2
      · rename_i h2
        rw [if_neg h2]
        obtain ⟨q, hq⟩ := Int.eq_ofNat_of_zero_le (Int.not_lt.1 h2)
        rw [hq, Int.toNat_natCast] at h ⊢
        split at h
        · simp at h
        · rename_i h3
          rw [if_neg h3]
          exact ask_waits hv hk hl hw hh hq (by cases x : hasB (chainG G q) k; · rfl
                                                · exact absurd x h3)
  · rw [if_neg h0] at h; simp at h
end Go.Proofs.Ytmdjbnicjohkjaa
