/- Plain facts: what LetGo gives is valid, and has no circle if there was none. No condition: plain lemmas. -/
import Derived.Test.YtmdjbnicjohkjaaLkLetP
namespace Go.Proofs.Ytmdjbnicjohkjaa
open Go.RowKit
set_option linter.unusedSimpArgs false
set_option linter.unusedVariables false
theorem outL_mem {xs : List Int} {x y : Int} : y ∈ outL xs x ↔ y ∈ xs ∧ y ≠ x := by unfold outL; rw [List.mem_filter]; simp
theorem outL_asc {xs : List Int} {x : Int} (h : Asc xs) : Asc (outL xs x) := ⟨h.1.sublist List.filter_sublist, fun y hy => h.2 y (outL_mem.1 hy).1⟩
theorem nx_same2 {g g' : List Th} {o : Int} : ∀ k, (∀ j, j < k → 0 ≤ nx g j o → nextG g' (nx g j o).toNat = nextG g (nx g j o).toNat) → nx g' k o = nx g k o := by
  intro k
  induction k with
  | zero => intro _; rfl
  | succ k ih =>
    intro h
    rw [nx_succ, nx_succ, ih (fun j hj => h j (by omega))]
    split
    · rfl
    · exact h k (by omega) (by omega)
structure LetKeeps (G A : List Th) (b : Int) : Prop where
  v : validG A = true
  v0 : validG G = true
  len : A.length = G.length
  circ : (∀ i, i < G.length → circG G i = false) → ∀ i, i < A.length → circG A i = false
theorem let_nobody {G : List Th} (hv : validG G = true) {k : Nat} {u : Th} {l : Int} (hk : G[k]? = some u) (hw : u.waits < 0) (hno : ∀ t ∈ G, t.waits ≠ l) :
    LetKeeps G (G.set k ⟨u.pri, outL u.holds l, u.waits⟩) (-1) := by
  obtain ⟨h1, h2, h3⟩ := validG_iff.1 hv
  obtain ⟨a1, a2, _⟩ := h2 u (List.mem_of_getElem? hk)
  have hlen : (G.set k ⟨u.pri, outL u.holds l, u.waits⟩).length = G.length := by simp
  have hV : validG (G.set k ⟨u.pri, outL u.holds l, u.waits⟩) = true := by
    refine valid_set hv hk ?_ (outL_asc a2) (fun j w hj hjw x hx => sep_get h3 hk hjw (fun q => hj q.symm) x (outL_mem.1 hx).1) (fun h0 => by simp only [] at h0; omega) (fun j w _ hjw _ hm => outL_mem.2 ⟨hm, hno w (List.mem_of_getElem? hjw)⟩)
    rw [thOk_iff] at a1 ⊢; exact a1
  have hn : ∀ s, nextG (G.set k ⟨u.pri, outL u.holds l, u.waits⟩) s = nextG G s := by
    have hho : ∀ x, x ≠ l → holderG (G.set k ⟨u.pri, outL u.holds l, u.waits⟩) x = holderG G x := by
      intro x hx
      refine holderG_ext (map_set_same hk ?_)
      rw [Bool.eq_iff_iff, hasB_iff, hasB_iff]
      simp only []
      rw [outL_mem]
      exact ⟨fun h => h.1, fun h => ⟨h, hx⟩⟩
    intro s
    unfold nextG
    rw [List.getElem?_set]
    by_cases e : k = s
    · subst e
      rw [if_pos rfl, if_pos (List.getElem?_eq_some_iff.1 hk).1, hk]
      simp only [if_pos hw]
    · rw [if_neg e]
      cases q : G[s]? with
      | none => rfl
      | some v =>
        simp only []
        rw [hho _ (hno v (List.mem_of_getElem? q))]
  exact ⟨hV, hv, hlen, fun h i hi => by rw [circG_ext hn hlen]; exact h i (by omega)⟩
theorem get_set2 {α : Type} {l : List α} {k b j : Nat} {v v' y : α} (h : ((l.set k v).set b v')[j]? = some y) : (j = b ∧ y = v') ∨ (j ≠ b ∧ j = k ∧ y = v) ∨ (j ≠ b ∧ j ≠ k ∧ l[j]? = some y) := by
  rcases get_set h with h | ⟨h1, h2⟩
  · exact .inl h
  · rcases get_set h2 with ⟨h3, h4⟩ | ⟨h3, h4⟩
    · exact .inr (.inl ⟨h1, h3, h4⟩)
    · exact .inr (.inr ⟨h1, h3, h4⟩)
theorem let_other {G : List Th} (hv : validG G = true) {k b : Nat} {u x : Th} {l : Int} (hk : G[k]? = some u) (hb : G[b]? = some x) (hbk : b ≠ k) (hl : 0 ≤ l ∧ l ≤ 5) (hw : u.waits < 0) (hul : l ∈ u.holds) (hxl : x.waits = l) :
    LetKeeps G ((G.set k ⟨u.pri, outL u.holds l, u.waits⟩).set b ⟨x.pri, insL x.holds (cntLt x.holds l) l, -1⟩) b := by
  obtain ⟨h1, h2, h3⟩ := validG_iff.1 hv
  obtain ⟨a1, a2, _⟩ := h2 u (List.mem_of_getElem? hk)
  obtain ⟨c1, c2, c3⟩ := h2 x (List.mem_of_getElem? hb)
  have hkl := (List.getElem?_eq_some_iff.1 hk).1
  have hbl := (List.getElem?_eq_some_iff.1 hb).1
  have hlone : ∀ j w, j ≠ k → G[j]? = some w → l ∉ w.holds := fun j w hj hjw => sep_get h3 hk hjw (fun q => hj q.symm) l hul
  obtain ⟨v, hve⟩ : ∃ v : Th, v = ⟨u.pri, outL u.holds l, u.waits⟩ := ⟨_, rfl⟩
  obtain ⟨v', hve'⟩ : ∃ v' : Th, v' = ⟨x.pri, insL x.holds (cntLt x.holds l) l, -1⟩ := ⟨_, rfl⟩
  rw [← hve, ← hve']
  have vw : v.waits < 0 := by rw [hve]; exact hw
  have vm : ∀ y, y ∈ v.holds ↔ y ∈ u.holds ∧ y ≠ l := by intro y; rw [hve]; exact outL_mem
  have vw' : v'.waits < 0 := by rw [hve']; show (-1 : Int) < 0; omega
  have vm' : ∀ y, y ∈ v'.holds ↔ y = l ∨ y ∈ x.holds := by intro y; rw [hve']; exact insL_mem
  obtain ⟨A, hA⟩ : ∃ A, A = (G.set k v).set b v' := ⟨_, rfl⟩
  rw [← hA]
  have hlen : A.length = G.length := by rw [hA]; simp
  have gb : A[b]? = some v' := by rw [hA, List.getElem?_set, if_pos rfl, if_pos (by simpa using hbl)]
  have gk : A[k]? = some v := by rw [hA, List.getElem?_set, if_neg hbk, List.getElem?_set, if_pos rfl, if_pos hkl]
  have go : ∀ j, j ≠ b → j ≠ k → A[j]? = G[j]? := fun j q1 q2 => by rw [hA, List.getElem?_set, if_neg (fun q => q1 q.symm), List.getElem?_set, if_neg (fun q => q2 q.symm)]
  have gc : ∀ {j y}, A[j]? = some y → (j = b ∧ y = v') ∨ (j ≠ b ∧ j = k ∧ y = v) ∨ (j ≠ b ∧ j ≠ k ∧ G[j]? = some y) := fun h => get_set2 (by rw [← hA]; exact h)
  have sv' : ∀ j w, j ≠ b → j ≠ k → G[j]? = some w → Sep v' w := by
    intro j w q1 q2 hjw y hy
    rcases (vm' y).1 hy with rfl | hy
    · exact hlone j w q2 hjw
    · exact sep_get h3 hb hjw (fun q => q1 q.symm) y hy
  have sv : ∀ j w, j ≠ k → G[j]? = some w → Sep v w := fun j w q hjw y hy => sep_get h3 hk hjw (fun e => q e.symm) y ((vm y).1 hy).1
  have svv : Sep v v' := by
    intro y hy hy'
    obtain ⟨y1, y2⟩ := (vm y).1 hy
    rcases (vm' y).1 hy' with e | e
    · exact y2 e
    · exact sep_get h3 hk hb (fun q => hbk q.symm) y y1 e
  have hV : validG A = true := by
    refine validG_iff.2 ⟨by omega, fun t ht => ?_, pair_of (fun i j y z hij hy hz => ?_)⟩
    · obtain ⟨j, hj, e⟩ := List.mem_iff_getElem.1 ht
      have hjt : A[j]? = some t := by rw [List.getElem?_eq_getElem hj, e]
      rcases gc hjt with ⟨rfl, rfl⟩ | ⟨_, rfl, rfl⟩ | ⟨q1, q2, q3⟩
      · refine ⟨?_, ?_, fun h0 => by omega⟩
        · rw [hve', thOk_iff]; rw [thOk_iff] at c1; exact ⟨c1.1, by show -1 ≤ (-1 : Int) ∧ (-1 : Int) ≤ 5; omega⟩
        · rw [hve']
          exact ⟨insL_asc c2.1 (hlone j x hbk hb), fun y hy => by
            rcases insL_mem.1 hy with rfl | hy
            · exact hl
            · exact c2.2 y hy⟩
      · refine ⟨?_, ?_, fun h0 => by omega⟩
        · rw [hve, thOk_iff]; rw [thOk_iff] at a1; exact a1
        · rw [hve]; exact outL_asc a2
      · obtain ⟨d1, d2, d3⟩ := h2 t (List.mem_of_getElem? q3)
        refine ⟨d1, d2, fun h0 => ?_⟩
        obtain ⟨⟨z, hz1, hz2⟩, hz3⟩ := d3 h0
        refine ⟨?_, hz3⟩
        by_cases e : t.waits = l
        · exact ⟨v', List.mem_of_getElem? gb, (vm' _).2 (.inl e)⟩
        · obtain ⟨m, hm, em⟩ := List.mem_iff_getElem.1 hz1
          have hmz : G[m]? = some z := by rw [List.getElem?_eq_getElem hm, em]
          by_cases m1 : m = b
          · subst m1; rw [hb] at hmz; simp at hmz; subst hmz
            exact ⟨v', List.mem_of_getElem? gb, (vm' _).2 (.inr hz2)⟩
          · by_cases m2 : m = k
            · subst m2; rw [hk] at hmz; simp at hmz; subst hmz
              exact ⟨v, List.mem_of_getElem? gk, (vm _).2 ⟨hz2, e⟩⟩
            · exact ⟨z, List.mem_of_getElem? ((go m m1 m2).trans hmz), hz2⟩
    · rcases gc hy with ⟨rfl, rfl⟩ | ⟨q1, rfl, rfl⟩ | ⟨q1, q2, q3⟩ <;> rcases gc hz with ⟨r1, rfl⟩ | ⟨r1, r2, rfl⟩ | ⟨r1, r2, r3⟩
      · omega
      · exact svv.symm
      · exact sv' j z r1 r2 r3
      · exact svv
      · omega
      · exact sv j z r2 r3
      · exact (sv' i y q1 q2 q3).symm
      · exact (sv i y q2 q3).symm
      · exact sep_get h3 q3 r3 (by omega)
  have hho : ∀ y, y ≠ l → holderG A y = holderG G y := by
    intro y hy
    refine holderG_ext ?_
    apply List.ext_getElem?
    intro j
    rw [List.getElem?_map, List.getElem?_map]
    by_cases m1 : j = b
    · subst m1
      rw [gb, hb]
      simp only [Option.map_some, Option.some.injEq]
      rw [Bool.eq_iff_iff, hasB_iff, hasB_iff, vm']
      exact ⟨fun h => h.resolve_left hy, .inr⟩
    · by_cases m2 : j = k
      · subst m2
        rw [gk, hk]
        simp only [Option.map_some, Option.some.injEq]
        rw [Bool.eq_iff_iff, hasB_iff, hasB_iff, vm]
        exact ⟨fun h => h.1, fun h => ⟨h, hy⟩⟩
      · rw [go j m1 m2]
  have hAl : holderG A l = b := by
    have hp := (validG_iff.1 hV).2.2
    have hap : A.Pairwise Apart := by
      have hV2 := hV
      simp only [validG, Bool.and_eq_true] at hV2
      exact (thsGo_apart hV2.1.2).2
    rcases holderG_spec hap l with ⟨_, e⟩ | ⟨j, t, e1, e2, e3, e4⟩
    · have := e v' (List.mem_of_getElem? gb)
      rw [hasB_iff.2 ((vm' l).2 (.inl rfl))] at this; exact absurd this (by simp)
    · have := e4 b v' gb (hasB_iff.2 ((vm' l).2 (.inl rfl)))
      rw [e1, this]
  have nb : nextG A b < 0 := by unfold nextG; rw [gb]; simp only [if_pos vw']; omega
  have nk : nextG A k < 0 := by unfold nextG; rw [gk]; simp only [if_pos vw]; omega
  refine ⟨hV, hv, hlen, fun hc i hi => ?_⟩
  cases q : circG A i with
  | false => rfl
  | true =>
    exfalso
    obtain ⟨m, hm⟩ := (circ_iff hi).1 q
    have hne : ∀ j, j < m + 1 → nx A j i ≠ b ∧ nx A j i ≠ k := fun j hj => ⟨fun e => by have := nx_stay nb e hj; omega, fun e => by have := nx_stay nk e hj; omega⟩
    have hs : ∀ j, j < m + 1 → 0 ≤ nx A j i → nextG G (nx A j i).toNat = nextG A (nx A j i).toNat := by
      intro j hj h0
      obtain ⟨e1, e2⟩ := hne j hj
      obtain ⟨s, hs⟩ := Int.eq_ofNat_of_zero_le h0
      have hsu := nx_succ A j i
      rw [if_neg (by omega)] at hsu
      rw [hs, Int.toNat_natCast] at hsu ⊢
      have s1 : s ≠ b := fun e => e1 (by rw [hs, e])
      have s2 : s ≠ k := fun e => e2 (by rw [hs, e])
      have g1 := go s s1 s2
      have hwl : ∀ t, G[s]? = some t → t.waits ≠ l := by
        intro t ht e
        have : nextG A s = b := by unfold nextG; rw [g1, ht]; simp only []; rw [if_neg (by omega), e, hAl]
        rw [this] at hsu
        by_cases e4 : j + 1 < m + 1
        · exact (hne (j + 1) e4).1 hsu
        · have : j = m := by omega
          subst this
          rw [hm] at hsu
          exact (hne 0 (by omega)).1 (by rw [nx]; exact hsu)
      unfold nextG
      rw [g1]
      cases e : G[s]? with
      | none => rfl
      | some t => simp only []; rw [hho _ (hwl t e)]
    have := nx_same2 (g := A) (g' := G) (m + 1) hs
    have : circG G i = true := (circ_iff (by omega)).2 ⟨m, this.trans hm⟩
    rw [hc i (by omega)] at this; exact absurd this (by simp)
end Go.Proofs.Ytmdjbnicjohkjaa
