/- Plain facts: both sides' Ask is the same; what Ask keeps. No condition: plain lemmas. -/
import Derived.Test.YtmdjbnicjohkjaaLkAsk
namespace Go.Proofs.Ytmdjbnicjohkjaa
open Go.RowKit
set_option linter.unusedSimpArgs false
set_option linter.unusedVariables false
/-- what Ask of the reference gives -/
def raskR (g : List Th) (t l : Int) : List Th × Bool × Int :=
  if isTh g t && inB l 0 5 then
    (if 0 ≤ (thAt g t.toNat).waits ∨ hasB (thAt g t.toNat).holds l = true then ([], false, 13)
     else if holderG g l < 0 then (g.set t.toNat ⟨(thAt g t.toNat).pri, withL (thAt g t.toNat).holds l, (thAt g t.toNat).waits⟩, true, 0)
     else if circG (g.set t.toNat ⟨(thAt g t.toNat).pri, (thAt g t.toNat).holds, l⟩) t.toNat = true then ([], false, 10)
     else (g.set t.toNat ⟨(thAt g t.toNat).pri, (thAt g t.toNat).holds, l⟩, false, 0))
  else ([], false, 1)
theorem holderG_map (g : List Th) (l : Int) : holderG g l = idxGo (fun h => hasB h l) 0 (g.map Th.holds) := by
  unfold holderG; exact idxGo_map Th.holds (fun h => hasB h l) g 0
theorem thAt_eq {g : List Th} {k : Nat} {u : Th} (h : g[k]? = some u) : thAt g k = u := by simp [thAt, h]
theorem holderG_setW {g : List Th} {k : Nat} {u : Th} (h : g[k]? = some u) (p x l : Int) : holderG (g.set k ⟨p, u.holds, x⟩) l = holderG g l := by
  rw [holderG_map, holderG_map, List.map_set]
  congr 1
  apply List.ext_getElem?
  intro j
  rw [List.getElem?_set]
  split
  · rename_i e
    subst e
    rw [List.getElem?_map, h]
    simp [(List.getElem?_eq_some_iff.1 h).1]
  · rfl
theorem nextG_setW {g : List Th} {k : Nat} {u : Th} (h : g[k]? = some u) (p x : Int) (s : Nat) : nextG (g.set k ⟨p, u.holds, x⟩) s = if s = k then (if x < 0 then -1 else holderG g x) else nextG g s := by
  unfold nextG
  rw [List.getElem?_set]
  have hk := (List.getElem?_eq_some_iff.1 h).1
  by_cases e : s = k
  · subst e
    rw [if_pos rfl, if_pos hk, if_pos rfl]
    simp only [holderG_setW h]
  · rw [if_neg (fun q => e q.symm), if_neg e]
    cases g[s]? with
    | none => rfl
    | some v => simp only [holderG_setW h]
theorem holder_ne {g : List Th} (hv : validG g = true) {k q : Nat} {u : Th} {l : Int} (hk : g[k]? = some u) (hh : hasB u.holds l = false) (hq : holderG g l = q) : q ≠ k := by
  intro e
  subst e
  have hp : g.Pairwise Apart := by
    simp only [validG, Bool.and_eq_true] at hv
    exact (thsGo_apart hv.1.2).2
  rcases holderG_spec hp l with ⟨h1, _⟩ | ⟨j, t, h1, h2, h3, _⟩
  · omega
  · obtain rfl : j = q := by omega
    rw [hk] at h2; simp at h2; subst h2
    rw [hh] at h3; exact absurd h3 (by simp)
/-- to ask is to come into a circle just where one stands in the owner's chain -/
theorem circ_hasB {g : List Th} {k q : Nat} {u : Th} {l : Int} (hk : g[k]? = some u) (hl : 0 ≤ l) (hq : holderG g l = q) (hqk : q ≠ k) : circG (g.set k ⟨u.pri, u.holds, l⟩) k = hasB (chainG g q) k := by
  have hkl := (List.getElem?_eq_some_iff.1 hk).1
  have hql : q < g.length := by have := (holderG_range g l).2; omega
  obtain ⟨g', hg'⟩ : ∃ g', g' = g.set k ⟨u.pri, u.holds, l⟩ := ⟨_, rfl⟩
  rw [← hg']
  have hn : ∀ s : Nat, nextG g' s = if s = k then (q : Int) else nextG g s := by
    intro s; rw [hg', nextG_setW hk, if_neg (by omega : ¬ l < 0), hq]
  have hkl' : k < g'.length := by rw [hg']; simpa using hkl
  rw [Bool.eq_iff_iff, circ_iff hkl', hasB_iff, chain_iff hql]
  constructor
  · rintro ⟨m, hm⟩
    rw [nx_first, hn, if_pos rfl] at hm
    obtain ⟨m0, _, h1, h2⟩ := least (P := fun m => nx g' m q = k) m hm
    have h3 := nx_same (g := g') (g' := g) (t := k) (o := (q : Int)) (fun s hs => by rw [hn, if_neg hs]) (.inl (by omega)) m0 h2
    rcases m0 with _ | m0
    · simp only [nx] at h1; omega
    · exact ⟨by omega, by omega, m0, by rw [h3]; exact h1⟩
  · rintro ⟨_, _, m, hm⟩
    obtain ⟨m0, _, h1, h2⟩ := least (P := fun m => nx g m q = k) (m + 1) hm
    have h3 := nx_same (g := g) (g' := g') (t := k) (o := (q : Int)) (fun s hs => by rw [hn, if_neg hs]) (.inl (by omega)) m0 h2
    exact ⟨m0, by rw [nx_first, hn, if_pos rfl, h3]; exact h1⟩
theorem isTh_get {g : List Th} {t : Int} (h : isTh g t = true) : ∃ (k : Nat) (u : Th), t = k ∧ g[k]? = some u ∧ validG g = true ∧ k < g.length := by
  obtain ⟨h1, h2, h3⟩ := isTh_iff.1 h
  obtain ⟨k, rfl⟩ := Int.eq_ofNat_of_zero_le h2
  have hk : k < g.length := by omega
  exact ⟨k, g[k], rfl, List.getElem?_eq_getElem hk, h1, hk⟩
theorem ask_eq (g : List Th) (t l : Int) : raskR g t l = askR g t l := by
  unfold raskR askR
  by_cases h : (isTh g t && inB l 0 5) = true
  · rw [if_pos h, if_pos h]
    rw [Bool.and_eq_true] at h
    obtain ⟨k, u, rfl, hk, hv, hkl⟩ := isTh_get h.1
    have hl := inB_iff.1 h.2
    rw [Int.toNat_natCast, thAt_eq hk]
    split
    · rfl
    · rename_i h1
      have hh : hasB u.holds l = false := by cases q : hasB u.holds l; · rfl
                                             · exact absurd (.inr q) h1
      have ha := ((validG_iff.1 hv).2.1 u (List.mem_of_getElem? hk)).2.1
      split
      · rw [with_eq ha.1 ha.2 hl (fun q => by rw [hasB_iff.2 q] at hh; exact absurd hh (by simp))]
      · rename_i h2
        obtain ⟨q, hq⟩ := Int.eq_ofNat_of_zero_le (Int.not_lt.1 h2)
        rw [circ_hasB hk hl.1 hq (holder_ne hv hk hh hq), hq, Int.toNat_natCast]
  · rw [if_neg h, if_neg h]
end Go.Proofs.Ytmdjbnicjohkjaa
