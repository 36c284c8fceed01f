/- Plain facts: what Ask gives is valid, has a circle just where there was one, and nobody's effective priority falls. No condition: plain lemmas. -/
import Derived.Test.YtmdjbnicjohkjaaLkAskE
namespace Go.Proofs.Ytmdjbnicjohkjaa
open Go.RowKit
set_option linter.unusedSimpArgs false
set_option linter.unusedVariables false
theorem holderG_none {g : List Th} {l : Int} (h : holderG g l < 0) : ∀ t ∈ g, l ∉ t.holds := by
  intro t ht hl
  rcases idxGo_spec (fun t : Th => hasB t.holds l) g 0 with h1 | ⟨j, u, h1, _⟩
  · have := h1.2 t ht
    rw [hasB_iff.2 hl] at this; exact absurd this (by simp)
  · unfold holderG at h; rw [h1] at h; omega
theorem holderG_some {g : List Th} {l : Int} {q : Nat} (h : holderG g l = q) : ∃ u, g[q]? = some u ∧ l ∈ u.holds := by
  rcases idxGo_spec (fun t : Th => hasB t.holds l) g 0 with h1 | ⟨j, u, h1, h2, h3, _⟩
  · unfold holderG at h; omega
  · unfold holderG at h; rw [h1] at h
    obtain rfl : j = q := by omega
    exact ⟨u, h2, hasB_iff.1 h3⟩
theorem idxGo_bool {α : Type} (p : α → Bool) (xs : List α) (k : Nat) : idxGo p k xs = idxGo (fun b => b) k (xs.map p) := idxGo_map p (fun b => b) xs k
theorem holderG_ext {g g' : List Th} {l : Int} (h : g.map (fun t => hasB t.holds l) = g'.map (fun t => hasB t.holds l)) : holderG g l = holderG g' l := by
  unfold holderG; rw [idxGo_bool, h, ← idxGo_bool]
theorem map_set_same {α β : Type} {f : α → β} {l : List α} {k : Nat} {u v : α} (hk : l[k]? = some u) (h : f v = f u) : (l.set k v).map f = l.map f := by
  rw [List.map_set]
  apply List.ext_getElem?
  intro j
  rw [List.getElem?_set]
  split
  · rename_i e
    subst e
    rw [List.getElem?_map, hk]
    simp [(List.getElem?_eq_some_iff.1 hk).1, h]
  · rfl
theorem get_set {α : Type} {l : List α} {k j : Nat} {v y : α} (h : (l.set k v)[j]? = some y) : (j = k ∧ y = v) ∨ (j ≠ k ∧ l[j]? = some y) := by
  rw [List.getElem?_set] at h
  split at h
  · rename_i e
    split at h
    · simp at h; exact .inl ⟨e.symm, h.symm⟩
    · simp at h
  · rename_i e; exact .inr ⟨fun q => e q.symm, h⟩
theorem pair_of {α : Type} {R : α → α → Prop} {l : List α} (h : ∀ (i j : Nat) (x y : α), i < j → l[i]? = some x → l[j]? = some y → R x y) : l.Pairwise R :=
  List.pairwise_iff_getElem.2 (fun i j hi hj hij => h i j _ _ hij (List.getElem?_eq_getElem hi) (List.getElem?_eq_getElem hj))
theorem Sep.symm {t u : Th} (h : Sep t u) : Sep u t := fun l hl hl2 => h l hl2 hl
theorem sep_get {g : List Th} (h : g.Pairwise Sep) {i j : Nat} {t u : Th} (ht : g[i]? = some t) (hu : g[j]? = some u) (hij : i ≠ j) : Sep t u := by
  rcases Nat.lt_or_gt_of_ne hij with q | q
  · exact pair_get h ht hu q
  · exact (pair_get h hu ht q).symm
/-- a thread of a valid graph changed so that its locks keep apart -/
theorem valid_set {g : List Th} (hv : validG g = true) {k : Nat} {u v : Th} (hk : g[k]? = some u) (hok : thOk v = true) (hasc : Asc v.holds)
    (hsep : ∀ j w, j ≠ k → g[j]? = some w → Sep v w) (hw : 0 ≤ v.waits → (∃ j w, j ≠ k ∧ g[j]? = some w ∧ v.waits ∈ w.holds) ∧ v.waits ∉ v.holds)
    (hkeep : ∀ j w, j ≠ k → g[j]? = some w → 0 ≤ w.waits → w.waits ∈ u.holds → w.waits ∈ v.holds) : validG (g.set k v) = true := by
  obtain ⟨h1, h2, h3⟩ := validG_iff.1 hv
  have hkl := (List.getElem?_eq_some_iff.1 hk).1
  have hself : v ∈ g.set k v := List.mem_of_getElem? (i := k) (by rw [List.getElem?_set, if_pos rfl, if_pos hkl])
  have hin : ∀ j w, j ≠ k → g[j]? = some w → w ∈ g.set k v := fun j w hj hw => List.mem_of_getElem? (i := j) (by rw [List.getElem?_set, if_neg (fun q => hj q.symm)]; exact hw)
  refine validG_iff.2 ⟨by simpa using h1, fun t ht => ?_, pair_of (fun i j x y hij hx hy => ?_)⟩
  · rcases mem_set ht with rfl | ⟨j, hj, hjt⟩
    · refine ⟨hok, hasc, fun h0 => ?_⟩
      obtain ⟨⟨j, w, hj, hjw, hm⟩, hn⟩ := hw h0
      exact ⟨⟨w, hin j w hj hjw, hm⟩, hn⟩
    · obtain ⟨a1, a2, a3⟩ := h2 t (List.mem_of_getElem? hjt)
      refine ⟨a1, a2, fun h0 => ?_⟩
      obtain ⟨⟨w, hw1, hw2⟩, hn⟩ := a3 h0
      refine ⟨?_, hn⟩
      obtain ⟨m, hm, e⟩ := List.mem_iff_getElem.1 hw1
      have hmg : g[m]? = some w := by rw [List.getElem?_eq_getElem hm, e]
      by_cases q : m = k
      · subst q
        rw [hk] at hmg; simp at hmg; subst hmg
        exact ⟨v, hself, hkeep j t hj hjt h0 hw2⟩
      · exact ⟨w, hin m w q hmg, hw2⟩
  · rcases get_set hx with ⟨rfl, rfl⟩ | ⟨e1, e2⟩
    · rcases get_set hy with ⟨rfl, rfl⟩ | ⟨e3, e4⟩
      · omega
      · exact hsep j y e3 e4
    · rcases get_set hy with ⟨rfl, rfl⟩ | ⟨e3, e4⟩
      · exact (hsep i x e1 e2).symm
      · exact sep_get h3 e2 e4 (by omega)
theorem chainGo_ext {g g' : List Th} (h : ∀ s, nextG g' s = nextG g s) (i : Int) : ∀ (f : Nat) (n : Int) (out : List Int), chainGo g' i f n out = chainGo g i f n out
  | 0, _, _ => rfl
  | f + 1, n, out => by unfold chainGo; rw [h, chainGo_ext h i f]
theorem circGo_ext {g g' : List Th} (h : ∀ s, nextG g' s = nextG g s) (i : Int) : ∀ (f : Nat) (n : Int), circGo g' i f n = circGo g i f n
  | 0, _ => rfl
  | f + 1, n => by unfold circGo; rw [h, circGo_ext h i f]
theorem chainG_ext {g g' : List Th} (h : ∀ s, nextG g' s = nextG g s) (hl : g'.length = g.length) (i : Nat) : chainG g' i = chainG g i := by
  unfold chainG; rw [chainGo_ext h, h, hl]
theorem circG_ext {g g' : List Th} (h : ∀ s, nextG g' s = nextG g s) (hl : g'.length = g.length) (i : Nat) : circG g' i = circG g i := by
  unfold circG; rw [circGo_ext h, h, hl]
theorem effV_mono {g g' : List Th} (hl : g'.length = g.length) (hp : ∀ m, priG g' m = priG g m) (hc : ∀ m i : Nat, m < g.length → hasB (chainG g m) i = true → hasB (chainG g' m) i = true) (i : Nat) : effV g i ≤ effV g' i := by
  rw [effV_le]
  refine ⟨by rw [← hp]; exact effV_own g' i, fun m hm h => ?_⟩
  rw [← hp]
  exact effV_of (by omega) (hc m i hm h)
theorem effV_ext {g g' : List Th} (h : ∀ s, nextG g' s = nextG g s) (hl : g'.length = g.length) (hp : ∀ m, priG g' m = priG g m) (i : Nat) : effV g' i = effV g i := by
  have e := chainG_ext h hl
  exact Int.le_antisymm (effV_mono (g := g') (g' := g) hl.symm (fun m => (hp m).symm) (fun m i _ => by rw [e]; exact id) i) (effV_mono hl hp (fun m i _ => by rw [e]; exact id) i)
theorem circFrom_zero {g : List Th} : ∀ (f k : Nat), (circFrom g f k).2 = 0 → ∃ i, k ≤ i ∧ i < k + f ∧ circG g i = true
  | 0, k, h => by simp [circFrom] at h
  | f + 1, k, h => by
    unfold circFrom at h
    split at h
    · rename_i q; exact ⟨k, Nat.le_refl _, by omega, q⟩
    · obtain ⟨i, h1, h2, h3⟩ := circFrom_zero f (k + 1) h
      exact ⟨i, by omega, by omega, h3⟩
theorem circle_iff {g : List Th} (hv : validG g = true) : (circleR g).2 = 0 ↔ ∃ i, i < g.length ∧ circG g i = true := by
  constructor
  · intro h
    unfold circleR at h
    rw [if_pos hv] at h
    obtain ⟨i, _, h2, h3⟩ := circFrom_zero _ _ h
    exact ⟨i, by omega, h3⟩
  · rintro ⟨i, hi, h⟩
    rcases circleR_cases hv with h1 | ⟨_, h2⟩
    · exact h1
    · rw [h2 i hi] at h; exact absurd h (by simp)
theorem circle_same {g g' : List Th} (hv : validG g = true) (hv' : validG g' = true) (h : (∃ i, i < g.length ∧ circG g i = true) ↔ (∃ i, i < g'.length ∧ circG g' i = true)) : (circleR g').2 = (circleR g).2 := by
  have h1 := circle_iff hv
  have h2 := circle_iff hv'
  rcases circleR_cases hv with a | ⟨a, _⟩ <;> rcases circleR_cases hv' with b | ⟨b, _⟩
  · rw [a, b]
  · have := h2.2 (h.1 (h1.1 a)); rw [b] at this; simp at this
  · have := h1.2 (h.2 (h2.1 b)); rw [a] at this; simp at this
  · rw [a, b]
end Go.Proofs.Ytmdjbnicjohkjaa
