/- Plain facts on valid graphs: each lock has one holder. No condition: plain lemmas. -/
import Derived.Test.YtmdjbnicjohkjaaLkValid
namespace Go.Proofs.Ytmdjbnicjohkjaa
open Go.RowKit
set_option linter.unusedSimpArgs false
set_option linter.unusedVariables false
theorem idxGo_spec {α : Type} (p : α → Bool) : ∀ (xs : List α) (k : Nat), (idxGo p k xs = -1 ∧ ∀ x ∈ xs, p x = false) ∨ ∃ (j : Nat) (x : α), idxGo p k xs = (k + j : Nat) ∧ xs[j]? = some x ∧ p x = true ∧ ∀ (i : Nat) (y : α), i < j → xs[i]? = some y → p y = false
  | [], k => .inl ⟨rfl, by simp⟩
  | x :: xs, k => by
    cases h : p x
    · rcases idxGo_spec p xs (k + 1) with ⟨h1, h2⟩ | ⟨j, y, h1, h2, h3, h4⟩
      · exact .inl ⟨by simp [idxGo, h, h1], fun y hy => (List.mem_cons.1 hy).elim (fun e => e ▸ h) (h2 y)⟩
      · refine .inr ⟨j + 1, y, by simp only [idxGo, h, h1]; simp; omega, by simpa using h2, h3, fun i z hi hz => ?_⟩
        rcases i with _ | i
        · simp at hz; subst hz; exact h
        · exact h4 i z (by omega) (by simpa using hz)
    · exact .inr ⟨0, x, by simp [idxGo, h], rfl, h, fun i _ hi => by omega⟩
theorem holdsGo_out : ∀ {xs : List Int} {S : List Int} {p : Int}, holdsGo S p xs = true → ∀ l, hasB S l = true → hasB xs l = false
  | [], _, _, _, _, _ => rfl
  | x :: xs, S, p, h, l, hl => by
    simp only [holdsGo, Bool.and_eq_true, Bool.not_eq_true', decide_eq_true_eq] at h
    rw [hasB_cons, holdsGo_out h.2 l hl, Bool.or_false]
    cases e : (l == x)
    · rfl
    · rw [beq_iff_eq] at e; rw [e, h.1.1.2] at hl; exact absurd hl (by simp)
theorem holdsGo_rng : ∀ {xs : List Int} {S : List Int} {p : Int}, holdsGo S p xs = true → ∀ x ∈ xs, 0 ≤ x ∧ x ≤ 5
  | [], _, _, _, _, hx => by simp at hx
  | y :: xs, S, p, h, x, hx => by
    simp only [holdsGo, Bool.and_eq_true, decide_eq_true_eq] at h
    rcases List.mem_cons.1 hx with rfl | hx
    · exact inB_iff.1 h.1.1.1
    · exact holdsGo_rng h.2 x hx
def Apart (t u : Th) : Prop := ∀ l, hasB t.holds l = true → hasB u.holds l = false
theorem thsGo_apart : ∀ {g : List Th} {S : List Int}, thsGo S g = true → (∀ l, hasB S l = true → ∀ t ∈ g, hasB t.holds l = false) ∧ g.Pairwise Apart
  | [], _, _ => ⟨by simp, .nil⟩
  | t :: g, S, h => by
    simp only [thsGo, Bool.and_eq_true] at h
    obtain ⟨h1, h2⟩ := thsGo_apart h.2
    refine ⟨fun l hl u hu => ?_, .cons (fun u hu l hl => h1 l (by rw [hasB_app, hl]; simp) u hu) h2⟩
    rcases List.mem_cons.1 hu with rfl | hu
    · exact holdsGo_out h.1.2 l hl
    · exact h1 l (by rw [hasB_app, hl]; rfl) u hu
theorem pair_get {α : Type} {R : α → α → Prop} {l : List α} (h : l.Pairwise R) {i j : Nat} {x y : α} (hx : l[i]? = some x) (hy : l[j]? = some y) (hij : i < j) : R x y := by
  obtain ⟨hi, rfl⟩ := List.getElem?_eq_some_iff.1 hx
  obtain ⟨hj, rfl⟩ := List.getElem?_eq_some_iff.1 hy
  exact List.pairwise_iff_getElem.1 h i j hi hj hij
theorem hasB_all {g : List Th} {l : Int} : hasB (allHolds g) l = true ↔ ∃ t ∈ g, hasB t.holds l = true := by
  simp [hasB_iff, allHolds, List.mem_flatMap]
/-- the holder of a lock, of apart threads -/
theorem holderG_spec {g : List Th} (h : g.Pairwise Apart) (l : Int) : (holderG g l = -1 ∧ ∀ t ∈ g, hasB t.holds l = false) ∨ ∃ (j : Nat) (t : Th), holderG g l = j ∧ g[j]? = some t ∧ hasB t.holds l = true ∧ ∀ (i : Nat) (u : Th), g[i]? = some u → hasB u.holds l = true → i = j := by
  rcases idxGo_spec (fun t : Th => hasB t.holds l) g 0 with h1 | ⟨j, t, h1, h2, h3, h4⟩
  · exact .inl h1
  · refine .inr ⟨j, t, by unfold holderG; rw [h1]; simp, h2, h3, fun i u hu hl => ?_⟩
    rcases Nat.lt_trichotomy i j with hi | hi | hi
    · have := h4 i u hi hu; rw [this] at hl; exact absurd hl (by simp)
    · exact hi
    · have := pair_get h h2 hu hi l h3; rw [this] at hl; exact absurd hl (by simp)
theorem waits_holder {g : List Th} (h : thsGo [] g = true) {i : Nat} {t : Th} (ht : g[i]? = some t) :
    waitsOk (allHolds g) t = (decide (t.waits < 0) || !(decide (holderG g t.waits < 0) || decide (holderG g t.waits = i))) := by
  have hp := (thsGo_apart h).2
  unfold waitsOk
  congr 1
  rcases holderG_spec hp t.waits with ⟨h1, h2⟩ | ⟨j, u, h1, h2, h3, h4⟩
  · have : hasB (allHolds g) t.waits = false := by
      rw [Bool.eq_false_iff, ne_eq, hasB_all]; rintro ⟨u, hu, hl⟩; rw [h2 u hu] at hl; exact absurd hl (by simp)
    rw [h1, this]; simp
  · have : hasB (allHolds g) t.waits = true := hasB_all.2 ⟨u, List.mem_of_getElem? h2, h3⟩
    rw [h1, this]
    cases e : hasB t.holds t.waits
    · have : j ≠ i := fun q => by subst q; rw [h2] at ht; simp at ht; subst ht; rw [e] at h3; exact absurd h3 (by simp)
      simp; omega
    · have := h4 i t ht e
      subst this; simp
end Go.Proofs.Ytmdjbnicjohkjaa
