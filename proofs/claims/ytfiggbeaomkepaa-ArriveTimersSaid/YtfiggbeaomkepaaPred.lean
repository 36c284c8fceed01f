/- Predicates handed over as function values; what IndexFunc gives. No condition: plain lemmas. -/
import Derived.Test.YtfiggbeaomkepaaLst
import Derived.Shelf.GgClosure.Gives
namespace Go.Proofs.Ytfiggbeaomkepaa
open Go.RowKit
set_option linter.unusedSimpArgs false
set_option linter.unusedVariables false
def idxGo {α : Type} (p : α → Bool) : Nat → List α → Int
  | _, [] => -1
  | k, x :: xs => if p x then k else idxGo p (k + 1) xs
theorem idxGo_any {α : Type} (p : α → Bool) : ∀ (xs : List α) (k : Nat), decide (0 ≤ idxGo p k xs) = xs.any p
  | [], k => by simp [idxGo]
  | x :: xs, k => by
    have := idxGo_any p xs (k + 1)
    cases h : p x
    · simp [idxGo, h, this]
    · simp [idxGo, h]
/-- what is asked of a predicate handed over as a function value: it can be called, and at every element of the list, in every later world, it gives p -/
structure PredIn (g : Nat) (lb : Array Value) {α : Type} (val : α → Value) (p : α → Bool) (xs : List α) (w : World) : Prop where
  eg : ∀ args w, (callFunc g args).run Try.prog w = .ok (.enter g args) w
  gives : ∀ (x : α), x ∈ xs → ∀ (w' : World), Below w.heap.size w w' → Calls Try.prog g (#[val x] ++ lb) w' fun e w'' => e = .returned (.bool (p x)) ∧ Below w'.heap.size w' w''
theorem Rd.nextK {w a n k} {α : Type} {enc : α → List Value} {xs : List α} (h : Rd w a n k (xs.map enc)) (i : Nat) (hi : i < n) : ∃ (x : α) (b off : Nat), a = some ⟨b, off, none⟩ ∧ b < w.heap.size ∧ (∀ j, j < k → w.cell? ⟨b, off + i * k + j, none⟩ = (enc x)[j]?) ∧ x ∈ xs ∧ xs[i]? = some x ∧ Hid (xs.drop i = x :: xs.drop (i + 1)) := by
  have hl : i < xs.length := by rw [h.length]; exact hi
  obtain ⟨b, off, rfl, hlt, hc⟩ := h.at_ (by omega)
  refine ⟨xs[i], b, off, rfl, hlt, fun j hj => ?_, List.getElem_mem hl, by simp, List.drop_eq_getElem_cons hl⟩
  have := hc i (by simpa using hl) j hj
  simpa using this
end Go.Proofs.Ytfiggbeaomkepaa
