/- From what a row says of a list of events, its reach with it, to what the walks use. No condition: plain lemmas. -/
import Derived.Test.YtlhnhmimhpcoaaaOpenB
import Derived.Test.YtlhnhmimhpcoaaaOpen
namespace Go.Proofs.Ytlhnhmimhpcoaaa
open Go.ChangeShapes Go.WideShapes Go.ChangeAt Go.RowKit Go.Joins Go.Deep
set_option linter.unusedSimpArgs false
set_option linter.unusedVariables false
theorem opensB_pair : OpensB Try.prog 44 (fun _ cs (y : P2) => cs = enc2 y ∧ True) := by
  intro H enc w base spare held fuel cs x h _
  obtain ⟨y, hy⟩ := opens_pair (P := Try.prog) (t := 44) (e := 3) Try.underlying44 Try.underlying3 (by kernel_rfl) (by kernel_rfl) h
  exact ⟨y, hy, trivial⟩
set_option maxRecDepth 100000 in
theorem open_P2z {H : Type} {enc : TypeId × Value → H} {w : World} {base b0 : Nat} {spare : Nat → Bool} {held : Bool} {r : Reach} {v : Value} {d : DataW H} {ps : List MemPlace}
    (hv : Value.okWide Try.prog w r b0 27 v) (h : DataW.Trod enc Try.prog w base spare held 27 v d ps) (hw : ∀ n ∈ d.weights Try.prog 27, n ≤ reachBytes) :
    ∃ a n c, v = .slice a n c ∧ ∃ xs : List P2, Rd w a n 2 (xs.map enc2) ∧ (n = 0 → (a = none ∧ c = 0) ∨ ∃ ad, a = some ad) ∧ n ≤ 281474976710656 := by
  obtain ⟨a0, n0, c0, rfl⟩ := okWide_slice Try.underlying27 hv
  obtain ⟨fuel, hf⟩ := h
  obtain ⟨ys, a, n, c, e, h1, h2, h3, h4⟩ := opensB_slice (en := enc2) (k := 2) (ok := fun _ _ => True) Try.underlying27 (by kernel_rfl) (by decide) opensB_pair hf hw
  simp [Value.cells] at e
  obtain ⟨rfl, rfl, rfl⟩ := e
  have hb : Try.prog.bytesOf 44 = 16 := by kernel_rfl
  rw [hb] at h4
  refine ⟨_, _, _, rfl, ys, h1, h3, ?_⟩
  simp only [reachBytes] at h4
  omega
end Go.Proofs.Ytlhnhmimhpcoaaa
