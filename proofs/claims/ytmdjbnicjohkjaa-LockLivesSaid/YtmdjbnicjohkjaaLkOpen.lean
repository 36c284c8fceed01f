/- From what a row says of a graph of threads to what the walks use. No condition: plain lemmas. -/
import Derived.Test.YtmdjbnicjohkjaaOpenB
import Derived.Test.YtmdjbnicjohkjaaGr
import Derived.Test.YtmdjbnicjohkjaaOpen
namespace Go.Proofs.Ytmdjbnicjohkjaa
open Go.ChangeShapes Go.WideShapes Go.ChangeAt Go.RowKit Go.Joins Go.Deep
set_option linter.unusedSimpArgs false
set_option linter.unusedVariables false
set_option maxRecDepth 100000 in
theorem opensB_thread : OpensB Try.prog 45 (fun w cs (t : ThV) => cs = encTh t ∧ (t.ok w ∧ t.n ≤ 281474976710656)) := by
  intro H enc w base spare held fuel cs x h hw
  obtain ⟨xs, n, _, hx, hl, hxl, hf⟩ := DataW.trod_struct Try.underlying45 h
  have hc : Try.prog.cellsOf 45 = 3 := by kernel_rfl
  have hc1 : Try.prog.cellsOf 3 = 1 := by kernel_rfl
  have hc2 : Try.prog.cellsOf 27 = 1 := by kernel_rfl
  have hb : Try.prog.bytesOf 3 = 8 := by kernel_rfl
  rw [hc] at hl
  rw [hx] at hw
  simp only [DataW.weights, Try.underlying45] at hw
  match cs, hl, xs, hxl with
  | [u0, u1, u2], _, [x0, x1, x2], _ =>
    have g0 := hf 0 _ rfl
    have g1 := hf 1 _ rfl
    have g2 := hf 2 _ rfl
    simp [hc1, hc2] at g0 g1 g2
    obtain ⟨p, e0, _⟩ := DataW.trod_int Try.underlying3 g0
    obtain ⟨l, e2, _⟩ := DataW.trod_int Try.underlying3 g2
    obtain ⟨ys, a, m, c, e1, hR, _, hN, hB⟩ := opensB_slice (en := enc1) (k := 1) (ok := fun _ _ => True) Try.underlying27 hc1 (by decide) (opensB_int Try.underlying3) g1 (fun q hq => hw q (by simp [DataW.weightsEach]; exact .inr (.inl hq)))
    simp at e0 e1 e2
    subst e0; subst e1; subst e2
    rw [hb] at hB
    refine ⟨⟨p, a, m, c, l, ys⟩, rfl, ⟨hR, hN⟩, ?_⟩
    simp only [reachBytes] at hB ⊢
    omega
set_option maxRecDepth 100000 in
theorem open_G {H : Type} {enc : TypeId × Value → H} {w : World} {base b0 : Nat} {spare : Nat → Bool} {held : Bool} {r : Reach} {v : Value} {d : DataW H} {ps : List MemPlace}
    (hv : Value.okWide Try.prog w r b0 22 v) (h : DataW.Trod enc Try.prog w base spare held 22 v d ps) (hw : ∀ n ∈ d.weights Try.prog 22, n ≤ reachBytes) :
    ∃ a n c, v = .slice a n c ∧ ∃ g, RdG w a n g ∧ ∀ t ∈ g, t.n ≤ 281474976710656 := by
  obtain ⟨a0, n0, c0, rfl⟩ := okWide_slice Try.underlying22 hv
  obtain ⟨fuel, hf⟩ := h
  obtain ⟨ys, a, n, c, e, h1, h2, h3, _⟩ := opensB_slice (en := encTh) (k := 3) (ok := fun w t => t.ok w ∧ t.n ≤ 281474976710656) Try.underlying22 (by kernel_rfl) (by decide) opensB_thread hf hw
  simp [Value.cells] at e
  obtain ⟨rfl, rfl, rfl⟩ := e
  exact ⟨_, _, _, rfl, ys, ⟨h1, fun t ht => (h2 t ht).1⟩, fun t ht => (h2 t ht).2⟩
end Go.Proofs.Ytmdjbnicjohkjaa
