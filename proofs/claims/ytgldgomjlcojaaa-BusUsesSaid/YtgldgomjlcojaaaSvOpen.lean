/- From what a row says of slots and of requests to what the walks use. No condition: plain lemmas. -/
import Derived.Test.YtgldgomjlcojaaaBsOpen
import Derived.Test.YtgldgomjlcojaaaSvMem
namespace Go.Proofs.Ytgldgomjlcojaaa
open Go.ChangeShapes Go.WideShapes Go.ChangeAt Go.RowKit Go.Joins Go.Deep
set_option linter.unusedSimpArgs false
set_option linter.unusedVariables false
set_option maxRecDepth 100000 in
theorem opens_rq : Opens Try.prog 35 (fun _ cs (y : Rq) => cs = encQ y) := by
  intro H enc w base spare held fuel cs x h
  obtain ⟨xs, n, _, hx, hl, hxl, hf⟩ := DataW.trod_struct Try.underlying35 h
  have hc : Try.prog.cellsOf 35 = 3 := by kernel_rfl
  have hc1 : Try.prog.cellsOf 3 = 1 := by kernel_rfl
  rw [hc] at hl
  match cs, hl, xs, hxl with
  | [u0, u1, u2], _, [x0, x1, x2], _ =>
    have g0 := hf 0 _ rfl
    have g1 := hf 1 _ rfl
    have g2 := hf 2 _ rfl
    simp [hc1] at g0 g1 g2
    obtain ⟨p, e0, _⟩ := DataW.trod_int Try.underlying3 g0
    obtain ⟨l, e1, _⟩ := DataW.trod_int Try.underlying3 g1
    obtain ⟨m, e2, _⟩ := DataW.trod_int Try.underlying3 g2
    simp at e0 e1 e2
    subst e0; subst e1; subst e2
    exact ⟨⟨p, l, m⟩, rfl⟩
set_option maxRecDepth 100000 in
theorem open_Rqs {H : Type} {enc : TypeId × Value → H} {w : World} {base b0 : Nat} {spare : Nat → Bool} {held : Bool} {r : Reach} {v : Value} {d : DataW H} {ps : List MemPlace}
    (hv : Value.okWide Try.prog w r b0 47 v) (h : DataW.Trod enc Try.prog w base spare held 47 v d ps) : ∃ a n c, v = .slice a n c ∧ ∃ xs : List Rq, Rd w a n 3 (xs.map encQ) := by
  obtain ⟨a0, n0, c0, rfl⟩ := okWide_slice Try.underlying47 hv
  obtain ⟨fuel, hf⟩ := h
  obtain ⟨ys, a, n, c, e, h1, h2⟩ := opens_slice (en := encQ) (k := 3) Try.underlying47 (by kernel_rfl) (by decide) opens_rq hf
  simp [Value.cells] at e
  obtain ⟨rfl, rfl, rfl⟩ := e
  exact ⟨_, _, _, rfl, ys, h1⟩
end Go.Proofs.Ytgldgomjlcojaaa
