/- From what a row says of slots and requests to what the walks use. No condition: plain lemmas. -/
import Derived.Test.YtgldgomjlcojaaaOpen
namespace Go.Proofs.Ytgldgomjlcojaaa
open Go.ChangeShapes Go.WideShapes Go.ChangeAt Go.RowKit Go.Joins Go.Deep
set_option linter.unusedSimpArgs false
set_option linter.unusedVariables false
set_option maxRecDepth 100000 in
theorem opens_slot : Opens Try.prog 27 (fun _ cs (y : P2) => cs = enc2 y) := by
  intro H enc w base spare held fuel cs x h
  obtain ⟨xs, n, _, hx, hl, hxl, hf⟩ := DataW.trod_struct Try.underlying27 h
  have hc : Try.prog.cellsOf 27 = 2 := by kernel_rfl
  have hc1 : Try.prog.cellsOf 3 = 1 := by kernel_rfl
  rw [hc] at hl
  match cs, hl, xs, hxl with
  | [u0, u1], _, [x0, x1], _ =>
    have g0 := hf 0 _ rfl
    have g1 := hf 1 _ rfl
    simp [hc1] at g0 g1
    obtain ⟨p, e0, _⟩ := DataW.trod_int Try.underlying3 g0
    obtain ⟨l, e1, _⟩ := DataW.trod_int Try.underlying3 g1
    simp at e0 e1
    subst e0; subst e1
    exact ⟨(p, l), rfl⟩
set_option maxRecDepth 100000 in
theorem open_Ss {H : Type} {enc : TypeId × Value → H} {w : World} {base b0 : Nat} {spare : Nat → Bool} {held : Bool} {r : Reach} {v : Value} {d : DataW H} {ps : List MemPlace}
    (hv : Value.okWide Try.prog w r b0 22 v) (h : DataW.Trod enc Try.prog w base spare held 22 v d ps) : ∃ a n c, v = .slice a n c ∧ ∃ xs : List P2, Rd w a n 2 (xs.map enc2) ∧ (n = 0 → (a = none ∧ c = 0) ∨ ∃ ad, a = some ad) := by
  obtain ⟨a0, n0, c0, rfl⟩ := okWide_slice Try.underlying22 hv
  obtain ⟨fuel, hf⟩ := h
  obtain ⟨ys, a, n, c, e, h1, h2⟩ := opens_slice (en := enc2) (k := 2) Try.underlying22 (by kernel_rfl) (by decide) opens_slot hf
  simp [Value.cells] at e
  obtain ⟨rfl, rfl, rfl⟩ := e
  exact ⟨_, _, _, rfl, ys, h1, h2⟩
set_option maxRecDepth 100000 in
theorem open_req {H : Type} {enc : TypeId × Value → H} {w : World} {base b0 : Nat} {spare : Nat → Bool} {held : Bool} {r : Reach} {v : Value} {d : DataW H} {ps : List MemPlace}
    (hv : Value.okWide Try.prog w r b0 35 v) (h : DataW.Trod enc Try.prog w base spare held 35 v d ps) : ∃ a b c, v = .agg #[.int .i64 a, .int .i64 b, .int .i64 c] ∧ True :=
  let ⟨a, b, c, e⟩ := open_int3 Try.underlying35 (by kernel_rfl) (by kernel_rfl) Try.underlying3 Try.underlying3 Try.underlying3 hv h
  ⟨a, b, c, e, trivial⟩
set_option maxRecDepth 100000 in
theorem open_t2 {H : Type} {enc : TypeId × Value → H} {w : World} {base b0 : Nat} {spare : Nat → Bool} {held : Bool} {r : Reach} {v : Value} {d : DataW H} {ps : List MemPlace}
    (hv : Value.okWide Try.prog w r b0 41 v) (h : DataW.Trod enc Try.prog w base spare held 41 v d ps) : ∃ a b, v = .agg #[.int .i64 a, .int .i64 b] ∧ True := by
  simp only [Value.okWide, Try.underlying41] at hv
  obtain ⟨cs, rfl, _, _⟩ := hv
  obtain ⟨fuel, hf⟩ := h
  obtain ⟨y, hy⟩ := opens_pair Try.underlying41 Try.underlying3 (by kernel_rfl) (by kernel_rfl) hf
  obtain ⟨l⟩ := cs
  simp only [Value.cells, enc2] at hy
  exact ⟨y.1, y.2, by rw [show l = [.int .i64 y.1, .int .i64 y.2] from hy], trivial⟩
end Go.Proofs.Ytgldgomjlcojaaa
