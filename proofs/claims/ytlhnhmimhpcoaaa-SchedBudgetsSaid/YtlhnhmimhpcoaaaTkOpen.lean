/- From what a row says of tasks to what the walks use. No condition: plain lemmas. -/
import Derived.Test.YtlhnhmimhpcoaaaOpenB
import Derived.Test.YtlhnhmimhpcoaaaTkMem
import Derived.Test.YtlhnhmimhpcoaaaOpen
namespace Go.Proofs.Ytlhnhmimhpcoaaa
open Go.ChangeShapes Go.WideShapes Go.ChangeAt Go.RowKit Go.Joins Go.Deep
set_option linter.unusedSimpArgs false
set_option linter.unusedVariables false
set_option maxRecDepth 100000 in
theorem opensB_piece : OpensB Try.prog 52 (fun _ cs (y : P2) => cs = enc2 y ∧ True) := by
  intro H enc w base spare held fuel cs x h _
  obtain ⟨xs, n, _, hx, hl, hxl, hf⟩ := DataW.trod_struct Try.underlying52 h
  have hc : Try.prog.cellsOf 52 = 2 := by kernel_rfl
  have hc1 : Try.prog.cellsOf 3 = 1 := by kernel_rfl
  rw [hc] at hl
  match cs, hl, xs, hxl with
  | [u0, u1], _, [x0, x1], _ =>
    have g0 := hf 0 _ rfl
    have g1 := hf 1 _ rfl
    simp [hc1] at g0 g1
    obtain ⟨p, e0, _⟩ := DataW.trod_int Try.underlying3 g0
    obtain ⟨l, e1, _⟩ := DataW.trod_int Try.underlying3 g1
    simp at e0 e1
    subst e0; subst e1
    exact ⟨(p, l), rfl, trivial⟩
set_option maxRecDepth 100000 in
theorem opensB_pat : OpensB Try.prog 47 (fun _ cs (y : Int × Int × Int) => cs = [.int .i64 y.1, .int .i64 y.2.1, .int .i64 y.2.2]) := by
  intro H enc w base spare held fuel cs x h _
  obtain ⟨xs, n, _, hx, hl, hxl, hf⟩ := DataW.trod_struct Try.underlying47 h
  have hc : Try.prog.cellsOf 47 = 3 := by kernel_rfl
  have hc1 : Try.prog.cellsOf 3 = 1 := by kernel_rfl
  rw [hc] at hl
  match cs, hl, xs, hxl with
  | [u0, u1, u2], _, [x0, x1, x2], _ =>
    have g0 := hf 0 _ rfl
    have g1 := hf 1 _ rfl
    have g2 := hf 2 _ rfl
    simp [hc1] at g0 g1 g2
    obtain ⟨p, e0, _⟩ := DataW.trod_int Try.underlying3 g0
    obtain ⟨l, e1, _⟩ := DataW.trod_int Try.underlying3 g1
    obtain ⟨m, e2, _⟩ := DataW.trod_int Try.underlying3 g2
    simp at e0 e1 e2
    subst e0; subst e1; subst e2
    exact ⟨(p, l, m), rfl⟩
set_option maxRecDepth 100000 in
theorem opensB_task : OpensB Try.prog 50 (fun w cs (t : TaV) => cs = encTa t ∧ (t.ok w ∧ t.n ≤ 281474976710656)) := by
  intro H enc w base spare held fuel cs x h hw
  obtain ⟨xs, n, _, hx, hl, hxl, hf⟩ := DataW.trod_struct Try.underlying50 h
  have hc : Try.prog.cellsOf 50 = 6 := by kernel_rfl
  have hc1 : Try.prog.cellsOf 3 = 1 := by kernel_rfl
  have hc3 : Try.prog.cellsOf 47 = 3 := by kernel_rfl
  have hc2 : Try.prog.cellsOf 48 = 1 := by kernel_rfl
  have hcp : Try.prog.cellsOf 52 = 2 := by kernel_rfl
  have hb : Try.prog.bytesOf 52 = 16 := by kernel_rfl
  rw [hc] at hl
  rw [hx] at hw
  simp only [DataW.weights, Try.underlying50] at hw
  match cs, hl, xs, hxl with
  | [u0, u1, u2, u3, u4, u5], _, [x0, x1, x2, x3], _ =>
    have g0 := hf 0 _ rfl
    have g1 := hf 1 _ rfl
    have g2 := hf 2 _ rfl
    have g3 := hf 3 _ rfl
    simp [hc1, hc2, hc3] at g0 g1 g2 g3
    obtain ⟨p, e0, _⟩ := DataW.trod_int Try.underlying3 g0
    obtain ⟨l, e1, _⟩ := DataW.trod_int Try.underlying3 g1
    obtain ⟨y, e2⟩ := opensB_pat g2 (fun q hq => hw q (by simp [DataW.weightsEach]; exact .inr (.inr (.inl hq))))
    obtain ⟨ys, a, m, c, e3, hR, _, hN, hB⟩ := opensB_slice (en := enc2) (k := 2) (ok := fun _ _ => True) Try.underlying48 hcp (by decide) opensB_piece g3 (fun q hq => hw q (by simp [DataW.weightsEach]; exact .inr (.inr (.inr hq))))
    simp at e0 e1 e2 e3
    obtain ⟨e2, e4, e5⟩ := e2
    subst e0; subst e1; subst e2; subst e3; subst e4; subst e5
    rw [hb] at hB
    refine ⟨⟨p, l, y.1, y.2.1, y.2.2, a, m, c, ys⟩, rfl, ⟨hR, hN⟩, ?_⟩
    simp only [reachBytes] at hB ⊢
    omega
set_option maxRecDepth 100000 in
theorem open_T {H : Type} {enc : TypeId × Value → H} {w : World} {base b0 : Nat} {spare : Nat → Bool} {held : Bool} {r : Reach} {v : Value} {d : DataW H} {ps : List MemPlace}
    (hv : Value.okWide Try.prog w r b0 22 v) (h : DataW.Trod enc Try.prog w base spare held 22 v d ps) (hw : ∀ n ∈ d.weights Try.prog 22, n ≤ reachBytes) :
    ∃ a n c, v = .slice a n c ∧ ∃ L : List Ta, RdL w a n L ∧ (∀ t ∈ L, t.pcs.length ≤ 281474976710656) ∧ NilOk a n c := by
  obtain ⟨a0, n0, c0, rfl⟩ := okWide_slice Try.underlying22 hv
  obtain ⟨fuel, hf⟩ := h
  obtain ⟨ys, a, n, c, e, h1, h2, h3, _⟩ := opensB_slice (en := encTa) (k := 6) (ok := fun w t => t.ok w ∧ t.n ≤ 281474976710656) Try.underlying22 (by kernel_rfl) (by decide) opensB_task hf hw
  simp [Value.cells] at e
  obtain ⟨rfl, rfl, rfl⟩ := e
  refine ⟨_, _, _, rfl, _, RdT.rdL ⟨h1, fun t ht => (h2 t ht).1⟩, fun t ht => ?_, h3⟩
  obtain ⟨u, hu, rfl⟩ := List.mem_map.1 ht
  have := (h2 u hu).1.1.length
  have := (h2 u hu).2
  have e : (TaV.ta u).pcs.length = u.pcs.length := rfl
  omega
set_option maxRecDepth 100000 in
theorem open_sup {H : Type} {enc : TypeId × Value → H} {w : World} {base b0 : Nat} {spare : Nat → Bool} {held : Bool} {r : Reach} {v : Value} {d : DataW H} {ps : List MemPlace}
    (hv : Value.okWide Try.prog w r b0 24 v) (h : DataW.Trod enc Try.prog w base spare held 24 v d ps) : ∃ a b, v = .agg #[.int .i64 a, .int .i64 b] ∧ True := by
  obtain ⟨v0, v1, y0, y1, n, rfl, _, _, k0, k1⟩ := open_agg2 Try.underlying24 (by kernel_rfl) (by kernel_rfl) hv h
  obtain ⟨a, e0, _⟩ := DataW.trod_int Try.underlying3 k0
  obtain ⟨b, e1, _⟩ := DataW.trod_int Try.underlying3 k1
  simp at e0 e1
  exact ⟨a, b, by rw [e0, e1], trivial⟩
end Go.Proofs.Ytlhnhmimhpcoaaa
