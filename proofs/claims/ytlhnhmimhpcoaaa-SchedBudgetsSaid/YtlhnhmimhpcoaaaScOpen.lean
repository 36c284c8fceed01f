/- From what a row says of a run to what the walks use. No condition: plain lemmas. -/
import Derived.Test.YtlhnhmimhpcoaaaTkOpen
import Derived.Test.YtlhnhmimhpcoaaaOpenP
import Derived.Test.YtlhnhmimhpcoaaaScVal2
namespace Go.Proofs.Ytlhnhmimhpcoaaa
open Go.ChangeShapes Go.WideShapes Go.ChangeAt Go.RowKit Go.Joins Go.Deep
set_option linter.unusedSimpArgs false
set_option linter.unusedVariables false
set_option maxRecDepth 100000 in
theorem opensB_row : OpensB Try.prog 27 (fun w cs (v : EvV) => cs = encV v ∧ (Rd w v.a v.n 2 (v.es.map enc2) ∧ v.n ≤ 281474976710656)) := by
  intro H enc w base spare held fuel cs x h hw
  obtain ⟨ys, a, n, c, e, h1, _, _, h4⟩ := opensB_slice (en := enc2) (k := 2) (ok := fun _ _ => True) Try.underlying27 (by kernel_rfl) (by decide) opensB_pair h hw
  have hb : Try.prog.bytesOf 44 = 16 := by kernel_rfl
  rw [hb] at h4
  refine ⟨⟨a, n, c, ys⟩, e, h1, ?_⟩
  simp only [reachBytes] at h4 ⊢
  omega
set_option maxRecDepth 100000 in
theorem opensB_sup : OpensB Try.prog 24 (fun _ cs (y : P2) => cs = enc2 y) := by
  intro H enc w base spare held fuel cs x h _
  obtain ⟨xs, n, _, hx, hl, hxl, hf⟩ := DataW.trod_struct Try.underlying24 h
  have hc : Try.prog.cellsOf 24 = 2 := by kernel_rfl
  have hc1 : Try.prog.cellsOf 3 = 1 := by kernel_rfl
  rw [hc] at hl
  match cs, hl, xs, hxl with
  | [u0, u1], _, [x0, x1], _ =>
    have g0 := hf 0 _ rfl
    have g1 := hf 1 _ rfl
    simp [hc1] at g0 g1
    obtain ⟨p, e0, _⟩ := DataW.trod_int Try.underlying3 g0
    obtain ⟨l, e1, _⟩ := DataW.trod_int Try.underlying3 g1
    simp at e0 e1
    subst e0; subst e1
    exact ⟨(p, l), rfl⟩
/-- how long the parts of a run can be -/
structure RunS (H : RunH) (R : Rn) : Prop where
  t : H.tN ≤ 281474976710656
  e : H.eN ≤ 281474976710656
  b : H.bN ≤ 281474976710656
  s : H.sN ≤ 281474976710656
  p : ∀ t ∈ R.L, t.pcs.length ≤ 281474976710656
  v : ∀ l ∈ R.ev, l.length ≤ 281474976710656
  tn : NilOk H.tA H.tN H.tC
def runC (H : RunH) (fr sl_ : Int) : List Value := [.slice H.tA H.tN H.tC, .int .i64 fr, .int .i64 sl_, .slice H.eA H.eN H.eC, .slice H.bA H.bN H.bC, .slice H.sA H.sN H.sC]
set_option maxRecDepth 100000 in
theorem opensB_run : OpensB Try.prog 29 (fun w cs (y : RunH × Rn) => cs = runC y.1 y.2.fr y.2.sl ∧ (ReadRun w y.1 y.2 ∧ RunS y.1 y.2)) := by
  intro H enc w base spare held fuel cs x h hw
  obtain ⟨xs, n, _, hx, hl, hxl, hf⟩ := DataW.trod_struct Try.underlying29 h
  have hc : Try.prog.cellsOf 29 = 6 := by kernel_rfl
  have hc1 : Try.prog.cellsOf 22 = 1 := by kernel_rfl
  have hc2 : Try.prog.cellsOf 24 = 2 := by kernel_rfl
  have hc3 : Try.prog.cellsOf 25 = 1 := by kernel_rfl
  have hc4 : Try.prog.cellsOf 26 = 1 := by kernel_rfl
  have hc5 : Try.prog.cellsOf 27 = 1 := by kernel_rfl
  have b1 : Try.prog.bytesOf 50 = 64 := by kernel_rfl
  have b3 : Try.prog.bytesOf 27 = 24 := by kernel_rfl
  have b4 : Try.prog.bytesOf 3 = 8 := by kernel_rfl
  have b5 : Try.prog.bytesOf 44 = 16 := by kernel_rfl
  rw [hc] at hl
  rw [hx] at hw
  simp only [DataW.weights, Try.underlying29] at hw
  match cs, hl, xs, hxl with
  | [u0, u1, u2, u3, u4, u5], _, [x0, x1, x2, x3, x4], _ =>
    have g0 := hf 0 _ rfl
    have g1 := hf 1 _ rfl
    have g2 := hf 2 _ rfl
    have g3 := hf 3 _ rfl
    have g4 := hf 4 _ rfl
    simp [hc1, hc2, hc3, hc4, hc5] at g0 g1 g2 g3 g4
    obtain ⟨ts, tA, tN, tC, q0, r0, k0, m0, z0⟩ := opensB_slice (en := encTa) (k := 6) (ok := fun w t => t.ok w ∧ t.n ≤ 281474976710656) Try.underlying22 (by kernel_rfl) (by decide) opensB_task g0 (fun q hq => hw q (by simp [DataW.weightsEach]; exact .inl hq))
    obtain ⟨y, q1⟩ := opensB_sup g1 (fun q hq => hw q (by simp [DataW.weightsEach]; exact .inr (.inl hq)))
    obtain ⟨vs, eA, eN, eC, q2, r2, k2, m2, z2⟩ := opensB_slice (en := encV) (k := 1) (ok := fun w v => Rd w v.a v.n 2 (v.es.map enc2) ∧ v.n ≤ 281474976710656) Try.underlying25 (by kernel_rfl) (by decide) opensB_row g2 (fun q hq => hw q (by simp [DataW.weightsEach]; exact .inr (.inr (.inl hq))))
    obtain ⟨bs, bA, bN, bC, q3, r3, _, m3, z3⟩ := opensB_slice (en := enc1) (k := 1) (ok := fun _ _ => True) Try.underlying26 (by kernel_rfl) (by decide) (opensB_int Try.underlying3) g3 (fun q hq => hw q (by simp [DataW.weightsEach]; exact .inr (.inr (.inr (.inl hq)))))
    obtain ⟨ss, sA, sN, sC, q4, r4, _, m4, z4⟩ := opensB_slice (en := enc2) (k := 2) (ok := fun _ _ => True) Try.underlying27 (by kernel_rfl) (by decide) opensB_pair g4 (fun q hq => hw q (by simp [DataW.weightsEach]; exact .inr (.inr (.inr (.inr hq)))))
    simp only [List.cons.injEq, and_true] at q0 q2 q3 q4
    have q1' : u1 = .int .i64 y.1 ∧ u2 = .int .i64 y.2 := by simpa [enc2] using q1
    clear q1
    obtain ⟨q1, q5⟩ := q1'
    subst q0; subst q1; subst q2; subst q3; subst q4; subst q5
    rw [b1] at z0
    rw [b3] at z2
    rw [b4] at z3
    rw [b5] at z4
    simp only [reachBytes] at z0 z2 z3 z4
    refine ⟨(⟨tA, tN, tC, eA, eN, eC, bA, bN, bC, sA, sN, sC⟩, ⟨ts.map TaV.ta, y.1, y.2, vs.map EvV.es, bs, ss⟩), rfl, ⟨RdT.rdL ⟨r0, fun t ht => (k0 t ht).1⟩, ⟨vs, r2, fun v hv => (k2 v hv).1, rfl⟩, r3, r4⟩, ⟨by simp only []; omega, by simp only []; omega, by simp only []; omega, by simp only []; omega, fun t ht => ?_, fun l hl => ?_, m0⟩⟩
    · obtain ⟨u, hu, rfl⟩ := List.mem_map.1 ht
      have h5 := (k0 u hu).1.1.length
      have h6 := (k0 u hu).2
      have e : (TaV.ta u).pcs.length = u.pcs.length := rfl
      omega
    · obtain ⟨u, hu, rfl⟩ := List.mem_map.1 hl
      have h5 := (k2 u hu).1.length
      have h6 := (k2 u hu).2
      omega
set_option maxRecDepth 100000 in
theorem open_run {H : Type} {enc : TypeId × Value → H} {w : World} {base b0 : Nat} {spare : Nat → Bool} {held : Bool} {r : Reach} {v : Value} {d : DataW H} {ps : List MemPlace}
    (hv : Value.okWide Try.prog w r b0 29 v) (h : DataW.Trod enc Try.prog w base spare held 29 v d ps) (hw : ∀ n ∈ d.weights Try.prog 29, n ≤ reachBytes) :
    ∃ (K : RunH) (R : Rn), v = runV K R.fr R.sl ∧ ReadRun w K R ∧ RunS K R := by
  simp only [Value.okWide, Try.underlying29] at hv
  obtain ⟨cs, rfl, _, _⟩ := hv
  obtain ⟨fuel, hf⟩ := h
  obtain ⟨⟨K, R⟩, e, h1, h2⟩ := opensB_run hf hw
  obtain ⟨l⟩ := cs
  simp only [Value.cells] at e
  refine ⟨K, R, ?_, h1, h2⟩
  rw [show l = runC K R.fr R.sl from e]
  rfl
end Go.Proofs.Ytlhnhmimhpcoaaa
