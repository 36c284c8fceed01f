/- From what a row says of tasks to what the walks use. No condition: plain lemmas. From what a row says of a list of events, its reach with it, to what the walks use. No condition: plain lemmas. From what a row says of a run to what the walks use. No condition: plain lemmas. The contract of heavy, as, entries of the law's package. The conditions: the run reads as named and its parts are not of all lengths. The contract of Valid of the reference. The conditions: the run reads as named. The contracts of as, entries; of the reference's Simulate on runs that are not valid. The conditions: the run reads as named. -/
import Derived.Test.YtmahagcghpoekaaGreatMg11
import Derived.Test.YtmahagcghpoekaaGreatMg4
namespace Go.Proofs.YtmahagcghpoekaaGreat
open Go.ChangeShapes Go.WideShapes Go.ChangeAt Go.RowKit Go.Joins Go.Deep
set_option linter.unusedSimpArgs false
set_option linter.unusedVariables false
set_option maxRecDepth 100000 in
theorem opensB_piece : OpensB Tryz.prog 55 (fun _ cs (y : P2) => cs = enc2 y ∧ True) := by
  intro H enc w base spare held fuel cs x h _
  obtain ⟨xs, n, _, hx, hl, hxl, hf⟩ := DataW.trod_struct Tryz.underlying55 h
  have hc : Tryz.prog.cellsOf 55 = 2 := by kernel_rfl
  have hc1 : Tryz.prog.cellsOf 3 = 1 := by kernel_rfl
  rw [hc] at hl
  match cs, hl, xs, hxl with
  | [u0, u1], _, [x0, x1], _ =>
    have g0 := hf 0 _ rfl
    have g1 := hf 1 _ rfl
    simp [hc1] at g0 g1
    obtain ⟨p, e0, _⟩ := DataW.trod_int Tryz.underlying3 g0
    obtain ⟨l, e1, _⟩ := DataW.trod_int Tryz.underlying3 g1
    simp at e0 e1
    subst e0; subst e1
    exact ⟨(p, l), rfl, trivial⟩
set_option maxRecDepth 100000 in
theorem opensB_pat : OpensB Tryz.prog 42 (fun _ cs (y : Int × Int × Int) => cs = [.int .i64 y.1, .int .i64 y.2.1, .int .i64 y.2.2]) := by
  intro H enc w base spare held fuel cs x h _
  obtain ⟨xs, n, _, hx, hl, hxl, hf⟩ := DataW.trod_struct Tryz.underlying42 h
  have hc : Tryz.prog.cellsOf 42 = 3 := by kernel_rfl
  have hc1 : Tryz.prog.cellsOf 3 = 1 := by kernel_rfl
  rw [hc] at hl
  match cs, hl, xs, hxl with
  | [u0, u1, u2], _, [x0, x1, x2], _ =>
    have g0 := hf 0 _ rfl
    have g1 := hf 1 _ rfl
    have g2 := hf 2 _ rfl
    simp [hc1] at g0 g1 g2
    obtain ⟨p, e0, _⟩ := DataW.trod_int Tryz.underlying3 g0
    obtain ⟨l, e1, _⟩ := DataW.trod_int Tryz.underlying3 g1
    obtain ⟨m, e2, _⟩ := DataW.trod_int Tryz.underlying3 g2
    simp at e0 e1 e2
    subst e0; subst e1; subst e2
    exact ⟨(p, l, m), rfl⟩
set_option maxRecDepth 100000 in
theorem opensB_task : OpensB Tryz.prog 45 (fun w cs (t : TaV) => cs = encTa t ∧ (t.ok w ∧ t.n ≤ 281474976710656)) := by
  intro H enc w base spare held fuel cs x h hw
  obtain ⟨xs, n, _, hx, hl, hxl, hf⟩ := DataW.trod_struct Tryz.underlying45 h
  have hc : Tryz.prog.cellsOf 45 = 6 := by kernel_rfl
  have hc1 : Tryz.prog.cellsOf 3 = 1 := by kernel_rfl
  have hc3 : Tryz.prog.cellsOf 42 = 3 := by kernel_rfl
  have hc2 : Tryz.prog.cellsOf 43 = 1 := by kernel_rfl
  have hcp : Tryz.prog.cellsOf 55 = 2 := by kernel_rfl
  have hb : Tryz.prog.bytesOf 55 = 16 := by kernel_rfl
  rw [hc] at hl
  rw [hx] at hw
  simp only [DataW.weights, Tryz.underlying45] at hw
  match cs, hl, xs, hxl with
  | [u0, u1, u2, u3, u4, u5], _, [x0, x1, x2, x3], _ =>
    have g0 := hf 0 _ rfl
    have g1 := hf 1 _ rfl
    have g2 := hf 2 _ rfl
    have g3 := hf 3 _ rfl
    simp [hc1, hc2, hc3] at g0 g1 g2 g3
    obtain ⟨p, e0, _⟩ := DataW.trod_int Tryz.underlying3 g0
    obtain ⟨l, e1, _⟩ := DataW.trod_int Tryz.underlying3 g1
    obtain ⟨y, e2⟩ := opensB_pat g2 (fun q hq => hw q (by simp [DataW.weightsEach]; exact .inr (.inr (.inl hq))))
    obtain ⟨ys, a, m, c, e3, hR, _, hN, hB⟩ := opensB_slice (en := enc2) (k := 2) (ok := fun _ _ => True) Tryz.underlying43 hcp (by decide) opensB_piece g3 (fun q hq => hw q (by simp [DataW.weightsEach]; exact .inr (.inr (.inr hq))))
    simp at e0 e1 e2 e3
    obtain ⟨e2, e4, e5⟩ := e2
    subst e0; subst e1; subst e2; subst e3; subst e4; subst e5
    rw [hb] at hB
    refine ⟨⟨p, l, y.1, y.2.1, y.2.2, a, m, c, ys⟩, rfl, ⟨hR, hN⟩, ?_⟩
    simp only [reachBytes] at hB ⊢
    omega
set_option maxRecDepth 100000 in
theorem open_T {H : Type} {enc : TypeId × Value → H} {w : World} {base b0 : Nat} {spare : Nat → Bool} {held : Bool} {r : Reach} {v : Value} {d : DataW H} {ps : List MemPlace}
    (hv : Value.okWide Tryz.prog w r b0 22 v) (h : DataW.Trod enc Tryz.prog w base spare held 22 v d ps) (hw : ∀ n ∈ d.weights Tryz.prog 22, n ≤ reachBytes) :
    ∃ a n c, v = .slice a n c ∧ ∃ L : List Ta, RdL w a n L ∧ (∀ t ∈ L, t.pcs.length ≤ 281474976710656) ∧ NilOk a n c := by
  obtain ⟨a0, n0, c0, rfl⟩ := okWide_slice Tryz.underlying22 hv
  obtain ⟨fuel, hf⟩ := h
  obtain ⟨ys, a, n, c, e, h1, h2, h3, _⟩ := opensB_slice (en := encTa) (k := 6) (ok := fun w t => t.ok w ∧ t.n ≤ 281474976710656) Tryz.underlying22 (by kernel_rfl) (by decide) opensB_task hf hw
  simp [Value.cells] at e
  obtain ⟨rfl, rfl, rfl⟩ := e
  refine ⟨_, _, _, rfl, _, RdT.rdL ⟨h1, fun t ht => (h2 t ht).1⟩, fun t ht => ?_, h3⟩
  obtain ⟨u, hu, rfl⟩ := List.mem_map.1 ht
  have := (h2 u hu).1.1.length
  have := (h2 u hu).2
  have e : (TaV.ta u).pcs.length = u.pcs.length := rfl
  omega
set_option maxRecDepth 100000 in
theorem open_sup {H : Type} {enc : TypeId × Value → H} {w : World} {base b0 : Nat} {spare : Nat → Bool} {held : Bool} {r : Reach} {v : Value} {d : DataW H} {ps : List MemPlace}
    (hv : Value.okWide Tryz.prog w r b0 24 v) (h : DataW.Trod enc Tryz.prog w base spare held 24 v d ps) : ∃ a b, v = .agg #[.int .i64 a, .int .i64 b] ∧ True := by
  obtain ⟨v0, v1, y0, y1, n, rfl, _, _, k0, k1⟩ := open_agg2 Tryz.underlying24 (by kernel_rfl) (by kernel_rfl) hv h
  obtain ⟨a, e0, _⟩ := DataW.trod_int Tryz.underlying3 k0
  obtain ⟨b, e1, _⟩ := DataW.trod_int Tryz.underlying3 k1
  simp at e0 e1
  exact ⟨a, b, by rw [e0, e1], trivial⟩
end Go.Proofs.YtmahagcghpoekaaGreat
namespace Go.Proofs.YtmahagcghpoekaaGreat
open Go.ChangeShapes Go.WideShapes Go.ChangeAt Go.RowKit Go.Joins Go.Deep
set_option linter.unusedSimpArgs false
set_option linter.unusedVariables false
theorem opensB_pair : OpensB Tryz.prog 46 (fun _ cs (y : P2) => cs = enc2 y ∧ True) := by
  intro H enc w base spare held fuel cs x h _
  obtain ⟨y, hy⟩ := opens_pair (P := Tryz.prog) (t := 46) (e := 3) Tryz.underlying46 Tryz.underlying3 (by kernel_rfl) (by kernel_rfl) h
  exact ⟨y, hy, trivial⟩
set_option maxRecDepth 100000 in
theorem open_P2z {H : Type} {enc : TypeId × Value → H} {w : World} {base b0 : Nat} {spare : Nat → Bool} {held : Bool} {r : Reach} {v : Value} {d : DataW H} {ps : List MemPlace}
    (hv : Value.okWide Tryz.prog w r b0 27 v) (h : DataW.Trod enc Tryz.prog w base spare held 27 v d ps) (hw : ∀ n ∈ d.weights Tryz.prog 27, n ≤ reachBytes) :
    ∃ a n c, v = .slice a n c ∧ ∃ xs : List P2, Rd w a n 2 (xs.map enc2) ∧ (n = 0 → (a = none ∧ c = 0) ∨ ∃ ad, a = some ad) ∧ n ≤ 281474976710656 := by
  obtain ⟨a0, n0, c0, rfl⟩ := okWide_slice Tryz.underlying27 hv
  obtain ⟨fuel, hf⟩ := h
  obtain ⟨ys, a, n, c, e, h1, h2, h3, h4⟩ := opensB_slice (en := enc2) (k := 2) (ok := fun _ _ => True) Tryz.underlying27 (by kernel_rfl) (by decide) opensB_pair hf hw
  simp [Value.cells] at e
  obtain ⟨rfl, rfl, rfl⟩ := e
  have hb : Tryz.prog.bytesOf 46 = 16 := by kernel_rfl
  rw [hb] at h4
  refine ⟨_, _, _, rfl, ys, h1, h3, ?_⟩
  simp only [reachBytes] at h4
  omega
end Go.Proofs.YtmahagcghpoekaaGreat
namespace Go.Proofs.YtmahagcghpoekaaGreat
open Go.ChangeShapes Go.WideShapes Go.ChangeAt Go.RowKit Go.Joins Go.Deep
set_option linter.unusedSimpArgs false
set_option linter.unusedVariables false
set_option maxRecDepth 100000 in
theorem opensB_row : OpensB Tryz.prog 27 (fun w cs (v : EvV) => cs = encV v ∧ (Rd w v.a v.n 2 (v.es.map enc2) ∧ v.n ≤ 281474976710656)) := by
  intro H enc w base spare held fuel cs x h hw
  obtain ⟨ys, a, n, c, e, h1, _, _, h4⟩ := opensB_slice (en := enc2) (k := 2) (ok := fun _ _ => True) Tryz.underlying27 (by kernel_rfl) (by decide) opensB_pair h hw
  have hb : Tryz.prog.bytesOf 46 = 16 := by kernel_rfl
  rw [hb] at h4
  refine ⟨⟨a, n, c, ys⟩, e, h1, ?_⟩
  simp only [reachBytes] at h4 ⊢
  omega
set_option maxRecDepth 100000 in
theorem opensB_sup : OpensB Tryz.prog 24 (fun _ cs (y : P2) => cs = enc2 y) := by
  intro H enc w base spare held fuel cs x h _
  obtain ⟨xs, n, _, hx, hl, hxl, hf⟩ := DataW.trod_struct Tryz.underlying24 h
  have hc : Tryz.prog.cellsOf 24 = 2 := by kernel_rfl
  have hc1 : Tryz.prog.cellsOf 3 = 1 := by kernel_rfl
  rw [hc] at hl
  match cs, hl, xs, hxl with
  | [u0, u1], _, [x0, x1], _ =>
    have g0 := hf 0 _ rfl
    have g1 := hf 1 _ rfl
    simp [hc1] at g0 g1
    obtain ⟨p, e0, _⟩ := DataW.trod_int Tryz.underlying3 g0
    obtain ⟨l, e1, _⟩ := DataW.trod_int Tryz.underlying3 g1
    simp at e0 e1
    subst e0; subst e1
    exact ⟨(p, l), rfl⟩
/-- how long the parts of a run can be -/
structure RunS (H : RunH) (R : Rn) : Prop where
  t : H.tN ≤ 281474976710656
  e : H.eN ≤ 281474976710656
  b : H.bN ≤ 281474976710656
  s : H.sN ≤ 281474976710656
  p : ∀ t ∈ R.L, t.pcs.length ≤ 281474976710656
  v : ∀ l ∈ R.ev, l.length ≤ 281474976710656
  tn : NilOk H.tA H.tN H.tC
def runC (H : RunH) (fr sl_ : Int) : List Value := [.slice H.tA H.tN H.tC, .int .i64 fr, .int .i64 sl_, .slice H.eA H.eN H.eC, .slice H.bA H.bN H.bC, .slice H.sA H.sN H.sC]
set_option maxRecDepth 100000 in
theorem opensB_run : OpensB Tryz.prog 29 (fun w cs (y : RunH × Rn) => cs = runC y.1 y.2.fr y.2.sl ∧ (ReadRun w y.1 y.2 ∧ RunS y.1 y.2)) := by
  intro H enc w base spare held fuel cs x h hw
  obtain ⟨xs, n, _, hx, hl, hxl, hf⟩ := DataW.trod_struct Tryz.underlying29 h
  have hc : Tryz.prog.cellsOf 29 = 6 := by kernel_rfl
  have hc1 : Tryz.prog.cellsOf 22 = 1 := by kernel_rfl
  have hc2 : Tryz.prog.cellsOf 24 = 2 := by kernel_rfl
  have hc3 : Tryz.prog.cellsOf 25 = 1 := by kernel_rfl
  have hc4 : Tryz.prog.cellsOf 26 = 1 := by kernel_rfl
  have hc5 : Tryz.prog.cellsOf 27 = 1 := by kernel_rfl
  have b1 : Tryz.prog.bytesOf 45 = 64 := by kernel_rfl
  have b3 : Tryz.prog.bytesOf 27 = 24 := by kernel_rfl
  have b4 : Tryz.prog.bytesOf 3 = 8 := by kernel_rfl
  have b5 : Tryz.prog.bytesOf 46 = 16 := by kernel_rfl
  rw [hc] at hl
  rw [hx] at hw
  simp only [DataW.weights, Tryz.underlying29] at hw
  match cs, hl, xs, hxl with
  | [u0, u1, u2, u3, u4, u5], _, [x0, x1, x2, x3, x4], _ =>
    have g0 := hf 0 _ rfl
    have g1 := hf 1 _ rfl
    have g2 := hf 2 _ rfl
    have g3 := hf 3 _ rfl
    have g4 := hf 4 _ rfl
    simp [hc1, hc2, hc3, hc4, hc5] at g0 g1 g2 g3 g4
    obtain ⟨ts, tA, tN, tC, q0, r0, k0, m0, z0⟩ := opensB_slice (en := encTa) (k := 6) (ok := fun w t => t.ok w ∧ t.n ≤ 281474976710656) Tryz.underlying22 (by kernel_rfl) (by decide) opensB_task g0 (fun q hq => hw q (by simp [DataW.weightsEach]; exact .inl hq))
    obtain ⟨y, q1⟩ := opensB_sup g1 (fun q hq => hw q (by simp [DataW.weightsEach]; exact .inr (.inl hq)))
    obtain ⟨vs, eA, eN, eC, q2, r2, k2, m2, z2⟩ := opensB_slice (en := encV) (k := 1) (ok := fun w v => Rd w v.a v.n 2 (v.es.map enc2) ∧ v.n ≤ 281474976710656) Tryz.underlying25 (by kernel_rfl) (by decide) opensB_row g2 (fun q hq => hw q (by simp [DataW.weightsEach]; exact .inr (.inr (.inl hq))))
    obtain ⟨bs, bA, bN, bC, q3, r3, _, m3, z3⟩ := opensB_slice (en := enc1) (k := 1) (ok := fun _ _ => True) Tryz.underlying26 (by kernel_rfl) (by decide) (opensB_int Tryz.underlying3) g3 (fun q hq => hw q (by simp [DataW.weightsEach]; exact .inr (.inr (.inr (.inl hq)))))
    obtain ⟨ss, sA, sN, sC, q4, r4, _, m4, z4⟩ := opensB_slice (en := enc2) (k := 2) (ok := fun _ _ => True) Tryz.underlying27 (by kernel_rfl) (by decide) opensB_pair g4 (fun q hq => hw q (by simp [DataW.weightsEach]; exact .inr (.inr (.inr (.inr hq)))))
    simp only [List.cons.injEq, and_true] at q0 q2 q3 q4
    have q1' : u1 = .int .i64 y.1 ∧ u2 = .int .i64 y.2 := by simpa [enc2] using q1
    clear q1
    obtain ⟨q1, q5⟩ := q1'
    subst q0; subst q1; subst q2; subst q3; subst q4; subst q5
    rw [b1] at z0
    rw [b3] at z2
    rw [b4] at z3
    rw [b5] at z4
    simp only [reachBytes] at z0 z2 z3 z4
    refine ⟨(⟨tA, tN, tC, eA, eN, eC, bA, bN, bC, sA, sN, sC⟩, ⟨ts.map TaV.ta, y.1, y.2, vs.map EvV.es, bs, ss⟩), rfl, ⟨RdT.rdL ⟨r0, fun t ht => (k0 t ht).1⟩, ⟨vs, r2, fun v hv => (k2 v hv).1, rfl⟩, r3, r4⟩, ⟨by simp only []; omega, by simp only []; omega, by simp only []; omega, by simp only []; omega, fun t ht => ?_, fun l hl => ?_, m0⟩⟩
    · obtain ⟨u, hu, rfl⟩ := List.mem_map.1 ht
      have h5 := (k0 u hu).1.1.length
      have h6 := (k0 u hu).2
      have e : (TaV.ta u).pcs.length = u.pcs.length := rfl
      omega
    · obtain ⟨u, hu, rfl⟩ := List.mem_map.1 hl
      have h5 := (k2 u hu).1.length
      have h6 := (k2 u hu).2
      omega
set_option maxRecDepth 100000 in
theorem open_run {H : Type} {enc : TypeId × Value → H} {w : World} {base b0 : Nat} {spare : Nat → Bool} {held : Bool} {r : Reach} {v : Value} {d : DataW H} {ps : List MemPlace}
    (hv : Value.okWide Tryz.prog w r b0 29 v) (h : DataW.Trod enc Tryz.prog w base spare held 29 v d ps) (hw : ∀ n ∈ d.weights Tryz.prog 29, n ≤ reachBytes) :
    ∃ (K : RunH) (R : Rn), v = runV K R.fr R.sl ∧ ReadRun w K R ∧ RunS K R := by
  simp only [Value.okWide, Tryz.underlying29] at hv
  obtain ⟨cs, rfl, _, _⟩ := hv
  obtain ⟨fuel, hf⟩ := h
  obtain ⟨⟨K, R⟩, e, h1, h2⟩ := opensB_run hf hw
  obtain ⟨l⟩ := cs
  simp only [Value.cells] at e
  refine ⟨K, R, ?_, h1, h2⟩
  rw [show l = runC K R.fr R.sl from e]
  rfl
end Go.Proofs.YtmahagcghpoekaaGreat
namespace Go.Proofs.YtmahagcghpoekaaGreat
open Go.RowKit
set_option linter.unusedSimpArgs false
set_option linter.unusedVariables false
set_option maxRecDepth 100000 in
set_option maxHeartbeats 4000000 in
theorem heavy_any (H : RunH) (R : Rn) (w : World) (hR : ReadRun w H R) (hS : RunS H R) : Calls Tryz.prog 5 #[runV H R.fr R.sl] w fun e w' => e = .returned (.bool (heavyB R)) ∧ Below w.heap.size w w' := by
  have h1 := hR.t.length
  have h2 := hR.e.evs.len
  have h3 := hR.b.length
  have h4 := hR.s.length
  have t1 := hS.t; have t2 := hS.e; have t3 := hS.b; have t4 := hS.s
  have HE := Lib.hid hR.e.evs; have HT := Lib.hid hR.t
  have HSE := Lib.hid hS.v; have HSP := Lib.hid hS.p
  obtain ⟨B, hB⟩ : ∃ B, heavyB R = B := ⟨_, rfl⟩
  rw [hB]
  unfold heavyB at hB
  have ha : hvA R = H.tN + H.eN + H.bN + H.sN := by unfold hvA; rw [h1, h2, h3, h4]
  rw [ha] at hB
  have HL1 := Lib.hid h1; have HL2 := Lib.hid h2
  obtain ⟨fr, hfr⟩ : ∃ x, R.fr = x := ⟨_, rfl⟩
  obtain ⟨sl_, hsl⟩ : ∃ x, R.sl = x := ⟨_, rfl⟩
  rw [hfr, hsl]
  obtain ⟨tA, tN, tC, eA, eN, eC, bA, bN, bC, sA, sN, sC⟩ := H
  unfold runV
  simp only [] at hB t1 t2 t3 t4 HE HT HL1 HL2 ⊢
  have w1 : IntKind.i64.wrap ((tN : Int) + (eN : Int)) = (tN : Int) + (eN : Int) := IntWalk.i64_in _ (by omega)
  have w2 : IntKind.i64.wrap ((tN : Int) + (eN : Int) + (bN : Int)) = (tN : Int) + (eN : Int) + (bN : Int) := IntWalk.i64_in _ (by omega)
  have w3 : IntKind.i64.wrap ((tN : Int) + (eN : Int) + (bN : Int) + (sN : Int)) = (tN : Int) + (eN : Int) + (bN : Int) + (sN : Int) := IntWalk.i64_in _ (by omega)
  clear hR hS h1 h2 h3 h4 hfr hsl ha
  by_cases q : 300 < tN + eN + bN + sN
  · have q' : (300 : Int) < (tN : Int) + (eN : Int) + (bN : Int) + (sN : Int) := by omega
    obtain rfl : B = true := by simpa [q] using hB.symm
    clear hB
    go_enter Tryz.func5, Tryz.ntmps5
    go_wp2
    go_ret
    exact ⟨rfl, by (repeat' (first | (with_reducible exact Below.refl _ _) | (with_reducible assumption) | (with_reducible refine Below.alloc ?_ ?_ _) | (with_reducible refine Below.drew ?_) | (with_reducible refine Below.draws ?_ _) | (with_reducible refine Below.setCell ?_ ?_ _) | (refine Below.then ?_ (by with_reducible assumption)) | go_size))⟩
  · have q' : ¬ (300 : Int) < (tN : Int) + (eN : Int) + (bN : Int) + (sN : Int) := by omega
    obtain ⟨A, hA⟩ : ∃ x, tN + eN + bN + sN = x := ⟨_, rfl⟩
    have hA' : (tN : Int) + (eN : Int) + (bN : Int) + (sN : Int) = (A : Int) := by omega
    rw [hA] at hB q
    have HA' := Lib.hid hA'
    rw [decide_eq_false q, Bool.false_or] at hB
    obtain ⟨n1, hn1⟩ : ∃ x, hvE R.ev A = x := ⟨_, rfl⟩
    rw [hn1] at hB
    have HN1 : Hid (hvE (R.ev.drop 0) A = n1) := Lib.hid hn1
    have HB := Lib.hid hB
    have hA3 : A ≤ 300 := by omega
    have he3 : eN ≤ 300 := by omega
    have ht3 : tN ≤ 300 := by omega
    clear hB hn1 hA hA'
    go_enter Tryz.func5, Tryz.ntmps5
    go_wp2
    rw [HA'.out]
    clear w1 w2 w3 q'
    obtain ⟨wb, hwb⟩ : ∃ x, x = w.alloc (.cells #[.slice tA tN tC, .int .i64 fr, .int .i64 sl_, .slice eA eN eC, .slice bA bN bC, .slice sA sN sC] 29) := ⟨_, rfl⟩
    have c0 : wb.cell? ⟨w.heap.size, 0, none⟩ = some (.slice tA tN tC) := by rw [hwb]; simp [go_sem]
    have c3 : wb.cell? ⟨w.heap.size, 3, none⟩ = some (.slice eA eN eC) := by rw [hwb]; simp [go_sem]
    have hbw : Below w.heap.size w wb := by rw [hwb]; (repeat' (first | (with_reducible exact Below.refl _ _) | (with_reducible assumption) | (with_reducible refine Below.alloc ?_ ?_ _) | (with_reducible refine Below.drew ?_) | (with_reducible refine Below.draws ?_ _) | (with_reducible refine Below.setCell ?_ ?_ _) | (refine Below.then ?_ (by with_reducible assumption)) | go_size))
    have HE2 := Lib.hid (HE.out.ext hbw); have HT2 := Lib.hid (HT.out.ext hbw); have HBW := Lib.hid hbw
    rw [← hwb]
    clear hwb hbw
    go_loopw [3, 4] (fun v i wr => ∃ (k x : Nat), k ≤ eN ∧ v = .int .i64 x ∧ i = .int .i64 k ∧ hvE (R.ev.drop k) x = n1 ∧ x ≤ 300 + k * 281474976710656 ∧ wb = wr) (fun _ i _ => eN - (intOf i).toNat)
    case atStart => exact ⟨0, A, Nat.zero_le _, rfl, rfl, HN1.out, by omega, rfl⟩
    case round =>
      clear HN1
      obtain ⟨k, x, hk, rfl, rfl, hN, hx, rfl⟩ := hrel
      have HN := Lib.hid hN
      by_cases hlt : k < eN
      · obtain ⟨b, off, ea, en, ec, rfl, hb, hc, hRd⟩ := HE2.out.at_ k hlt
        have hkl : k < R.ev.length := by rw [HL2.out]; exact hlt
        have hel := HSE.out _ (List.getElem_mem hkl)
        have hen : en = (R.ev[k]).length := by
          have := hRd.length
          unfold evAt at this
          rw [List.getElem?_eq_getElem hkl] at this
          exact this.symm
        rw [List.drop_eq_getElem_cons hkl, hvE, ← hen] at hN
        have HN2 := Lib.hid hN
        have hmul : k * 281474976710656 ≤ 300 * 281474976710656 := Nat.mul_le_mul_right _ (by omega)
        have wx : IntKind.i64.wrap ((x : Int) + (en : Int)) = ((x + en : Nat) : Int) := by rw [IntWalk.i64_in _ (by omega)]; omega
        have hstep : x + en ≤ 300 + (k + 1) * 281474976710656 := by rw [Nat.add_mul]; omega
        clear hN hRd hel hen hmul
        go_wp2
        go_roundw
        case rel => exact ⟨k + 1, x + en, hlt, rfl, by go_num, HN2.out, hstep, by first | rfl | trivial⟩
        case measure => simp [intOf]; omega
      · have hxe : x = n1 := by
          rw [List.drop_of_length_le (by rw [HL2.out]; omega)] at hN
          exact hN
        subst hxe
        have hx2 : x ≤ 300 + 300 * 281474976710656 := by
          have : k * 281474976710656 ≤ 300 * 281474976710656 := Nat.mul_le_mul_right _ (by omega)
          exact Nat.le_trans hx (Nat.add_le_add_left this 300)
        have HB2 : Hid (decide (1000 < hvT (R.L.drop 0) x) = B) := HB
        clear hN hx HN
        go_wp2
        go_loopw [3, 5] (fun v i wr => ∃ (k y : Nat), k ≤ tN ∧ v = .int .i64 y ∧ i = .int .i64 k ∧ decide (1000 < hvT (R.L.drop k) y) = B ∧ y ≤ 300 + 300 * 281474976710656 + k * 281474976710656 ∧ wb = wr) (fun _ i _ => tN - (intOf i).toNat)
        case atStart => exact ⟨0, x, Nat.zero_le _, rfl, rfl, HB2.out, by rw [Nat.zero_mul, Nat.add_zero]; exact hx2, rfl⟩
        case round =>
          clear HB HB2
          obtain ⟨k2, y, hk2, rfl, rfl, hN, hy, rfl⟩ := hrel
          by_cases hlt2 : k2 < tN
          · obtain ⟨t, b, off, pa, pn, pc, rfl, hb, _, _, _, _, _, c5, hp, _, hg, _⟩ := HT2.out.at_ k2 hlt2
            have hkl : k2 < R.L.length := by rw [HL1.out]; exact hlt2
            have htm := List.mem_of_getElem? hg
            have hpl := HSP.out _ htm
            have hen : pn = t.pcs.length := hp.length.symm
            have hge : R.L[k2] = t := by have := List.getElem?_eq_getElem hkl; rw [hg] at this; simpa using this.symm
            rw [List.drop_eq_getElem_cons hkl, hvT, hge, ← hen] at hN
            have HN2 := Lib.hid hN
            have hmul : k2 * 281474976710656 ≤ 300 * 281474976710656 := Nat.mul_le_mul_right _ (by omega)
            have wx : IntKind.i64.wrap ((y : Int) + (pn : Int)) = ((y + pn : Nat) : Int) := by rw [IntWalk.i64_in _ (by omega)]; omega
            have hstep : y + pn ≤ 300 + 300 * 281474976710656 + (k2 + 1) * 281474976710656 := by rw [Nat.add_mul (k2)]; omega
            clear hN hp hg hpl hen hge hmul htm
            go_wp2
            go_roundw
            case rel => exact ⟨k2 + 1, y + pn, hlt2, rfl, by go_num, HN2.out, hstep, by first | rfl | trivial⟩
            case measure => simp [intOf]; omega
          · rw [List.drop_of_length_le (by rw [HL1.out]; omega), hvT] at hN
            have hN2 : decide ((1000 : Int) < (y : Int)) = B := by rw [← hN]; simp; omega
            clear hN
            go_wp2
            go_ret
            exact ⟨rfl, HBW.out⟩
end Go.Proofs.YtmahagcghpoekaaGreat
namespace Go.Proofs.YtmahagcghpoekaaGreat
open Go.RowKit
set_option linter.unusedSimpArgs false
set_option linter.unusedVariables false
set_option maxRecDepth 100000 in
set_option maxHeartbeats 8000000 in
theorem rValid_run (H : RunH) (R : Rn) (w : World) (hR : ReadRun w H R) : Calls Tryz.prog 57 #[runV H R.fr R.sl] w fun e w' => e = .returned (.bool (runB R)) ∧ Below w.heap.size w w' := by
  have h1 := hR.t.length
  have h2 := hR.e.evs.len
  have h3 := hR.b.length
  have h4 := hR.s.length
  have s1 := hR.t.small; have s2 := hR.e.evs.sm; have s3 := hR.b.small; have s4 := hR.s.small
  obtain ⟨B, hB⟩ : ∃ B, runB R = B := ⟨_, rfl⟩
  rw [hB]
  unfold runB at hB
  rw [h1, h2, h3, h4] at hB
  obtain ⟨V1, e1⟩ : ∃ x, validL R.L = x := ⟨_, rfl⟩
  obtain ⟨V2, e2⟩ : ∃ x, supB R.fr R.sl = x := ⟨_, rfl⟩
  obtain ⟨V8, e8⟩ : ∃ x, R.sg.all (sgB H.tN) = x := ⟨_, rfl⟩
  rw [e1, e2, e8] at hB
  have E1' := Lib.hid e1; have E2' := Lib.hid e2; have E8 := Lib.hid e8
  obtain ⟨fr, hfr⟩ : ∃ x, R.fr = x := ⟨_, rfl⟩
  obtain ⟨sl_, hsl⟩ : ∃ x, R.sl = x := ⟨_, rfl⟩
  rw [hfr, hsl]
  rw [hfr, hsl] at E2'
  have HT := Lib.hid hR.t; have HE := Lib.hid hR.e.evs; have HBU := Lib.hid hR.b; have HSG := Lib.hid hR.s
  obtain ⟨tA, tN, tC, eA, eN, eC, bA, bN, bC, sA, sN, sC⟩ := H
  simp only [] at h1 h2 h3 h4 s1 s2 s3 s4 hB HT HE HBU HSG E8
  unfold runV
  simp only []
  have HH1 := Lib.hid h1; have HH2 := Lib.hid h2; have HH3 := Lib.hid h3; have HH4 := Lib.hid h4
  clear hR e1 e2 e8 hfr hsl h1 h2 h3 h4
  cases V1
  · obtain rfl : B = false := by simpa using hB.symm
    clear hB
    go_enter Tryz.func57, Tryz.ntmps57
    go_wp2_with (go_at_call 30; (with_reducible refine (rValid_is (HT.out.ext (by (repeat' (first | (with_reducible exact Below.refl _ _) | (with_reducible assumption) | (with_reducible refine Below.alloc ?_ ?_ _) | (with_reducible refine Below.drew ?_) | (with_reducible refine Below.draws ?_ _) | (with_reducible refine Below.setCell ?_ ?_ _) | (refine Below.then ?_ (by with_reducible assumption)) | go_size)))) E1'.out).mono ?_); rintro e w2 ⟨rfl, hb2⟩; have B2 : Hid (Below w.heap.size w w2) := Lib.hid (Below.trans (by (repeat' (first | (with_reducible exact Below.refl _ _) | (with_reducible assumption) | (with_reducible refine Below.alloc ?_ ?_ _) | (with_reducible refine Below.drew ?_) | (with_reducible refine Below.draws ?_ _) | (with_reducible refine Below.setCell ?_ ?_ _) | (refine Below.then ?_ (by with_reducible assumption)) | go_size))) (hb2.mono (by simp))); have z2 : w.heap.size < w2.heap.size := Nat.lt_of_lt_of_le (by simp) hb2.size; have c0 := (hb2.cell (p := ⟨w.heap.size, 0, none⟩) (by simp)).trans (by simp [go_sem]; rfl); have c1 := (hb2.cell (p := ⟨w.heap.size, 1, none⟩) (by simp)).trans (by simp [go_sem]; rfl); have c2 := (hb2.cell (p := ⟨w.heap.size, 2, none⟩) (by simp)).trans (by simp [go_sem]; rfl); have c3 := (hb2.cell (p := ⟨w.heap.size, 3, none⟩) (by simp)).trans (by simp [go_sem]; rfl); have c4 := (hb2.cell (p := ⟨w.heap.size, 4, none⟩) (by simp)).trans (by simp [go_sem]; rfl); have c5 := (hb2.cell (p := ⟨w.heap.size, 5, none⟩) (by simp)).trans (by simp [go_sem]; rfl); clear hb2)
    go_ret
    exact ⟨rfl, B2.out⟩
  · cases V2
    · obtain rfl : B = false := by simpa using hB.symm
      clear hB
      go_enter Tryz.func57, Tryz.ntmps57
      go_wp2_with (first | (go_at_call 30; (with_reducible refine (rValid_is (HT.out.ext (by (repeat' (first | (with_reducible exact Below.refl _ _) | (with_reducible assumption) | (with_reducible refine Below.alloc ?_ ?_ _) | (with_reducible refine Below.drew ?_) | (with_reducible refine Below.draws ?_ _) | (with_reducible refine Below.setCell ?_ ?_ _) | (refine Below.then ?_ (by with_reducible assumption)) | go_size)))) E1'.out).mono ?_); rintro e w2 ⟨rfl, hb2⟩; have B2 : Hid (Below w.heap.size w w2) := Lib.hid (Below.trans (by (repeat' (first | (with_reducible exact Below.refl _ _) | (with_reducible assumption) | (with_reducible refine Below.alloc ?_ ?_ _) | (with_reducible refine Below.drew ?_) | (with_reducible refine Below.draws ?_ _) | (with_reducible refine Below.setCell ?_ ?_ _) | (refine Below.then ?_ (by with_reducible assumption)) | go_size))) (hb2.mono (by simp))); have z2 : w.heap.size < w2.heap.size := Nat.lt_of_lt_of_le (by simp) hb2.size; have c0 := (hb2.cell (p := ⟨w.heap.size, 0, none⟩) (by simp)).trans (by simp [go_sem]; rfl); have c1 := (hb2.cell (p := ⟨w.heap.size, 1, none⟩) (by simp)).trans (by simp [go_sem]; rfl); have c2 := (hb2.cell (p := ⟨w.heap.size, 2, none⟩) (by simp)).trans (by simp [go_sem]; rfl); have c3 := (hb2.cell (p := ⟨w.heap.size, 3, none⟩) (by simp)).trans (by simp [go_sem]; rfl); have c4 := (hb2.cell (p := ⟨w.heap.size, 4, none⟩) (by simp)).trans (by simp [go_sem]; rfl); have c5 := (hb2.cell (p := ⟨w.heap.size, 5, none⟩) (by simp)).trans (by simp [go_sem]; rfl); clear hb2) | (go_at_call 31; (with_reducible refine (rsupV_is E2'.out).mono ?_); rintro e w3 ⟨rfl, hb3⟩; have B3 := Lib.hid (Below.then B2.out hb3); have z3 : w.heap.size < w3.heap.size := Nat.lt_of_lt_of_le z2 hb3.size; have d0 := (hb3.cell (p := ⟨w.heap.size, 0, none⟩) z2).trans c0; have d2 := (hb3.cell (p := ⟨w.heap.size, 3, none⟩) z2).trans c3; have d3 := (hb3.cell (p := ⟨w.heap.size, 4, none⟩) z2).trans c4; have d4 := (hb3.cell (p := ⟨w.heap.size, 5, none⟩) z2).trans c5; clear hb3 c0 c1 c2 c3 c4 c5))
      go_ret
      exact ⟨rfl, B3.out⟩
    · have hn5 : tN ≤ 5 := by rw [← HH1.out]; exact (valid_of E1'.out).r.len
      by_cases q3 : eN = tN
      · by_cases q4 : bN = tN
        · by_cases q5 : sN ≤ 40
          · rw [decide_eq_true q3, decide_eq_true q4, decide_eq_true q5] at hB
            have q3' : ((eN : Int) != (tN : Int)) = false := by simp; omega
            have q4' : ((bN : Int) != (tN : Int)) = false := by simp; omega
            have q5' : decide ((40 : Int) < (sN : Int)) = false := by simp; omega
            have HB0 : Hid (((R.ev.drop 0).all evB && ((R.bu.drop 0).all (fun b => inB b 0 1000) && V8)) = B) := Lib.hid (by simpa using hB)
            have Q3 := Lib.hid q3; have Q4 := Lib.hid q4
            clear hB q3 q4
            go_enter Tryz.func57, Tryz.ntmps57
            go_wp2_with (first | (go_at_call 30; (with_reducible refine (rValid_is (HT.out.ext (by (repeat' (first | (with_reducible exact Below.refl _ _) | (with_reducible assumption) | (with_reducible refine Below.alloc ?_ ?_ _) | (with_reducible refine Below.drew ?_) | (with_reducible refine Below.draws ?_ _) | (with_reducible refine Below.setCell ?_ ?_ _) | (refine Below.then ?_ (by with_reducible assumption)) | go_size)))) E1'.out).mono ?_); rintro e w2 ⟨rfl, hb2⟩; have B2 : Hid (Below w.heap.size w w2) := Lib.hid (Below.trans (by (repeat' (first | (with_reducible exact Below.refl _ _) | (with_reducible assumption) | (with_reducible refine Below.alloc ?_ ?_ _) | (with_reducible refine Below.drew ?_) | (with_reducible refine Below.draws ?_ _) | (with_reducible refine Below.setCell ?_ ?_ _) | (refine Below.then ?_ (by with_reducible assumption)) | go_size))) (hb2.mono (by simp))); have z2 : w.heap.size < w2.heap.size := Nat.lt_of_lt_of_le (by simp) hb2.size; have c0 := (hb2.cell (p := ⟨w.heap.size, 0, none⟩) (by simp)).trans (by simp [go_sem]; rfl); have c1 := (hb2.cell (p := ⟨w.heap.size, 1, none⟩) (by simp)).trans (by simp [go_sem]; rfl); have c2 := (hb2.cell (p := ⟨w.heap.size, 2, none⟩) (by simp)).trans (by simp [go_sem]; rfl); have c3 := (hb2.cell (p := ⟨w.heap.size, 3, none⟩) (by simp)).trans (by simp [go_sem]; rfl); have c4 := (hb2.cell (p := ⟨w.heap.size, 4, none⟩) (by simp)).trans (by simp [go_sem]; rfl); have c5 := (hb2.cell (p := ⟨w.heap.size, 5, none⟩) (by simp)).trans (by simp [go_sem]; rfl); clear hb2) | (go_at_call 31; (with_reducible refine (rsupV_is E2'.out).mono ?_); rintro e w3 ⟨rfl, hb3⟩; have B3 := Lib.hid (Below.then B2.out hb3); have z3 : w.heap.size < w3.heap.size := Nat.lt_of_lt_of_le z2 hb3.size; have d0 := (hb3.cell (p := ⟨w.heap.size, 0, none⟩) z2).trans c0; have d2 := (hb3.cell (p := ⟨w.heap.size, 3, none⟩) z2).trans c3; have d3 := (hb3.cell (p := ⟨w.heap.size, 4, none⟩) z2).trans c4; have d4 := (hb3.cell (p := ⟨w.heap.size, 5, none⟩) z2).trans c5; clear hb3 c0 c1 c2 c3 c4 c5))
            have HE2 := Lib.hid (HE.out.ext B3.out); have HBU2 := Lib.hid (HBU.out.ext B3.out); have HSG2 := Lib.hid (HSG.out.ext B3.out)
            clear q3' q4' q5' B2 z2 HE HBU HSG HT
            go_loopw [3] (fun i wr => ∃ k : Nat, k ≤ eN ∧ i = .int .i64 k ∧ ((R.ev.drop k).all evB && ((R.bu.drop k).all (fun b => inB b 0 1000) && V8)) = B ∧ Below w3.heap.size w3 wr) (fun i _ => eN - (intOf i).toNat)
            case atStart => exact ⟨0, Nat.zero_le _, rfl, HB0.out, Below.refl _ _⟩
            case round =>
              clear HB0
              obtain ⟨k, hk, rfl, hX, hB⟩ := hrel
              have HB := Lib.hid hB
              have f0 := (hB.cell (p := ⟨w.heap.size, 0, none⟩) z3).trans d0
              have f2 := (hB.cell (p := ⟨w.heap.size, 3, none⟩) z3).trans d2
              have f3 := (hB.cell (p := ⟨w.heap.size, 4, none⟩) z3).trans d3
              have f4 := (hB.cell (p := ⟨w.heap.size, 5, none⟩) z3).trans d4
              by_cases hlt : k < eN
              · obtain ⟨b, off, ea, en, ec, rfl, hb, hc, hRd⟩ := HE2.out.at_ k hlt
                have hkl : k < R.ev.length := by rw [HH2.out]; exact hlt
                have hbl : k < R.bu.length := by rw [HH3.out]; have := Q3.out; have := Q4.out; omega
                obtain ⟨es, hes⟩ : ∃ x, R.ev[k] = x := ⟨_, rfl⟩
                have hev : evAt R.ev k = es := by unfold evAt; rw [List.getElem?_eq_getElem hkl]; exact hes
                rw [hev] at hRd
                have HRD := Lib.hid (hRd.ext hB)
                have hen : en = es.length := hRd.length.symm
                obtain ⟨x, b2, off2, rfl, hb2, hc2, hx⟩ := HBU2.out.idx k (by rw [← HBU2.out.length]; exact hbl)
                have hbx : R.bu[k] = x := by have := List.getElem?_eq_getElem hbl; rw [hx] at this; simpa using this.symm
                rw [List.drop_eq_getElem_cons hkl, List.drop_eq_getElem_cons hbl, List.all_cons, List.all_cons, hes, hbx] at hX
                have hcw := (hB.cell (p := ⟨b, off + k, none⟩) hb).trans hc
                have hcw2 := (hB.cell (p := ⟨b2, off2 + k, none⟩) hb2).trans hc2
                have hens := hRd.small
                have hkb : k < bN := by rw [← HH3.out]; exact hbl
                by_cases q6 : 40 < en
                · obtain rfl : B = false := by
                    have : evB es = false := by unfold evB; rw [decide_eq_false (by omega), Bool.and_false]
                    rw [this] at hX; simpa using hX.symm
                  have q6' : (40 : Int) < (en : Int) := by omega
                  clear hX hRd hes hev hbx hx hc hc2 hen hB
                  go_wp2
                  go_ret
                  exact ⟨rfl, Below.then B3.out HB.out⟩
                · have q6' : ¬ (40 : Int) < (en : Int) := by omega
                  cases hbi : inB x 0 1000
                  · obtain rfl : B = false := by rw [hbi] at hX; simpa using hX.symm
                    have HBI := Lib.hid hbi
                    clear hX hRd hes hev hbx hx hc hc2 hen hB hbi
                    go_wp2_with (go_at_call 81; (with_reducible refine (cin_is HBI.out).mono ?_); rintro e w4 ⟨rfl, rfl⟩)
                    go_ret
                    exact ⟨rfl, Below.then B3.out HB.out⟩
                  · have HBI := Lib.hid hbi
                    obtain ⟨X, hXX⟩ : ∃ X, ((R.ev.drop (k + 1)).all evB && ((R.bu.drop (k + 1)).all (fun b => inB b 0 1000) && V8)) = X := ⟨_, rfl⟩
                    have HXX := Lib.hid hXX
                    have HX0 : Hid ((okFrom (prvE es 0) (es.drop 0) && X) = B) := Lib.hid (by
                      rw [hbi, show evB es = okFrom none es by unfold evB; rw [decide_eq_true (by omega), Bool.and_true]] at hX
                      rw [← hX, ← hXX, List.drop_zero]
                      simp only [prvE, Bool.true_and, Bool.and_assoc])
                    have HEN := Lib.hid hen.symm
                    clear hX hRd hes hev hbx hx hc hc2 hen hB hbi hXX
                    go_wp2_with (go_at_call 81; (with_reducible refine (cin_is HBI.out).mono ?_); rintro e w4 ⟨rfl, rfl⟩)
                    go_loopw [5] (fun i wx => ∃ j : Nat, j ≤ en ∧ i = .int .i64 j ∧ (okFrom (prvE es j) (es.drop j) && X) = B ∧ Below wr.heap.size wr wx) (fun i _ => en - (intOf i).toNat)
                    case atStart => exact ⟨0, Nat.zero_le _, rfl, HX0.out, Below.refl _ _⟩
                    case round =>
                      clear HX0
                      obtain ⟨j, hj, rfl, hX, hB2⟩ := hrel
                      have HB2 := Lib.hid hB2
                      by_cases hjn : j < en
                      · obtain ⟨x1, y1, b3, off3, rfl, hb3, e0, e1, hg, _⟩ := (HRD.out.ext hB2).pc_at' j hjn
                        rw [okFrom_step hg] at hX
                        cases hx1 : inB x1 0 1000000
                        · obtain rfl : B = false := by rw [hx1] at hX; simpa using hX.symm
                          have HX := Lib.hid hx1
                          clear hX hB2 hg hx1
                          go_wp2_with (refine wp_region_later_lit (by kernel_rfl) (by kernel_rfl) ?_; (repeat (go_big_quiet_step ((go_at_call 81; exact later_same (cin_is HX.out))))); refine wpQuiet_nil ?_; intro w7 hb7)
                          go_ret
                          exact ⟨rfl, Below.then B3.out ((HB.out.trans ((Below.then HB2.out hb7).mono HB.out.size)))⟩
                        · cases hy1 : inB y1 0 1000000
                          · obtain rfl : B = false := by rw [hx1, hy1] at hX; simpa using hX.symm
                            have HX := Lib.hid hx1; have HY := Lib.hid hy1
                            clear hX hB2 hg hx1 hy1
                            go_wp2_with (refine wp_region_later_lit (by kernel_rfl) (by kernel_rfl) ?_; (repeat (go_big_quiet_step ((first | (go_at_call 81; exact later_same (cin_is HX.out)) | (go_at_call 81; exact later_same (cin_is HY.out)))))); refine wpQuiet_nil ?_; intro w7 hb7)
                            go_ret
                            exact ⟨rfl, Below.then B3.out ((HB.out.trans ((Below.then HB2.out hb7).mono HB.out.size)))⟩
                          · rw [hx1, hy1] at hX
                            have HX := Lib.hid hx1; have HY := Lib.hid hy1
                            rcases Nat.eq_zero_or_pos j with hj0 | hj0
                            · have hp : prvE es j = none := by rw [hj0]; rfl
                              rw [hp, gtP] at hX
                              have HX2 : Hid ((okFrom (prvE es (j + 1)) (es.drop (j + 1)) && X) = B) := Lib.hid (by simpa using hX)
                              have hj0' : decide ((0 : Int) < (j : Int)) = false := by simp; omega
                              have hj0'' : decide (0 < j) = false := by simp; omega
                              clear hX hB2 hg hx1 hy1 hp hj0
                              go_wp2_with (refine wp_region_later_lit (by kernel_rfl) (by kernel_rfl) ?_; (repeat (go_big_quiet_step ((first | (go_at_call 81; exact later_same (cin_is HX.out)) | (go_at_call 81; exact later_same (cin_is HY.out)))))); refine wpQuiet_nil ?_; intro w7 hb7)
                              go_roundw
                              case rel => exact ⟨j + 1, hjn, by go_num, HX2.out, Below.then HB2.out hb7⟩
                              case measure => simp [intOf]; omega
                            · obtain ⟨z, zz2, b4, off4, e', _, g0, _, hg', _⟩ := (HRD.out.ext hB2).pc_at' (j - 1) (by omega)
                              simp at e'
                              obtain ⟨rfl, rfl⟩ := e'
                              have hp : prvE es j = some z := by
                                obtain ⟨m, rfl⟩ : ∃ m, j = m + 1 := ⟨j - 1, by omega⟩
                                rw [Nat.add_sub_cancel] at hg'
                                simp [prvE, hg']
                              rw [hp, gtP] at hX
                              have hj0' : decide ((0 : Int) < (j : Int)) = true := by simp; omega
                              have hj0'' : decide (0 < j) = true := by simp; omega
                              have wk : IntKind.i64.wrap ((j : Int) - 1) = ((j - 1 : Nat) : Int) := by rw [IntWalk.i64_in _ (by omega)]; omega
                              have hj1 : j - 1 < en := by omega
                              by_cases hz : z ≤ x1
                              · have hz' : decide (x1 < z) = false := by simp; omega
                                have HX2 : Hid ((okFrom (prvE es (j + 1)) (es.drop (j + 1)) && X) = B) := Lib.hid (by simpa [hz] using hX)
                                clear hX hB2 hg hx1 hy1 hp hg' hz
                                go_wp2_with (refine wp_region_later_lit (by kernel_rfl) (by kernel_rfl) ?_; (repeat (go_big_quiet_step ((first | (go_at_call 81; exact later_same (cin_is HX.out)) | (go_at_call 81; exact later_same (cin_is HY.out)))))); refine wpQuiet_nil ?_; intro w7 hb7)
                                go_roundw
                                case rel => exact ⟨j + 1, hjn, by go_num, HX2.out, Below.then HB2.out hb7⟩
                                case measure => simp [intOf]; omega
                              · have hz' : decide (x1 < z) = true := by simp; omega
                                obtain rfl : B = false := by simpa [hz] using hX.symm
                                clear hX hB2 hg hx1 hy1 hp hg' hz
                                go_wp2_with (refine wp_region_later_lit (by kernel_rfl) (by kernel_rfl) ?_; (repeat (go_big_quiet_step ((first | (go_at_call 81; exact later_same (cin_is HX.out)) | (go_at_call 81; exact later_same (cin_is HY.out)))))); refine wpQuiet_nil ?_; intro w7 hb7)
                                go_ret
                                exact ⟨rfl, Below.then B3.out ((HB.out.trans ((Below.then HB2.out hb7).mono HB.out.size)))⟩
                      · rw [List.drop_of_length_le (by rw [HEN.out]; omega)] at hX
                        have hX2 : X = B := by simpa [okFrom] using hX
                        subst hX2
                        clear hX hB2
                        go_wp2
                        go_roundw
                        case rel => exact ⟨k + 1, hlt, by go_num, HXX.out, HB.out.trans (HB2.out.mono HB.out.size)⟩
                        case measure => simp [intOf]; omega
              · rw [List.drop_of_length_le (by rw [HH2.out]; omega), List.drop_of_length_le (by rw [HH3.out]; have := Q3.out; have := Q4.out; omega)] at hX
                have HX0 : Hid ((R.sg.drop 0).all (sgB tN) = B) := Lib.hid (by rw [List.drop_zero, E8.out]; simpa using hX)
                have HS3 := Lib.hid (HSG2.out.ext hB)
                have hwz : w.heap.size < wr.heap.size := Nat.lt_of_lt_of_le z3 hB.size
                clear hX hB
                go_wp2
                go_loopw [6] (fun i wx => ∃ j : Nat, j ≤ sN ∧ i = .int .i64 j ∧ (R.sg.drop j).all (sgB tN) = B ∧ Below wr.heap.size wr wx) (fun i _ => sN - (intOf i).toNat)
                case atStart => exact ⟨0, Nat.zero_le _, rfl, HX0.out, Below.refl _ _⟩
                case round =>
                  clear HX0
                  obtain ⟨j, hj, rfl, hX, hB2⟩ := hrel
                  have HB2 := Lib.hid hB2
                  have g0 := (hB2.cell (p := ⟨w.heap.size, 0, none⟩) hwz).trans f0
                  have g4 := (hB2.cell (p := ⟨w.heap.size, 5, none⟩) hwz).trans f4
                  have hwz2 := Nat.lt_of_lt_of_le hwz hB2.size
                  by_cases hjn : j < sN
                  · obtain ⟨x1, y1, b3, off3, rfl, hb3, e0, e1, hg, _⟩ := (HS3.out.ext hB2).pc_at' j hjn
                    obtain ⟨hjl, hge⟩ := List.getElem?_eq_some_iff.1 hg
                    rw [List.drop_eq_getElem_cons hjl, List.all_cons, hge, sgB] at hX
                    simp only [] at hX
                    have wn : IntKind.i64.wrap ((tN : Int) - 1) = (tN : Int) - 1 := IntWalk.i64_in _ (by omega)
                    cases hx1 : inB x1 0 1000000
                    · obtain rfl : B = false := by rw [hx1] at hX; simpa using hX.symm
                      have HX := Lib.hid hx1
                      clear hX hB2 hg hx1 hge
                      go_wp2_with (refine wp_region_later_lit (by kernel_rfl) (by kernel_rfl) ?_; (repeat (go_big_quiet_step ((go_at_call 81; exact later_same (cin_is HX.out))))); refine wpQuiet_nil ?_; intro w7 hb7)
                      go_ret
                      exact ⟨rfl, Below.then B3.out ((HB.out.trans ((Below.then HB2.out hb7).mono HB.out.size)))⟩
                    · cases hy1 : inB y1 0 ((tN : Int) - 1)
                      · obtain rfl : B = false := by rw [hx1, hy1] at hX; simpa using hX.symm
                        have HX := Lib.hid hx1; have HY := Lib.hid hy1
                        clear hX hB2 hg hx1 hy1 hge
                        go_wp2_with (refine wp_region_later_lit (by kernel_rfl) (by kernel_rfl) ?_; (repeat (go_big_quiet_step ((first | (go_at_call 81; exact later_same (cin_is HX.out)) | (go_at_call 81; exact later_same (cin_is HY.out)))))); refine wpQuiet_nil ?_; intro w7 hb7)
                        go_ret
                        exact ⟨rfl, Below.then B3.out ((HB.out.trans ((Below.then HB2.out hb7).mono HB.out.size)))⟩
                      · rw [hx1, hy1] at hX
                        have HX2 : Hid ((R.sg.drop (j + 1)).all (sgB tN) = B) := Lib.hid (by simpa using hX)
                        have HX := Lib.hid hx1; have HY := Lib.hid hy1
                        clear hX hB2 hg hx1 hy1 hge
                        go_wp2_with (refine wp_region_later_lit (by kernel_rfl) (by kernel_rfl) ?_; (repeat (go_big_quiet_step ((first | (go_at_call 81; exact later_same (cin_is HX.out)) | (go_at_call 81; exact later_same (cin_is HY.out)))))); refine wpQuiet_nil ?_; intro w7 hb7)
                        go_roundw
                        case rel => exact ⟨j + 1, hjn, by go_num, HX2.out, Below.then HB2.out hb7⟩
                        case measure => simp [intOf]; omega
                  · rw [List.drop_of_length_le (by rw [HH4.out]; omega)] at hX
                    obtain rfl : B = true := by simpa using hX.symm
                    clear hX hB2
                    go_wp2
                    go_ret
                    exact ⟨rfl, Below.then B3.out (HB.out.trans (HB2.out.mono HB.out.size))⟩
          · rw [decide_eq_true q3, decide_eq_true q4, decide_eq_false q5] at hB
            obtain rfl : B = false := by simpa using hB.symm
            have q3' : ((eN : Int) != (tN : Int)) = false := by simp; omega
            have q4' : ((bN : Int) != (tN : Int)) = false := by simp; omega
            have q5' : decide ((40 : Int) < (sN : Int)) = true := by simp; omega
            clear hB q3 q4
            go_enter Tryz.func57, Tryz.ntmps57
            go_wp2_with (first | (go_at_call 30; (with_reducible refine (rValid_is (HT.out.ext (by (repeat' (first | (with_reducible exact Below.refl _ _) | (with_reducible assumption) | (with_reducible refine Below.alloc ?_ ?_ _) | (with_reducible refine Below.drew ?_) | (with_reducible refine Below.draws ?_ _) | (with_reducible refine Below.setCell ?_ ?_ _) | (refine Below.then ?_ (by with_reducible assumption)) | go_size)))) E1'.out).mono ?_); rintro e w2 ⟨rfl, hb2⟩; have B2 : Hid (Below w.heap.size w w2) := Lib.hid (Below.trans (by (repeat' (first | (with_reducible exact Below.refl _ _) | (with_reducible assumption) | (with_reducible refine Below.alloc ?_ ?_ _) | (with_reducible refine Below.drew ?_) | (with_reducible refine Below.draws ?_ _) | (with_reducible refine Below.setCell ?_ ?_ _) | (refine Below.then ?_ (by with_reducible assumption)) | go_size))) (hb2.mono (by simp))); have z2 : w.heap.size < w2.heap.size := Nat.lt_of_lt_of_le (by simp) hb2.size; have c0 := (hb2.cell (p := ⟨w.heap.size, 0, none⟩) (by simp)).trans (by simp [go_sem]; rfl); have c1 := (hb2.cell (p := ⟨w.heap.size, 1, none⟩) (by simp)).trans (by simp [go_sem]; rfl); have c2 := (hb2.cell (p := ⟨w.heap.size, 2, none⟩) (by simp)).trans (by simp [go_sem]; rfl); have c3 := (hb2.cell (p := ⟨w.heap.size, 3, none⟩) (by simp)).trans (by simp [go_sem]; rfl); have c4 := (hb2.cell (p := ⟨w.heap.size, 4, none⟩) (by simp)).trans (by simp [go_sem]; rfl); have c5 := (hb2.cell (p := ⟨w.heap.size, 5, none⟩) (by simp)).trans (by simp [go_sem]; rfl); clear hb2) | (go_at_call 31; (with_reducible refine (rsupV_is E2'.out).mono ?_); rintro e w3 ⟨rfl, hb3⟩; have B3 := Lib.hid (Below.then B2.out hb3); have z3 : w.heap.size < w3.heap.size := Nat.lt_of_lt_of_le z2 hb3.size; have d0 := (hb3.cell (p := ⟨w.heap.size, 0, none⟩) z2).trans c0; have d2 := (hb3.cell (p := ⟨w.heap.size, 3, none⟩) z2).trans c3; have d3 := (hb3.cell (p := ⟨w.heap.size, 4, none⟩) z2).trans c4; have d4 := (hb3.cell (p := ⟨w.heap.size, 5, none⟩) z2).trans c5; clear hb3 c0 c1 c2 c3 c4 c5))
            go_ret
            exact ⟨rfl, B3.out⟩
        · rw [decide_eq_true q3, decide_eq_false q4] at hB
          obtain rfl : B = false := by simpa using hB.symm
          have q3' : ((eN : Int) != (tN : Int)) = false := by simp; omega
          have q4' : ((bN : Int) != (tN : Int)) = true := by simp; omega
          clear hB q3
          go_enter Tryz.func57, Tryz.ntmps57
          go_wp2_with (first | (go_at_call 30; (with_reducible refine (rValid_is (HT.out.ext (by (repeat' (first | (with_reducible exact Below.refl _ _) | (with_reducible assumption) | (with_reducible refine Below.alloc ?_ ?_ _) | (with_reducible refine Below.drew ?_) | (with_reducible refine Below.draws ?_ _) | (with_reducible refine Below.setCell ?_ ?_ _) | (refine Below.then ?_ (by with_reducible assumption)) | go_size)))) E1'.out).mono ?_); rintro e w2 ⟨rfl, hb2⟩; have B2 : Hid (Below w.heap.size w w2) := Lib.hid (Below.trans (by (repeat' (first | (with_reducible exact Below.refl _ _) | (with_reducible assumption) | (with_reducible refine Below.alloc ?_ ?_ _) | (with_reducible refine Below.drew ?_) | (with_reducible refine Below.draws ?_ _) | (with_reducible refine Below.setCell ?_ ?_ _) | (refine Below.then ?_ (by with_reducible assumption)) | go_size))) (hb2.mono (by simp))); have z2 : w.heap.size < w2.heap.size := Nat.lt_of_lt_of_le (by simp) hb2.size; have c0 := (hb2.cell (p := ⟨w.heap.size, 0, none⟩) (by simp)).trans (by simp [go_sem]; rfl); have c1 := (hb2.cell (p := ⟨w.heap.size, 1, none⟩) (by simp)).trans (by simp [go_sem]; rfl); have c2 := (hb2.cell (p := ⟨w.heap.size, 2, none⟩) (by simp)).trans (by simp [go_sem]; rfl); have c3 := (hb2.cell (p := ⟨w.heap.size, 3, none⟩) (by simp)).trans (by simp [go_sem]; rfl); have c4 := (hb2.cell (p := ⟨w.heap.size, 4, none⟩) (by simp)).trans (by simp [go_sem]; rfl); have c5 := (hb2.cell (p := ⟨w.heap.size, 5, none⟩) (by simp)).trans (by simp [go_sem]; rfl); clear hb2) | (go_at_call 31; (with_reducible refine (rsupV_is E2'.out).mono ?_); rintro e w3 ⟨rfl, hb3⟩; have B3 := Lib.hid (Below.then B2.out hb3); have z3 : w.heap.size < w3.heap.size := Nat.lt_of_lt_of_le z2 hb3.size; have d0 := (hb3.cell (p := ⟨w.heap.size, 0, none⟩) z2).trans c0; have d2 := (hb3.cell (p := ⟨w.heap.size, 3, none⟩) z2).trans c3; have d3 := (hb3.cell (p := ⟨w.heap.size, 4, none⟩) z2).trans c4; have d4 := (hb3.cell (p := ⟨w.heap.size, 5, none⟩) z2).trans c5; clear hb3 c0 c1 c2 c3 c4 c5))
          go_ret
          exact ⟨rfl, B3.out⟩
      · rw [decide_eq_false q3] at hB
        obtain rfl : B = false := by simpa using hB.symm
        have q3' : ((eN : Int) != (tN : Int)) = true := by simp; omega
        clear hB
        go_enter Tryz.func57, Tryz.ntmps57
        go_wp2_with (first | (go_at_call 30; (with_reducible refine (rValid_is (HT.out.ext (by (repeat' (first | (with_reducible exact Below.refl _ _) | (with_reducible assumption) | (with_reducible refine Below.alloc ?_ ?_ _) | (with_reducible refine Below.drew ?_) | (with_reducible refine Below.draws ?_ _) | (with_reducible refine Below.setCell ?_ ?_ _) | (refine Below.then ?_ (by with_reducible assumption)) | go_size)))) E1'.out).mono ?_); rintro e w2 ⟨rfl, hb2⟩; have B2 : Hid (Below w.heap.size w w2) := Lib.hid (Below.trans (by (repeat' (first | (with_reducible exact Below.refl _ _) | (with_reducible assumption) | (with_reducible refine Below.alloc ?_ ?_ _) | (with_reducible refine Below.drew ?_) | (with_reducible refine Below.draws ?_ _) | (with_reducible refine Below.setCell ?_ ?_ _) | (refine Below.then ?_ (by with_reducible assumption)) | go_size))) (hb2.mono (by simp))); have z2 : w.heap.size < w2.heap.size := Nat.lt_of_lt_of_le (by simp) hb2.size; have c0 := (hb2.cell (p := ⟨w.heap.size, 0, none⟩) (by simp)).trans (by simp [go_sem]; rfl); have c1 := (hb2.cell (p := ⟨w.heap.size, 1, none⟩) (by simp)).trans (by simp [go_sem]; rfl); have c2 := (hb2.cell (p := ⟨w.heap.size, 2, none⟩) (by simp)).trans (by simp [go_sem]; rfl); have c3 := (hb2.cell (p := ⟨w.heap.size, 3, none⟩) (by simp)).trans (by simp [go_sem]; rfl); have c4 := (hb2.cell (p := ⟨w.heap.size, 4, none⟩) (by simp)).trans (by simp [go_sem]; rfl); have c5 := (hb2.cell (p := ⟨w.heap.size, 5, none⟩) (by simp)).trans (by simp [go_sem]; rfl); clear hb2) | (go_at_call 31; (with_reducible refine (rsupV_is E2'.out).mono ?_); rintro e w3 ⟨rfl, hb3⟩; have B3 := Lib.hid (Below.then B2.out hb3); have z3 : w.heap.size < w3.heap.size := Nat.lt_of_lt_of_le z2 hb3.size; have d0 := (hb3.cell (p := ⟨w.heap.size, 0, none⟩) z2).trans c0; have d2 := (hb3.cell (p := ⟨w.heap.size, 3, none⟩) z2).trans c3; have d3 := (hb3.cell (p := ⟨w.heap.size, 4, none⟩) z2).trans c4; have d4 := (hb3.cell (p := ⟨w.heap.size, 5, none⟩) z2).trans c5; clear hb3 c0 c1 c2 c3 c4 c5))
        go_ret
        exact ⟨rfl, B3.out⟩
end Go.Proofs.YtmahagcghpoekaaGreat
namespace Go.Proofs.YtmahagcghpoekaaGreat
open Go.RowKit
set_option linter.unusedSimpArgs false
set_option linter.unusedVariables false
theorem Rd.en_at {w : World} {a : Option Addr} {n : Nat} {xs : List En} (h : Rd w a n 5 (xs.map encE)) (k : Nat) (hk : k < n) : ∃ (e : En) (b off : Nat), a = some ⟨b, off, none⟩ ∧ b < w.heap.size ∧ xs[k]? = some e ∧
    w.cell? ⟨b, off + k * 5, none⟩ = some (.int .i64 e.m) ∧ w.cell? ⟨b, off + k * 5 + 1, none⟩ = some (.int .i64 e.k) ∧ w.cell? ⟨b, off + k * 5 + 2, none⟩ = some (.int .i64 e.w) ∧ w.cell? ⟨b, off + k * 5 + 3, none⟩ = some (.int .i64 e.a) ∧ w.cell? ⟨b, off + k * 5 + 4, none⟩ = some (.int .i64 e.b) := by
  obtain ⟨x, b, off, rfl, hb, hc, _, hg, _⟩ := h.nextK k hk
  have h0 := hc 0 (by omega)
  have h1 := hc 1 (by omega)
  have h2 := hc 2 (by omega)
  have h3 := hc 3 (by omega)
  have h4 := hc 4 (by omega)
  exact ⟨x, b, off, rfl, hb, hg, h0, h1, h2, h3, h4⟩
end Go.Proofs.YtmahagcghpoekaaGreat
