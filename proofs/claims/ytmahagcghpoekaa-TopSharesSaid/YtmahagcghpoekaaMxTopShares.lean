/- From what a row says of lists of lists of pairs to what the walks use. No condition: plain lemmas. The walk of TopShares: it returns true. The conditions: the tasks and the lists read as named. -/
import Derived.Test.YtmahagcghpoekaaMg7
import Derived.Test.YtmahagcghpoekaaMg12
import Derived.Test.YtmahagcghpoekaaMg10
import Derived.Test.YtmahagcghpoekaaMg11
import Derived.Test.YtmahagcghpoekaaMg8
namespace Go.Proofs.Ytmahagcghpoekaa
open Go.ChangeShapes Go.WideShapes Go.ChangeAt Go.RowKit Go.Joins Go.Deep
set_option linter.unusedSimpArgs false
set_option linter.unusedVariables false
set_option maxRecDepth 100000 in
theorem open_lt {H : Type} {enc : TypeId × Value → H} {w : World} {base b0 : Nat} {spare : Nat → Bool} {held : Bool} {r : Reach} {v : Value} {d : DataW H} {ps : List MemPlace}
    (hv : Value.okWide Try.prog w r b0 25 v) (h : DataW.Trod enc Try.prog w base spare held 25 v d ps) (hw : ∀ n ∈ d.weights Try.prog 25, n ≤ reachBytes) :
    ∃ a n c, v = .slice a n c ∧ ∃ late : List (List P2), EvL w a n late := by
  obtain ⟨a0, n0, c0, rfl⟩ := okWide_slice Try.underlying25 hv
  obtain ⟨fuel, hf⟩ := h
  obtain ⟨ys, a, n, c, e, h1, h2, h3, _⟩ := opensB_slice (en := encV) (k := 1) (ok := fun w v => Rd w v.a v.n 2 (v.es.map enc2) ∧ v.n ≤ 281474976710656) Try.underlying25 (by kernel_rfl) (by decide) opensB_row hf hw
  simp [Value.cells] at e
  obtain ⟨rfl, rfl, rfl⟩ := e
  exact ⟨_, _, _, rfl, ys.map EvV.es, ys, h1, fun v hv => (h2 v hv).1, rfl⟩
end Go.Proofs.Ytmahagcghpoekaa
namespace Go.Proofs.Ytmahagcghpoekaa
open Go.RowKit
set_option linter.unusedSimpArgs false
set_option linter.unusedVariables false
section
open Go.ChangeShapes Go.WideShapes Go.ChangeAt Go.RowKit Go.Joins Go.Deep
set_option maxRecDepth 100000 in
theorem open_t2 {H : Type} {enc : TypeId × Value → H} {w : World} {base b0 : Nat} {spare : Nat → Bool} {held : Bool} {r : Reach} {v : Value} {d : DataW H} {ps : List MemPlace}
    (hv : Value.okWide Try.prog w r b0 26 v) (h : DataW.Trod enc Try.prog w base spare held 26 v d ps) : ∃ a b, v = .agg #[.int .i64 a, .int .i64 b] ∧ True := by
  simp only [Value.okWide, Try.underlying26] at hv
  obtain ⟨cs, rfl, _, _⟩ := hv
  obtain ⟨fuel, hf⟩ := h
  obtain ⟨y, hy⟩ := opens_pair Try.underlying26 Try.underlying3 (by kernel_rfl) (by kernel_rfl) hf
  obtain ⟨l⟩ := cs
  simp only [Value.cells, enc2] at hy
  exact ⟨y.1, y.2, by rw [show l = [.int .i64 y.1, .int .i64 y.2] from hy], trivial⟩
end
theorem mask30 (x : Int) : ∃ y, bits .and .i64 x 1073741823 = y ∧ 0 ≤ y ∧ y ≤ 1073741823 := by
  have h2 : (BitVec.ofInt 64 (1073741823 : Int)).toNat = 1073741823 := rfl
  have h3 : (BitVec.ofInt 64 x &&& BitVec.ofInt 64 (1073741823 : Int)).toNat ≤ 1073741823 := by
    rw [BitVec.toNat_and, h2]; exact Nat.and_le_right
  have h4 : bits .and .i64 x 1073741823 = ((BitVec.ofInt 64 x &&& BitVec.ofInt 64 (1073741823 : Int)).toNat : Int) := by
    show IntKind.i64.wrap ((BitVec.ofInt 64 x &&& BitVec.ofInt 64 (1073741823 : Int)).toNat : Int) = _
    exact IntWalk.i64_in _ (by omega)
  exact ⟨_, rfl, by omega, by omega⟩
theorem mod_nat {y d : Int} (h0 : 0 ≤ y) (hd : 0 < d) : ∃ k : Nat, y % d = (k : Int) ∧ (k : Int) < d := by
  obtain ⟨k, hk⟩ := Int.eq_ofNat_of_zero_le (Int.emod_nonneg y (show d ≠ 0 by omega))
  exact ⟨k, hk, by have := Int.emod_lt_of_pos y hd; omega⟩
/-- a run laid in a box -/
structure RBox (w : World) (q : Nat) (H : RunH) (F S : Int) : Prop where
  c0 : w.cell? ⟨q, 0, none⟩ = some (.slice H.tA H.tN H.tC)
  c1 : w.cell? ⟨q, 1, none⟩ = some (.int .i64 F)
  c2 : w.cell? ⟨q, 2, none⟩ = some (.int .i64 S)
  c3 : w.cell? ⟨q, 3, none⟩ = some (.slice H.eA H.eN H.eC)
  c4 : w.cell? ⟨q, 4, none⟩ = some (.slice H.bA H.bN H.bC)
  c5 : w.cell? ⟨q, 5, none⟩ = some (.slice H.sA H.sN H.sC)
  z : q < w.heap.size
theorem RBox.ext {w w' : World} {q : Nat} {H : RunH} {F S : Int} (h : RBox w q H F S) (hb : Below w.heap.size w w') : RBox w' q H F S :=
  ⟨(hb.cell (p := ⟨q, 0, none⟩) h.z).trans h.c0, (hb.cell (p := ⟨q, 1, none⟩) h.z).trans h.c1, (hb.cell (p := ⟨q, 2, none⟩) h.z).trans h.c2, (hb.cell (p := ⟨q, 3, none⟩) h.z).trans h.c3, (hb.cell (p := ⟨q, 4, none⟩) h.z).trans h.c4, (hb.cell (p := ⟨q, 5, none⟩) h.z).trans h.c5, Nat.lt_of_lt_of_le h.z hb.size⟩
/-- the four cells of the supply and of the window -/
structure SwBox (w : World) (q : Nat) (F S v0 v1 : Int) : Prop where
  c0 : w.cell? ⟨q, 0, none⟩ = some (.int .i64 F)
  c1 : w.cell? ⟨q, 1, none⟩ = some (.int .i64 S)
  d0 : w.cell? ⟨q + 1, 0, none⟩ = some (.int .i64 v0)
  d1 : w.cell? ⟨q + 1, 1, none⟩ = some (.int .i64 v1)
  z : q + 1 < w.heap.size
  z0 : q < w.heap.size
theorem SwBox.ext {w w' : World} {q : Nat} {F S v0 v1 : Int} (h : SwBox w q F S v0 v1) (hb : Below w.heap.size w w') : SwBox w' q F S v0 v1 :=
  ⟨(hb.cell (p := ⟨q, 0, none⟩) (show q < _ by have := h.z; omega)).trans h.c0, (hb.cell (p := ⟨q, 1, none⟩) (show q < _ by have := h.z; omega)).trans h.c1, (hb.cell (p := ⟨q + 1, 0, none⟩) h.z).trans h.d0, (hb.cell (p := ⟨q + 1, 1, none⟩) h.z).trans h.d1, Nat.lt_of_lt_of_le h.z hb.size, Nat.lt_of_lt_of_le h.z0 hb.size⟩
theorem z201 : Try.zeroCells41 = Array.replicate 201 (.int .i64 0) := by kernel_rfl
theorem z201_at {j : Nat} (h : j < 201) : Try.zeroCells41[j]? = some (.int .i64 0) := by rw [z201]; simp [h]
theorem cnt_take_le (p : En → Bool) (o : List En) (k : Nat) : cntE p (o.take k) ≤ cntE p o := by
  have h1 := cntE_app p (o.take k) (o.drop k)
  rw [List.take_append_drop] at h1
  have := (cntE_bd p (o.drop k)).1
  omega
theorem gcIn3 {a b m k x y : Int} : gcIn a b ⟨m, k, 3, x, y⟩ = true ↔ a ≤ m ∧ m < b := by unfold gcIn; simp
theorem bus_at {m k w a b : Int} : busyAt m ⟨m, k, w, a, b⟩ = isBusy ⟨m, k, w, a, b⟩ := by unfold busyAt; simp
set_option maxRecDepth 100000 in
set_option maxHeartbeats 8000000 in
theorem shares_walk {w : World} (a : Option Addr) (n c : Nat) (L : List Ta) (hL : RdL w a n L) (hT : ∀ t ∈ L, t.pcs.length ≤ 281474976710656) (hN : NilOk a n c) (F S : Int) (la : Option Addr) (ln lc : Nat) (late : List (List P2)) (hE : EvL w la ln late) (v0 v1 : Int) :
    Calls Try.prog 3 #[.slice a n c, .agg #[.int .i64 F, .int .i64 S], .slice la ln lc, .agg #[.int .i64 v0, .int .i64 v1]] w fun e w' => e = .returned (.bool true) ∧ Below w.heap.size w w' := by
  have HRD := Lib.hid (fun w1 (hb : Below w.heap.size w w1) => readyB_any a n c L F S la ln lc 200 w1 (hL.ext hb) hT)
  obtain ⟨B, hB⟩ : ∃ B, rdyB n L F S ln 200 = B := ⟨_, rfl⟩
  rw [hB] at HRD
  cases B
  · clear hL hT hN hE hB
    go_enter Try.func3, Try.ntmps3
    go_wp2_with (first | (go_at_call 7; (with_reducible refine (HRD.out _ (by (repeat' (first | (with_reducible exact Below.refl _ _) | (with_reducible assumption) | (with_reducible refine Below.alloc ?_ ?_ _) | (with_reducible refine Below.drew ?_) | (with_reducible refine Below.draws ?_ _) | (with_reducible refine Below.setCell ?_ ?_ _) | (refine Below.then ?_ (by with_reducible assumption)) | go_size)))).mono ?_); rintro e w1 ⟨rfl, hb1⟩; have hz1 := hb1.size; simp at hz1; have x0 := (hb1.cell (p := ⟨w.heap.size, 0, none⟩) (by simp <;> omega)).trans (show _ = some (.int .i64 F) by simp [go_sem]); have x1 := (hb1.cell (p := ⟨w.heap.size, 1, none⟩) (by simp <;> omega)).trans (show _ = some (.int .i64 S) by simp [go_sem]); have y0 := (hb1.cell (p := ⟨w.heap.size + 1, 0, none⟩) (by simp <;> omega)).trans (show _ = some (.int .i64 v0) by simp [go_sem]); have y1 := (hb1.cell (p := ⟨w.heap.size + 1, 1, none⟩) (by simp <;> omega)).trans (show _ = some (.int .i64 v1) by simp [go_sem]); have HSW : Hid (SwBox w1 w.heap.size F S v0 v1) := Lib.hid ⟨x0, x1, y0, y1, by omega, by omega⟩; have B1 : Hid (Below w.heap.size w w1) := Lib.hid (Below.trans (by (repeat' (first | (with_reducible exact Below.refl _ _) | (with_reducible assumption) | (with_reducible refine Below.alloc ?_ ?_ _) | (with_reducible refine Below.drew ?_) | (with_reducible refine Below.draws ?_ _) | (with_reducible refine Below.setCell ?_ ?_ _) | (refine Below.then ?_ (by with_reducible assumption)) | go_size))) (hb1.mono (by simp; omega))); clear x0 x1 y0 y1 hb1 hz1; obtain ⟨x0, x1, y0, y1, yz, xz⟩ := HSW.out) | (go_at_call 8; (with_reducible refine (awake_any _).mono ?_); rintro e w9 ⟨rfl, hb9⟩))
    go_ret
    exact ⟨rfl, Below.then B1.out hb9⟩
  · unfold rdyB at hB
    simp only [Bool.and_eq_true, decide_eq_true_eq] at hB
    obtain ⟨_, _, _, hvl, hsup⟩ := hB
    have hv := valid_of hvl
    have hrun := topR_run hvl hsup late
    have HRUN := Lib.hid (fun w1 (hb : Below w.heap.size w w1) => runB_any a n c L F S la ln lc late w1 (hL.ext hb) hv (hE.ext hb))
    obtain ⟨R, hR⟩ : ∃ R, topR L F S late = R := ⟨_, rfl⟩
    have hRf : R.fr = F := by rw [← hR]; rfl
    have hRs : R.sl = S := by rw [← hR]; rfl
    rw [hR] at HRUN hrun
    obtain ⟨hr, _⟩ := run_ok hrun
    have hin : (Go.Proofs.Ytmahagcghpoekaa.runB R && inB 200 0 2000) = true := by rw [hrun]; rfl
    have hsim : simR R 200 = ((plM R 200).o, 0) := by unfold simR; rw [if_pos hin]; rfl
    have hps : pauseR R 200 = ((pzR R 200).1, 0) := by unfold pauseR; rw [if_pos hin]; rfl
    obtain ⟨s1, s2⟩ := supB_iff.1 hsup
    have hpl := (pzR_le (R := R) (by rw [hRf]; omega) (by rw [hRf, hRs]; omega) 200).1
    have hem : ∀ e ∈ (plM R 200).o, 0 ≤ e.m ∧ e.m ≤ 200 := fun e he => by
      obtain ⟨_, _, h⟩ := plM_ei hr 200
      have := h.okm e he; omega
    have hol := plM_olen hr (k := 200) (by omega)
    have hbo := (busy_one R 200).2
    have hgw : ∀ f v : Nat, f + v ≤ 200 → cntE (gcIn f ((f : Int) + v)) (plM R 200).o = (v : Int) - diffS F S v f := fun f v h => by have := gc_win (R := R) (by rw [hRf]; omega) (by rw [hRf, hRs]; omega) f v 200 h; rw [hRf, hRs] at this; exact this
    obtain ⟨ps, hps2⟩ : ∃ x, (pzR R 200).1 = x := ⟨_, rfl⟩
    obtain ⟨o, ho⟩ : ∃ o, (plM R 200).o = o := ⟨_, rfl⟩
    rw [hps2] at hps hpl
    rw [hRs] at hpl
    rw [ho] at hsim hem hol hbo hgw
    -- the window
    obtain ⟨k0, e0, hk0⟩ := mask30 v0
    obtain ⟨k1, e1, hk1⟩ := mask30 v1
    obtain ⟨f, ef, hf⟩ := mod_nat hk0.1 (show (0 : Int) < 200 by omega)
    obtain ⟨v, ev, hv1⟩ := mod_nat hk1.1 (show (0 : Int) < 200 - (f : Int) + 1 by omega)
    have hfv : f + v ≤ 200 := by omega
    have hg := hgw f v hfv
    have hl1 := least_any (F := F) (S := S) s2.1 (by omega) v f
    have hc1 := col_any (F := F) (S := S) s2.1 (by omega) v f
    obtain ⟨D, hD⟩ : ∃ D, diffS F S (v : Int) f = D := ⟨_, rfl⟩
    rw [hD] at hg hl1 hc1
    obtain ⟨P, hP⟩ : ∃ P, (v : Int) - D = P := ⟨_, rfl⟩
    rw [hP] at hg hc1
    have hls := lstR_ok hsup (w := v) (by omega)
    obtain ⟨ls, hls2⟩ : ∃ x, leastN F S (v : Int) = x := ⟨_, rfl⟩
    rw [hls2] at hls hl1
    have HCO := Lib.hid (fun w1 => Collector_any F S (v : Int) w1 hsup (inB_iff.2 (by omega)))
    obtain ⟨co, hco⟩ : ∃ x, colN F S (v : Int) = x := ⟨_, rfl⟩
    rw [hco] at HCO hc1
    have HLS := Lib.hid hls
    have HSIM := Lib.hid (fun (H : RunH) (wz : World) (h : ReadRun wz H R) => (by have := Sim_is h hsim; rw [hRf, hRs] at this; exact this : Calls Try.prog 10 #[runV H F S, .int .i64 200] wz (OutEn wz o 0)))
    have HPAU := Lib.hid (fun (H : RunH) (wz : World) (h : ReadRun wz H R) => (by have := Pause_any H R 200 wz h; rw [hps, hRf, hRs] at this; exact this : Calls Try.prog 11 #[runV H F S, .int .i64 200] wz fun e w' => e = rII ps 0 ∧ Below wz.heap.size wz w'))
    have HEM := Lib.hid hem; have HBO := Lib.hid hbo; have HG := Lib.hid hg; have HOL := Lib.hid hol
    have dp : decide (S < ps) = false := by simp; omega
    have w200 : IntKind.i64.wrap (200 - (f : Int) + 1) = 200 - (f : Int) + 1 := IntWalk.i64_in _ (by omega)
    have hq0 : ((200 - (f : Int) + 1) == 0) = false := by simp; omega
    have dc : decide (co ≤ P) = true := by simp; omega
    have hP0 : 0 ≤ P ∧ P ≤ 504000 := by rw [← hg]; have := cntE_bd (gcIn f ((f : Int) + v)) o; omega
    have wv : IntKind.i64.wrap ((v : Int) - P) = (v : Int) - P := IntWalk.i64_in _ (by omega)
    have dl : decide (ls ≤ (v : Int) - P) = true := by simp; omega
    have wfv : IntKind.i64.wrap ((f : Int) + (v : Int)) = (f : Int) + (v : Int) := IntWalk.i64_in _ (by omega)
    clear hP hP0 hl1 hc1
    clear hL hT hN hE hvl hsup hv hrun hr hin hsim hps hpl hem hbo hgw hg hD hls hls2 hco ho hps2 hRf hRs hR
    go_enter Try.func3, Try.ntmps3
    go_upto_region 4 with (first | (go_at_call 7; (with_reducible refine (HRD.out _ (by (repeat' (first | (with_reducible exact Below.refl _ _) | (with_reducible assumption) | (with_reducible refine Below.alloc ?_ ?_ _) | (with_reducible refine Below.drew ?_) | (with_reducible refine Below.draws ?_ _) | (with_reducible refine Below.setCell ?_ ?_ _) | (refine Below.then ?_ (by with_reducible assumption)) | go_size)))).mono ?_); rintro e w1 ⟨rfl, hb1⟩; have hz1 := hb1.size; simp at hz1; have x0 := (hb1.cell (p := ⟨w.heap.size, 0, none⟩) (by simp <;> omega)).trans (show _ = some (.int .i64 F) by simp [go_sem]); have x1 := (hb1.cell (p := ⟨w.heap.size, 1, none⟩) (by simp <;> omega)).trans (show _ = some (.int .i64 S) by simp [go_sem]); have y0 := (hb1.cell (p := ⟨w.heap.size + 1, 0, none⟩) (by simp <;> omega)).trans (show _ = some (.int .i64 v0) by simp [go_sem]); have y1 := (hb1.cell (p := ⟨w.heap.size + 1, 1, none⟩) (by simp <;> omega)).trans (show _ = some (.int .i64 v1) by simp [go_sem]); have HSW : Hid (SwBox w1 w.heap.size F S v0 v1) := Lib.hid ⟨x0, x1, y0, y1, by omega, by omega⟩; have B1 : Hid (Below w.heap.size w w1) := Lib.hid (Below.trans (by (repeat' (first | (with_reducible exact Below.refl _ _) | (with_reducible assumption) | (with_reducible refine Below.alloc ?_ ?_ _) | (with_reducible refine Below.drew ?_) | (with_reducible refine Below.draws ?_ _) | (with_reducible refine Below.setCell ?_ ?_ _) | (refine Below.then ?_ (by with_reducible assumption)) | go_size))) (hb1.mono (by simp; omega))); clear x0 x1 y0 y1 hb1 hz1; obtain ⟨x0, x1, y0, y1, yz, xz⟩ := HSW.out) | (go_at_call 9; (with_reducible refine (HRUN.out _ B1.out).mono ?_); rintro e w2 ⟨H2, rfl, q1, q2, q3, hr2, hb2⟩; clear q1 q2 q3 x0 x1 y0 y1 yz xz; have HR2 := Lib.hid hr2; have B2 := Lib.hid (Below.then B1.out hb2); have HSW := Lib.hid (HSW.out.ext hb2); clear hr2 hb2; obtain ⟨x0, x1, y0, y1, yz, xz⟩ := HSW.out; obtain ⟨tA, tN, tC, eA, eN, eC, bA, bN, bC, sA, sN, sC⟩ := H2; unfold runV; simp only []))
    obtain ⟨w3, hw3⟩ : ∃ x, x = w2.alloc (.cells #[.slice tA tN tC, .int .i64 F, .int .i64 S, .slice eA eN eC, .slice bA bN bC, .slice sA sN sC] 32) := ⟨_, rfl⟩
    have hb23 : Below w2.heap.size w2 w3 := by rw [hw3]; (repeat' (first | (with_reducible exact Below.refl _ _) | (with_reducible assumption) | (with_reducible refine Below.alloc ?_ ?_ _) | (with_reducible refine Below.drew ?_) | (with_reducible refine Below.draws ?_ _) | (with_reducible refine Below.setCell ?_ ?_ _) | (refine Below.then ?_ (by with_reducible assumption)) | go_size))
    have HX3 : Hid (RBox w3 w2.heap.size ⟨tA, tN, tC, eA, eN, eC, bA, bN, bC, sA, sN, sC⟩ F S) := Lib.hid (by rw [hw3]; exact ⟨by simp [go_sem], by simp [go_sem], by simp [go_sem], by simp [go_sem], by simp [go_sem], by simp [go_sem], by simp⟩)
    have HR3 := Lib.hid (HR2.out.ext hb23)
    have HSW := Lib.hid (HSW.out.ext hb23)
    have B3 := Lib.hid (Below.then B2.out hb23)
    rw [← hw3]
    have HSM := Lib.hid (fun (wz : World) (hz : Below w3.heap.size w3 wz) => HSIM.out ⟨tA, tN, tC, eA, eN, eC, bA, bN, bC, sA, sN, sC⟩ wz (HR3.out.ext hz))
    have HPS := Lib.hid (fun (wz : World) (hz : Below w3.heap.size w3 wz) => HPAU.out ⟨tA, tN, tC, eA, eN, eC, bA, bN, bC, sA, sN, sC⟩ wz (HR3.out.ext hz))
    unfold runV at HSM HPS
    simp only [] at HSM HPS
    clear hw3 hb23 HSIM HPAU HRUN HRD x0 x1 y0 y1 yz xz
    obtain ⟨x0, x1, y0, y1, yz, xz⟩ := HSW.out
    obtain ⟨r0, r1, r2, r3, r4, r5, rz⟩ := HX3.out
    simp only [] at r0 r3 r4 r5
    go_upto_region 15 with (first | (go_at_call 10; (with_reducible refine (HSM.out _ (Below.refl _ _)).mono ?_); rintro e w4 ⟨a4, n4, c4, rfl, h4, hb4⟩; clear x0 x1 y0 y1 yz xz r0 r1 r2 r3 r4 r5 rz; have HO4 := Lib.hid (Rd.of_owns encE_len (by decide) h4); have HX4 := Lib.hid (HX3.out.ext hb4); have HSW := Lib.hid (HSW.out.ext hb4); have HB4 := Lib.hid hb4; clear h4 hb4; obtain ⟨x0, x1, y0, y1, yz, xz⟩ := HSW.out; obtain ⟨r0, r1, r2, r3, r4, r5, rz⟩ := HX4.out; simp only [] at r0 r3 r4 r5) | (go_at_call 11; (with_reducible refine (HPS.out _ HB4.out).mono ?_); rintro e w5 ⟨rfl, hb5⟩; clear x0 x1 y0 y1 yz xz r0 r1 r2 r3 r4 r5 rz; have HO5 := Lib.hid (HO4.out.ext hb5); have HSW := Lib.hid (HSW.out.ext hb5); have B5 := Lib.hid (Below.then (B3.out.trans (HB4.out.mono B3.out.size)) hb5); clear hb5; obtain ⟨x0, x1, y0, y1, yz, xz⟩ := HSW.out) | (go_at_call 12; (with_reducible refine (Least_is HLS.out).mono ?_); rintro e w6 ⟨rfl, hb6⟩; clear x0 x1 y0 y1 yz xz; have HO6 := Lib.hid (HO5.out.ext hb6); have HSW := Lib.hid (HSW.out.ext hb6); have B6 := Lib.hid (Below.then B5.out hb6); clear hb6; obtain ⟨x0, x1, y0, y1, yz, xz⟩ := HSW.out) | (go_at_call 13; (with_reducible refine (HCO.out _).mono ?_); rintro e w7 ⟨rfl, hb7⟩; clear x0 x1 y0 y1 yz xz; have HO7 := Lib.hid (HO6.out.ext hb7); have B7 := Lib.hid (Below.then B6.out hb7); clear hb7 HSW))
    obtain ⟨w8, hw8⟩ : ∃ x, x = w7.alloc (.cells Try.zeroCells41 41) := ⟨_, rfl⟩
    have hbk : Blk w8 w7.heap.size Try.zeroCells41 := by rw [hw8]; exact Blk.at _ _ _ _ rfl
    have hb8 : Below w7.heap.size w7 w8 := by rw [hw8]; (repeat' (first | (with_reducible exact Below.refl _ _) | (with_reducible assumption) | (with_reducible refine Below.alloc ?_ ?_ _) | (with_reducible refine Below.drew ?_) | (with_reducible refine Below.draws ?_ _) | (with_reducible refine Below.setCell ?_ ?_ _) | (refine Below.then ?_ (by with_reducible assumption)) | go_size))
    rw [← hw8]
    have HBK := Lib.hid hbk
    have z78 : w7.heap.size < w8.heap.size := hbk.l
    have HB78 := Lib.hid hb8
    have hn4 : n4 ≤ 504000 := by rw [← HO7.out.length]; exact hol
    clear hw8 hbk hb8 hol
    go_wp2
    go_loopw [21, 22] (fun v21 v22 wr => ∃ k : Nat, k ≤ n4 ∧ v21 = .int .i64 (cntE (gcIn f ((f : Int) + v)) (o.take k)) ∧ v22 = .int .i64 k ∧ (∀ j : Nat, j < 201 → wr.cell? ⟨w7.heap.size, j, none⟩ = some (.int .i64 (cntE (busyAt j) (o.take k)))) ∧ (∀ j, wr.frozen? ⟨w7.heap.size, j, none⟩ = false) ∧ w8.heap.size ≤ wr.heap.size ∧ Below w7.heap.size w7 wr) (fun _ v _ => n4 - (intOf v).toNat)
    case atStart => exact ⟨0, Nat.zero_le _, rfl, rfl, fun j hj => by rw [HBK.out.c, z201_at hj]; rfl, HBK.out.f, Nat.le_refl _, HB78.out⟩
    case round =>
      obtain ⟨k, hk, rfl, rfl, hA, hF, hz, hB⟩ := hrel
      have HB := Lib.hid hB; have HA := Lib.hid hA; have HF := Lib.hid hF
      have hbd := cnt_take_bd (gcIn f ((f : Int) + v)) o k
      by_cases hkn : k < n4
      · obtain ⟨x, b1, o1, rfl, hb1, hx, q0, q1, q2, q3, q4⟩ := (HO7.out.ext hB).en_at k hkn
        have htk := cnt_take (p := gcIn f ((f : Int) + v)) hx
        have hus := fun j : Nat => cnt_take (p := busyAt (j : Int)) hx
        have hm := HEM.out x (List.mem_of_getElem? hx)
        obtain ⟨m1, k1, w1', a1, c1⟩ := x
        simp only [] at q0 q1 q2 q3 q4 hm
        obtain ⟨mm, rfl⟩ := Int.eq_ofNat_of_zero_le hm.1
        have hml : mm < 201 := by omega
        have hu1 := HBO.out (mm : Int)
        have hu2 := cnt_take_le (busyAt (mm : Int)) o (k + 1)
        have hu3 := cnt_take_bd (busyAt (mm : Int)) o k
        have hcell := hA mm hml
        have hfr := hF mm
        have zA : w7.heap.size < wr.heap.size := by omega
        obtain ⟨U, hU⟩ : ∃ U, cntE (busyAt (mm : Int)) (o.take k) = U := ⟨_, rfl⟩
        obtain ⟨C, hC⟩ : ∃ C, cntE (gcIn f ((f : Int) + v)) (o.take k) = C := ⟨_, rfl⟩
        rw [hU] at hcell hu3
        rw [hC] at htk hbd ⊢
        have hUS := hus mm
        rw [hU] at hUS
        have hol2 := HO7.out.length
        have wU : IntKind.i64.wrap (U + 1) = U + 1 := IntWalk.i64_in _ (by omega)
        have wC : IntKind.i64.wrap (C + 1) = C + 1 := IntWalk.i64_in _ (by omega)
        have e1 : decide ((mm : Int) < 0) = false := by simp
        have e2 : decide ((200 : Int) < (mm : Int)) = false := by simp <;> omega
        have hbr : b1 < w7.heap.size := by
          obtain ⟨_, b2, _, he, h2, _⟩ := HO7.out.en_at k hkn
          cases he; exact h2
        have hbr2 : b1 ≠ w7.heap.size := by omega
        have hbz := Nat.lt_of_lt_of_le hbr HB.out.size
        have hset : isBusy ⟨(mm : Int), k1, w1', a1, c1⟩ = true → ∀ j : Nat, j < 201 → (wr.setCell ⟨w7.heap.size, mm, none⟩ (.int .i64 (U + 1))).cell? ⟨w7.heap.size, j, none⟩ = some (.int .i64 (cntE (busyAt j) (o.take (k + 1)))) := fun hb j hj => by
          by_cases q : mm = j
          · subst q
            rw [World.cell?_setCell_same _ _ _ hcell, hUS, bus_at, hb, if_pos rfl]
          · rw [World.cell?_setCell_other _ _ _ _ (addr_neS (.inr q)), HA.out j hj, hus j, if_neg]
            · simp
            · unfold busyAt
              rw [decide_eq_false (by simp only []; omega)]; simp
        by_cases h3 : w1' = 3
        · subst h3
          have hb : isBusy ⟨(mm : Int), k1, 3, a1, c1⟩ = true := rfl
          rw [bus_at, hb, if_pos rfl] at hUS
          have e3 : decide (1 < U + 1) = false := by simp; omega
          have HST := Lib.hid (hset hb)
          by_cases h5 : (f : Int) ≤ (mm : Int)
          · have d5 : decide ((f : Int) ≤ (mm : Int)) = true := by simpa using h5
            by_cases h6 : (mm : Int) < (f : Int) + (v : Int)
            · have d6 : decide ((mm : Int) < (f : Int) + (v : Int)) = true := by simpa using h6
              rw [if_pos (gcIn3.2 ⟨h5, h6⟩)] at htk
              have HTK := Lib.hid htk
              clear hset hB hA hF hx hus hm hu1 hu2 hU hC htk hUS
              (go_wp2_with fail; go_roundw; (case rel => exact ⟨k + 1, hkn, by rw [HTK.out], by go_num, HST.out, fun j => by rw [World.frozen?_setCell]; exact HF.out j, by simpa using hz, HB.out.setCell (p := ⟨w7.heap.size, mm, none⟩) (Nat.le_refl _) _⟩); (case measure => (simp [intOf]; omega)))
            · have d6 : decide ((mm : Int) < (f : Int) + (v : Int)) = false := by simpa using h6
              rw [if_neg (fun q => h6 (gcIn3.1 q).2), Int.add_zero] at htk
              have HTK := Lib.hid htk
              clear hset hB hA hF hx hus hm hu1 hu2 hU hC htk hUS
              (go_wp2_with fail; go_roundw; (case rel => exact ⟨k + 1, hkn, by rw [HTK.out], by go_num, HST.out, fun j => by rw [World.frozen?_setCell]; exact HF.out j, by simpa using hz, HB.out.setCell (p := ⟨w7.heap.size, mm, none⟩) (Nat.le_refl _) _⟩); (case measure => (simp [intOf]; omega)))
          · have d5 : decide ((f : Int) ≤ (mm : Int)) = false := by simpa using h5
            rw [if_neg (fun q => h5 (gcIn3.1 q).1), Int.add_zero] at htk
            have HTK := Lib.hid htk
            clear hset hB hA hF hx hus hm hu1 hu2 hU hC htk hUS
            (go_wp2_with fail; go_roundw; (case rel => exact ⟨k + 1, hkn, by rw [HTK.out], by go_num, HST.out, fun j => by rw [World.frozen?_setCell]; exact HF.out j, by simpa using hz, HB.out.setCell (p := ⟨w7.heap.size, mm, none⟩) (Nat.le_refl _) _⟩); (case measure => (simp [intOf]; omega)))
        · have h3' : (w1' == 3) = false := by simpa using h3
          have hg0 : gcIn f ((f : Int) + v) ⟨(mm : Int), k1, w1', a1, c1⟩ = false := gcIn_no h3
          rw [hg0, if_neg (by simp), Int.add_zero] at htk
          have HTK := Lib.hid htk
          by_cases h4 : w1' = 4
          · subst h4
            have hb : isBusy ⟨(mm : Int), k1, 4, a1, c1⟩ = true := rfl
            rw [bus_at, hb, if_pos rfl] at hUS
            have e3 : decide (1 < U + 1) = false := by simp; omega
            have HST := Lib.hid (hset hb)
            clear hset hB hA hF hx hus hm hu1 hu2 hU hC htk hUS hg0
            (go_wp2_with fail; go_roundw; (case rel => exact ⟨k + 1, hkn, by rw [HTK.out], by go_num, HST.out, fun j => by rw [World.frozen?_setCell]; exact HF.out j, by simpa using hz, HB.out.setCell (p := ⟨w7.heap.size, mm, none⟩) (Nat.le_refl _) _⟩); (case measure => (simp [intOf]; omega)))
          · have h4' : (w1' == 4) = false := by simpa using h4
            have hb : isBusy ⟨(mm : Int), k1, w1', a1, c1⟩ = false := isBusy_no h3 h4
            have hst : ∀ j : Nat, j < 201 → wr.cell? ⟨w7.heap.size, j, none⟩ = some (.int .i64 (cntE (busyAt j) (o.take (k + 1)))) := fun j hj => by
              rw [HA.out j hj, hus j, busyAt_no hb, if_neg (by simp), Int.add_zero]
            have HST := Lib.hid hst
            clear hset hst hB hA hF hx hus hm hu1 hu2 hU hC htk hUS hg0
            go_wp2_with fail
            go_roundw
            case rel => exact ⟨k + 1, hkn, by rw [HTK.out], by go_num, HST.out, HF.out, hz, HB.out⟩
            case measure => simp [intOf]; omega
      · have e : cntE (gcIn f ((f : Int) + v)) (o.take k) = P := by rw [List.take_of_length_le (by rw [HO7.out.length]; omega), HG.out]
        rw [e]
        clear hB hA hF hbd e
        go_wp2_with (go_at_call 8; (with_reducible refine (awake_any _).mono ?_); rintro e w9 ⟨rfl, hb9⟩)
        go_ret
        exact ⟨rfl, Below.then (B7.out.trans (HB.out.mono B7.out.size)) hb9⟩
end Go.Proofs.Ytmahagcghpoekaa
