/- From what a row says of lists of lists of pairs to what the walks use. No condition: plain lemmas. The walk of TopBlocks: it returns true. The conditions: the tasks and the lists read as named. -/
import Derived.Test.YtmahagcghpoekaaMg7
import Derived.Test.YtmahagcghpoekaaMg9
import Derived.Test.YtmahagcghpoekaaMg10
import Derived.Test.YtmahagcghpoekaaMg11
import Derived.Test.YtmahagcghpoekaaMg8
namespace Go.Proofs.Ytmahagcghpoekaa
open Go.ChangeShapes Go.WideShapes Go.ChangeAt Go.RowKit Go.Joins Go.Deep
set_option linter.unusedSimpArgs false
set_option linter.unusedVariables false
set_option maxRecDepth 100000 in
theorem open_lt {H : Type} {enc : TypeId × Value → H} {w : World} {base b0 : Nat} {spare : Nat → Bool} {held : Bool} {r : Reach} {v : Value} {d : DataW H} {ps : List MemPlace}
    (hv : Value.okWide Try.prog w r b0 25 v) (h : DataW.Trod enc Try.prog w base spare held 25 v d ps) (hw : ∀ n ∈ d.weights Try.prog 25, n ≤ reachBytes) :
    ∃ a n c, v = .slice a n c ∧ ∃ late : List (List P2), EvL w a n late := by
  obtain ⟨a0, n0, c0, rfl⟩ := okWide_slice Try.underlying25 hv
  obtain ⟨fuel, hf⟩ := h
  obtain ⟨ys, a, n, c, e, h1, h2, h3, _⟩ := opensB_slice (en := encV) (k := 1) (ok := fun w v => Rd w v.a v.n 2 (v.es.map enc2) ∧ v.n ≤ 281474976710656) Try.underlying25 (by kernel_rfl) (by decide) opensB_row hf hw
  simp [Value.cells] at e
  obtain ⟨rfl, rfl, rfl⟩ := e
  exact ⟨_, _, _, rfl, ys.map EvV.es, ys, h1, fun v hv => (h2 v hv).1, rfl⟩
end Go.Proofs.Ytmahagcghpoekaa
namespace Go.Proofs.Ytmahagcghpoekaa
open Go.RowKit
set_option linter.unusedSimpArgs false
set_option linter.unusedVariables false
/-- a run laid in a box -/
structure RBox (w : World) (q : Nat) (H : RunH) (F S : Int) : Prop where
  c0 : w.cell? ⟨q, 0, none⟩ = some (.slice H.tA H.tN H.tC)
  c1 : w.cell? ⟨q, 1, none⟩ = some (.int .i64 F)
  c2 : w.cell? ⟨q, 2, none⟩ = some (.int .i64 S)
  c3 : w.cell? ⟨q, 3, none⟩ = some (.slice H.eA H.eN H.eC)
  c4 : w.cell? ⟨q, 4, none⟩ = some (.slice H.bA H.bN H.bC)
  c5 : w.cell? ⟨q, 5, none⟩ = some (.slice H.sA H.sN H.sC)
  z : q < w.heap.size
theorem RBox.ext {w w' : World} {q : Nat} {H : RunH} {F S : Int} (h : RBox w q H F S) (hb : Below w.heap.size w w') : RBox w' q H F S :=
  ⟨(hb.cell (p := ⟨q, 0, none⟩) h.z).trans h.c0, (hb.cell (p := ⟨q, 1, none⟩) h.z).trans h.c1, (hb.cell (p := ⟨q, 2, none⟩) h.z).trans h.c2, (hb.cell (p := ⟨q, 3, none⟩) h.z).trans h.c3, (hb.cell (p := ⟨q, 4, none⟩) h.z).trans h.c4, (hb.cell (p := ⟨q, 5, none⟩) h.z).trans h.c5, Nat.lt_of_lt_of_le h.z hb.size⟩
set_option maxRecDepth 100000 in
set_option maxHeartbeats 8000000 in
theorem blkTop_walk {w : World} (a : Option Addr) (n c : Nat) (L : List Ta) (hL : RdL w a n L) (hT : ∀ t ∈ L, t.pcs.length ≤ 281474976710656) (hN : NilOk a n c) (F S : Int) (la : Option Addr) (ln lc : Nat) (late : List (List P2)) (hE : EvL w la ln late) (t : Int) (ht : -9223372036854775808 ≤ t ∧ t ≤ 9223372036854775807) :
    Calls Try.prog 4 #[.slice a n c, .agg #[.int .i64 F, .int .i64 S], .slice la ln lc, .int .i64 t] w fun e w' => e = .returned (.bool true) ∧ Below w.heap.size w w' := by
  have HRD := Lib.hid (fun w1 (hb : Below w.heap.size w w1) => readyB_any a n c L F S la ln lc t w1 (hL.ext hb) hT)
  obtain ⟨B, hB⟩ : ∃ B, rdyB n L F S ln t = B := ⟨_, rfl⟩
  rw [hB] at HRD
  cases B
  · clear hL hT hN hE hB
    go_enter Try.func4, Try.ntmps4
    go_wp2_with (first | (go_at_call 7; (with_reducible refine (HRD.out _ (by (repeat' (first | (with_reducible exact Below.refl _ _) | (with_reducible assumption) | (with_reducible refine Below.alloc ?_ ?_ _) | (with_reducible refine Below.drew ?_) | (with_reducible refine Below.draws ?_ _) | (with_reducible refine Below.setCell ?_ ?_ _) | (refine Below.then ?_ (by with_reducible assumption)) | go_size)))).mono ?_); rintro e w1 ⟨rfl, hb1⟩; have x0 := (hb1.cell (p := ⟨w.heap.size, 0, none⟩) (by simp)).trans (show _ = some (.int .i64 F) by simp [go_sem]); have x1 := (hb1.cell (p := ⟨w.heap.size, 1, none⟩) (by simp)).trans (show _ = some (.int .i64 S) by simp [go_sem]); have B1 : Hid (Below w.heap.size w w1) := Lib.hid (Below.trans (by (repeat' (first | (with_reducible exact Below.refl _ _) | (with_reducible assumption) | (with_reducible refine Below.alloc ?_ ?_ _) | (with_reducible refine Below.drew ?_) | (with_reducible refine Below.draws ?_ _) | (with_reducible refine Below.setCell ?_ ?_ _) | (refine Below.then ?_ (by with_reducible assumption)) | go_size))) (hb1.mono (by simp))); have z1 : w.heap.size < w1.heap.size := Nat.lt_of_lt_of_le (by simp) hb1.size; clear hb1) | (go_at_call 8; (with_reducible refine (awake_any _).mono ?_); rintro e w9 ⟨rfl, hb9⟩))
    go_ret
    exact ⟨rfl, Below.then B1.out hb9⟩
  · unfold rdyB at hB
    simp only [Bool.and_eq_true, decide_eq_true_eq] at hB
    obtain ⟨_, _, ht2, hvl, hsup⟩ := hB
    have hv := valid_of hvl
    have hrun := topR_run hvl hsup late
    have HRUN := Lib.hid (fun w1 (hb : Below w.heap.size w w1) => runB_any a n c L F S la ln lc late w1 (hL.ext hb) hv (hE.ext hb))
    obtain ⟨R, hR⟩ : ∃ R, topR L F S late = R := ⟨_, rfl⟩
    have hRL : R.L = L := by rw [← hR]; rfl
    have hRf : R.fr = F := by rw [← hR]; rfl
    have hRs : R.sl = S := by rw [← hR]; rfl
    rw [hR] at HRUN hrun
    obtain ⟨tn, rfl⟩ := Int.eq_ofNat_of_zero_le ht2.1
    have htn : tn ≤ 600 := by omega
    obtain ⟨hr, _⟩ := run_ok hrun
    have hin : (Go.Proofs.Ytmahagcghpoekaa.runB R && inB (tn : Int) 0 2000) = true := by rw [hrun, Bool.true_and, inB_iff]; omega
    have hsim : simR R (tn : Int) = ((plM R tn).o, 0) := by unfold simR; rw [if_pos hin, Int.toNat_natCast]
    have hen : endN R (tn : Int) = L.length := by unfold endN; rw [if_pos hin, hRL]
    have hee : endE R (tn : Int) = 0 := by unfold endE; rw [if_pos hin]
    have hll := hL.length
    have hn5 : n ≤ 5 := by rw [← hll]; exact hv.r.len
    have hex : endX R (tn : Int) = endsRow R (plM R tn).o := by unfold endX; rw [Int.toNat_natCast]
    have hXl : ∀ i, (endX R (tn : Int) i).length = (evA R i).length := fun i => by rw [hex]; exact endsRow_len _ _ _
    have hXg : ∀ i k, k < (evA R i).length → xAt (endX R (tn : Int)) i k = endF (plM R tn).o i k := fun i k hk => by unfold xAt; rw [hex, endsRow_get hk]; rfl
    have hble : ∀ i x : Nat, i < n → x < (evA R i).length → blkC R.L i (relT (evA R i) x) (endF (plM R tn).o i x) (plM R tn).o ≤ blockN L i := fun i x hi hx => by have := blk_le hr (i := i) (x := x) (by rw [hRL]; omega) hx tn; rw [hRL] at this ⊢; exact this
    have hone : ∀ i x : Nat, i < n → x < (evA R i).length → ∃ κ, OneE L i (relT (evA R i) x) (endF (plM R tn).o i x) κ (plM R tn).o := fun i x hi hx => by have := one_of hr (i := i) (x := x) (by rw [hRL]; omega) hx tn; rw [hRL] at this; exact this
    have hok4 : ∀ e ∈ (plM R tn).o, e.w = 4 → ∃ k : Nat, e.k = (k : Int) ∧ k < n := fun e he h4 => by obtain ⟨i, _, _, h1, _, _, h2, _⟩ := plM_ok4 hr tn e he h4; exact ⟨i, h1, by rw [← hll, ← hRL]; exact h2⟩
    have hbd : ∀ i x : Nat, i < n → x < (evA R i).length → blockedR R (tn : Int) (i : Int) (x : Int) = (blkC R.L i (relT (evA R i) x) (endF (plM R tn).o i x) (plM R tn).o, 0) := fun i x hi hx => by
      unfold blockedR
      rw [if_pos ⟨hin, by unfold isEv; rw [Bool.and_eq_true, inB_iff, inB_iff, Int.toNat_natCast, hRL]; omega⟩, Int.toNat_natCast, Int.toNat_natCast]
    have hel : ∀ (i : Nat) (e : P2), e ∈ evA R i → (0 ≤ e.1 ∧ e.1 ≤ 1000000) ∧ 0 ≤ e.2 ∧ e.2 ≤ 1000000 := fun i e he => by
      by_cases hi : i < R.ev.length
      · have := (hr.el (evA R i) (by unfold evA; rw [List.getElem?_eq_getElem hi]; exact List.getElem_mem hi)).2 e he; omega
      · unfold evA at he; rw [List.getElem?_eq_none (by omega)] at he; cases he
    have hem4 : ∀ e ∈ (plM R tn).o, True := fun _ _ => trivial
    obtain ⟨X, hX⟩ : ∃ X, endX R (tn : Int) = X := ⟨_, rfl⟩
    obtain ⟨o, ho⟩ : ∃ o, (plM R tn).o = o := ⟨_, rfl⟩
    obtain ⟨Z, hZ⟩ : ∃ Z : Nat → Nat → Int, (fun (i x : Nat) => blkC R.L i (relT (evA R i) x) (endF (plM R tn).o i x) (plM R tn).o) = Z := ⟨_, rfl⟩
    have hbd2 : ∀ i x : Nat, i < n → x < (evA R i).length → blockedR R (tn : Int) (i : Int) (x : Int) = (Z i x, 0) := fun i x hi hx => by rw [hbd i x hi hx, ← hZ]
    have hble2 : ∀ i x : Nat, i < n → x < (evA R i).length → Z i x ≤ blockN L i := fun i x hi hx => by rw [← hZ]; exact hble i x hi hx
    clear hbd hble
    have HSIM := Lib.hid (fun (H : RunH) (wz : World) (h : ReadRun wz H R) => (by have := Sim_is h hsim; rw [hRf, hRs, ho] at this; exact this : Calls Try.prog 10 #[runV H F S, .int .i64 (tn : Int)] wz (OutEn wz o 0)))
    have HENDS := Lib.hid (fun (H : RunH) (wz : World) (h : ReadRun wz H R) => (by have := Ends_any H R (tn : Int) wz h; rw [hen, hee, hRf, hRs, hX, hll] at this; exact this : Calls Try.prog 14 #[runV H F S, .int .i64 (tn : Int)] wz (OutX wz n X 0)))
    have HBLK := Lib.hid (fun (H : RunH) (i x : Nat) (wz : World) (h : ReadRun wz H R) (hi : i < n) (hx : x < (evA R i).length) => (by have h1 := (hr.el (evA R i) (by unfold evA; rw [List.getElem?_eq_getElem (by rw [hr.ev, hRL]; omega)]; exact List.getElem_mem _)).1; have := Blocked_any H R (tn : Int) (i : Int) (x : Int) wz h (by omega) (by omega); rw [hbd2 i x hi hx, hRf, hRs] at this; exact this : Calls Try.prog 17 #[runV H F S, .int .i64 (tn : Int), .int .i64 (i : Int), .int .i64 (x : Int)] wz fun e w' => e = rII (Z i x) 0 ∧ Below wz.heap.size wz w'))
    have HLB := Lib.hid (fun (i : Nat) (hi : i < n) (wz : World) (h : Below w.heap.size w wz) => Blocking_is (c := c) (hL.ext h) (show blkgR L (i : Int) = (blockN L i, 0) by rw [blkgR, isTk_iff.2 ⟨right_B hv.r, by omega, by omega⟩]; rfl))
    have HONE := Lib.hid (fun (i x : Nat) (hi : i < n) (hx : x < (evA R i).length) => (by have := hone i x hi hx; rw [ho] at this; exact this : ∃ κ, OneE L i (relT (evA R i) x) (endF o i x) κ o))
    have HRK := Lib.hid (ranks_ok hv.r)
    have HRN : Hid ((rankL L).length = n) := Lib.hid (by rw [rank_len, hll])
    have HRC : Hid (∀ (p : Nat) (y : Int), (rankL L)[p]? = some y → cnt L y = p ∧ ∃ k : Nat, y = (k : Int) ∧ k < n) := Lib.hid (fun p y hy => ⟨rank_cnt hy, by have := rank_mem.1 (List.mem_of_getElem? hy); obtain ⟨k, hk⟩ := Int.eq_ofNat_of_zero_le this.1; exact ⟨k, hk, by omega⟩⟩)
    have HCI : Hid (∀ j k : Nat, j < n → k < n → cnt L j = cnt L k → j = k) := Lib.hid (fun j k hj hk e => by have := cnt_inj (L := L) (x := (j : Int)) (y := (k : Int)) (by omega) (by omega) (by omega) (by omega) e; omega)
    have HCL : Hid (∀ k : Nat, k < n → cnt L k < n) := Lib.hid (fun k hk => by have := (List.getElem?_eq_some_iff.1 (rank_at (L := L) (x := (k : Int)) (by omega) (by omega))).1; rw [rank_len, hll] at this; exact this)
    rw [hX] at hXl hXg
    have HXL := Lib.hid hXl
    have HXG : Hid (∀ i k, k < (evA R i).length → xAt X i k = endF o i k) := Lib.hid (fun i k hk => by rw [hXg i k hk, ho])
    have HZL := Lib.hid hble2
    have HOK4 : Hid (∀ e ∈ o, e.w = 4 → ∃ k : Nat, e.k = (k : Int) ∧ k < n) := Lib.hid (fun e he => hok4 e (by rw [ho]; exact he))
    have HEL := Lib.hid hel
    have HEV : Hid (R.ev.length = n) := Lib.hid (by rw [hr.ev, hRL, hll])
    have HE40 : Hid (∀ i, (evA R i).length ≤ 40) := Lib.hid (fun i => by
      by_cases hi : i < R.ev.length
      · exact (hr.el (evA R i) (by unfold evA; rw [List.getElem?_eq_getElem hi]; exact List.getElem_mem hi)).1
      · unfold evA; rw [List.getElem?_eq_none (by omega)]; simp)
    have HL := Lib.hid hL
    have hmk1 := run_make_row' (P := Try.prog) 29 3 (.int .i64 0) 8 Try.underlying29 (by kernel_rfl) rfl .i64 .i64 n (by omega) (by omega)
    clear hL hT hN hE hvl hsup hv hrun hr hin hsim hen hee hex hXl hXg hone hok4 hel hem4 hX ho hZ hbd2 hble2 hRL hRf hRs hR ht2 ht hll
    go_enter Try.func4, Try.ntmps4
    go_upto_region 4 with (first | (go_at_call 7; (with_reducible refine (HRD.out _ (by (repeat' (first | (with_reducible exact Below.refl _ _) | (with_reducible assumption) | (with_reducible refine Below.alloc ?_ ?_ _) | (with_reducible refine Below.drew ?_) | (with_reducible refine Below.draws ?_ _) | (with_reducible refine Below.setCell ?_ ?_ _) | (refine Below.then ?_ (by with_reducible assumption)) | go_size)))).mono ?_); rintro e w1 ⟨rfl, hb1⟩; have x0 := (hb1.cell (p := ⟨w.heap.size, 0, none⟩) (by simp)).trans (show _ = some (.int .i64 F) by simp [go_sem]); have x1 := (hb1.cell (p := ⟨w.heap.size, 1, none⟩) (by simp)).trans (show _ = some (.int .i64 S) by simp [go_sem]); have B1 : Hid (Below w.heap.size w w1) := Lib.hid (Below.trans (by (repeat' (first | (with_reducible exact Below.refl _ _) | (with_reducible assumption) | (with_reducible refine Below.alloc ?_ ?_ _) | (with_reducible refine Below.drew ?_) | (with_reducible refine Below.draws ?_ _) | (with_reducible refine Below.setCell ?_ ?_ _) | (refine Below.then ?_ (by with_reducible assumption)) | go_size))) (hb1.mono (by simp))); have z1 : w.heap.size < w1.heap.size := Nat.lt_of_lt_of_le (by simp) hb1.size; clear hb1) | (go_at_call 9; (with_reducible refine (HRUN.out _ B1.out).mono ?_); rintro e w2 ⟨H2, rfl, q1, q2, q3, hr2, hb2⟩; clear q1 q2 q3; have HR2 := Lib.hid hr2; have B2 := Lib.hid (Below.then B1.out hb2); clear hr2 hb2; obtain ⟨tA, tN, tC, eA, eN, eC, bA, bN, bC, sA, sN, sC⟩ := H2; unfold runV; simp only []))
    obtain ⟨w3, hw3⟩ : ∃ x, x = w2.alloc (.cells #[.slice tA tN tC, .int .i64 F, .int .i64 S, .slice eA eN eC, .slice bA bN bC, .slice sA sN sC] 32) := ⟨_, rfl⟩
    have hb23 : Below w2.heap.size w2 w3 := by rw [hw3]; (repeat' (first | (with_reducible exact Below.refl _ _) | (with_reducible assumption) | (with_reducible refine Below.alloc ?_ ?_ _) | (with_reducible refine Below.drew ?_) | (with_reducible refine Below.draws ?_ _) | (with_reducible refine Below.setCell ?_ ?_ _) | (refine Below.then ?_ (by with_reducible assumption)) | go_size))
    have HX3 : Hid (RBox w3 w2.heap.size ⟨tA, tN, tC, eA, eN, eC, bA, bN, bC, sA, sN, sC⟩ F S) := Lib.hid (by rw [hw3]; exact ⟨by simp [go_sem], by simp [go_sem], by simp [go_sem], by simp [go_sem], by simp [go_sem], by simp [go_sem], by simp⟩)
    have HR3 := Lib.hid (HR2.out.ext hb23)
    have B3 := Lib.hid (Below.then B2.out hb23)
    rw [← hw3]
    have HSM := Lib.hid (fun (wz : World) (hz : Below w3.heap.size w3 wz) => HSIM.out ⟨tA, tN, tC, eA, eN, eC, bA, bN, bC, sA, sN, sC⟩ wz (HR3.out.ext hz))
    have HEN := Lib.hid (fun (wz : World) (hz : Below w3.heap.size w3 wz) => HENDS.out ⟨tA, tN, tC, eA, eN, eC, bA, bN, bC, sA, sN, sC⟩ wz (HR3.out.ext hz))
    have HBD := Lib.hid (fun (i x : Nat) (wz : World) (hi : i < n) (hx : x < (evA R i).length) (hz : Below w3.heap.size w3 wz) => HBLK.out ⟨tA, tN, tC, eA, eN, eC, bA, bN, bC, sA, sN, sC⟩ i x wz (HR3.out.ext hz) hi hx)
    unfold runV at HSM HEN HBD
    simp only [] at HSM HEN HBD
    clear hw3 hb23 HSIM HENDS HBLK HRUN HRD
    obtain ⟨x0, x1, x2, x3, x4, x5, xz⟩ := HX3.out
    simp only [] at x0 x3 x4 x5
    go_upto_region 10 with (first | (go_at_call 10; (with_reducible refine (HSM.out _ (Below.refl _ _)).mono ?_); rintro e w4 ⟨a4, n4, c4, rfl, h4, hb4⟩; have HO4 := Lib.hid (Rd.of_owns encE_len (by decide) h4); have HX4 := Lib.hid (HX3.out.ext hb4); have HB4 := Lib.hid hb4; clear h4 hb4 x0 x1 x2 x3 x4 x5 xz; obtain ⟨x0, x1, x2, x3, x4, x5, xz⟩ := HX4.out; simp only [] at x0 x3 x4 x5) | (go_at_call 14; (with_reducible refine (HEN.out _ HB4.out).mono ?_); rintro e w5 ⟨a5, c5, rfl, h5, hb5⟩; have HE5 := Lib.hid h5; have HO5 := Lib.hid (HO4.out.ext hb5); have HB5 := Lib.hid (Below.then HB4.out hb5); clear h5 hb5 x0 x1 x2 x3 x4 x5 xz; obtain ⟨x0, x1, x2, x3, x4, x5, xz⟩ := HX3.out.ext HB5.out; simp only [] at x0 x3 x4 x5) | (go_at_call 15; (with_reducible refine (Ranks_is (HL.out.ext (B3.out.trans (HB5.out.mono B3.out.size))) HRK.out).mono ?_); rintro e w6 ⟨a6, n6, c6, rfl, h6, hb6⟩; have HK6 := Lib.hid (ownsI_rd h6); have HE6 := Lib.hid (HE5.out.ext hb6); have HO6 := Lib.hid (HO5.out.ext hb6); have HB6 := Lib.hid (Below.then HB5.out hb6); have hn6 : n6 = n := (by rw [← HK6.out.length]; exact HRN.out); subst hn6; clear h6 hb6 x0 x1 x2 x3 x4 x5 xz; obtain ⟨x0, x1, x2, x3, x4, x5, xz⟩ := HX3.out.ext HB6.out; simp only [] at x0 x3 x4 x5))
    obtain ⟨w7, hw7⟩ : ∃ x, x = w6.alloc (.cells (madeCells #[.int .i64 0] n6) 3) := ⟨_, rfl⟩
    have hbk : Blk w7 w6.heap.size (madeCells #[.int .i64 0] n6) := by rw [hw7]; exact Blk.at _ _ _ _ rfl
    have hb7 : Below w6.heap.size w6 w7 := by rw [hw7]; (repeat' (first | (with_reducible exact Below.refl _ _) | (with_reducible assumption) | (with_reducible refine Below.alloc ?_ ?_ _) | (with_reducible refine Below.drew ?_) | (with_reducible refine Below.draws ?_ _) | (with_reducible refine Below.setCell ?_ ?_ _) | (refine Below.then ?_ (by with_reducible assumption)) | go_size))
    rw [← hw7]
    have HBK := Lib.hid hbk
    have z67 : w6.heap.size < w7.heap.size := hbk.l
    have HB67 := Lib.hid hb7
    have HB7 := Lib.hid (Below.then HB6.out hb7)
    have HK7 := Lib.hid (HK6.out.ext hb7)
    clear hw7 hbk hb7 hmk1 x0 x1 x2 x3 x4 x5 xz
    go_wp2
    go_loopw [17] (fun v wr => ∃ p : Nat, p ≤ n6 ∧ v = .int .i64 p ∧ (∀ j : Nat, j < n6 → wr.cell? ⟨w6.heap.size, j, none⟩ = some (.int .i64 (if cnt L j < p then (cnt L j : Int) else 0))) ∧ (∀ j, wr.frozen? ⟨w6.heap.size, j, none⟩ = false) ∧ w7.heap.size ≤ wr.heap.size ∧ Below w6.heap.size w6 wr) (fun v _ => n6 - (intOf v).toNat)
    case atStart => exact ⟨0, Nat.zero_le _, rfl, fun j hj => by rw [HBK.out.c, made_one _ _ _ hj]; simp, HBK.out.f, Nat.le_refl _, HB67.out⟩
    case round =>
      obtain ⟨p, hp, rfl, hA, hF, hz, hB⟩ := hrel
      have HA := Lib.hid hA; have HF := Lib.hid hF
      have HBQ := Lib.hid hB
      by_cases hpn : p < n6
      · obtain ⟨y, b3, o3, rfl, hb3, hc30, hy⟩ := HK6.out.idx p hpn
        have hc3 := (hB.cell (p := ⟨b3, o3 + p, none⟩) hb3).trans hc30
        have zb3 := Nat.lt_of_lt_of_le hb3 hB.size
        obtain ⟨hcy, yk, rfl, hyk⟩ := HRC.out p y hy
        have c1 := hA yk hyk
        have f1 := hF yk
        have zA : w6.heap.size < wr.heap.size := by omega
        have hbr : b3 ≠ w6.heap.size := by omega
        have HCY := Lib.hid hcy
        have hst : ∀ j : Nat, j < n6 → (wr.setCell ⟨w6.heap.size, yk, none⟩ (.int .i64 p)).cell? ⟨w6.heap.size, j, none⟩ = some (.int .i64 (if cnt L j < p + 1 then (cnt L j : Int) else 0)) := fun j hj => by
          by_cases e : yk = j
          · subst e
            rw [World.cell?_setCell_same _ _ _ c1, HCY.out, if_pos (by omega)]
          · rw [World.cell?_setCell_other _ _ _ _ (addr_neS (.inr e)), HA.out j hj]
            have hne : cnt L (j : Int) ≠ p := fun q => e (HCI.out yk j hyk hj (by rw [HCY.out, q]))
            by_cases q : cnt L (j : Int) < p
            · rw [if_pos q, if_pos (by omega)]
            · rw [if_neg q, if_neg (by omega)]
        have HST := Lib.hid hst
        have hd1 : decide ((n6 : Int) ≤ (yk : Int)) = false := by simp <;> omega
        clear hcy hst hc30 hy hA hF hB
        go_wp2_with fail
        go_roundw
        case rel => exact ⟨p + 1, hpn, by go_num, HST.out, fun j => by rw [World.frozen?_setCell]; exact HF.out j, by simpa using hz, HBQ.out.setCell (p := ⟨w6.heap.size, yk, none⟩) (Nat.le_refl _) _⟩
        case measure => simp [intOf]; omega
      · have hpe : p = n6 := by omega
        subst hpe
        obtain ⟨pl, hpl⟩ : ∃ pl : List Int, (List.range p).map (fun (k : Nat) => (cnt L k : Int)) = pl := ⟨_, rfl⟩
        have HPG : Hid (∀ k : Nat, k < p → pl[k]? = some (cnt L k : Int)) := Lib.hid (fun k hk => by rw [← hpl]; simp [hk])
        have zq : w6.heap.size < wr.heap.size := by omega
        have HPL : Hid (Rd wr (some ⟨w6.heap.size, 0, none⟩) p 1 (pl.map enc1)) := Lib.hid (⟨by rw [← hpl]; simp, by omega, fun _ => ⟨w6.heap.size, 0, rfl, zq, fun i hi j hj => by
          obtain rfl : j = 0 := by omega
          have hi2 : i < p := by rw [← hpl] at hi; simpa using hi
          rw [show 0 + i * 1 + 0 = i by omega, hA i hi2, if_pos (HCL.out i hi2)]
          simp only [← hpl, List.getElem_map, List.getElem_range, enc1]
          rfl⟩⟩)
        clear hA hF hB HA HF hpl
        have HBR := Lib.hid (HB6.out.trans (HBQ.out.mono HB6.out.size))
        obtain ⟨wp, hwp⟩ : ∃ x, x = wr := ⟨_, rfl⟩
        have HEP := Lib.hid (HE6.out.ext HBQ.out)
        have HOP := Lib.hid (HO6.out.ext HBQ.out)
        rw [← hwp] at HPL HBR HEP HOP ⊢
        clear hwp HBQ hz zq
        go_wp2
        go_loopw [18] (fun v wr => ∃ i : Nat, i ≤ p ∧ v = .int .i64 i ∧ Below wp.heap.size wp wr) (fun v _ => p - (intOf v).toNat)
        case atStart => exact ⟨0, Nat.zero_le _, rfl, Below.refl _ _⟩
        case round =>
          obtain ⟨i, hi, rfl, hB⟩ := hrel
          have HB := Lib.hid hB
          have HBW := Lib.hid (Below.then HBR.out hB)
          by_cases hin : i < p
          · clear hB
            go_upto_region 20 with (go_at_call 16; (with_reducible refine (HLB.out i hin _ (B3.out.trans (HBW.out.mono B3.out.size))).mono ?_); rintro e w8 ⟨rfl, hb8⟩)
            have HB8 := Lib.hid (Below.then HBW.out hb8)
            have HBP8 := Lib.hid (Below.then HB.out hb8)
            have hR8 := (HR3.out.ext HB8.out).rd
            have hie : i < eN := by have h1 := hR8.e.len; have h2 := HEV.out; simp only [] at h1; omega
            obtain ⟨eb, eo, ea, en, ec, hea, heb, hec, hRd⟩ := hR8.e.at_ i hie
            simp only [] at hea
            have hlen : (evA R i).length = en := hRd.length
            obtain ⟨xb, xo, xa, xn, xc, rfl, hxb, hxc, hxl, hxR⟩ := (HEP.out.ext HBP8.out).row hin
            have hxe : xn = en := by rw [← hxl, HXL.out, hlen]
            subst hxe
            subst hea
            have hen40 : xn ≤ 40 := by rw [← hlen]; exact HE40.out i
            obtain ⟨x0, x1, x2, x3, x4, x5, xz⟩ := HX3.out.ext HB8.out
            simp only [] at x0 x3 x4 x5
            have HRD := Lib.hid hRd; have HXR := Lib.hid hxR; have HLEN := Lib.hid hlen
            have HC8 : Hid (∀ wz, Below w8.heap.size w8 wz → (wz.cell? ⟨xb, xo + i, none⟩ = some (.slice xa xn xc) ∧ xb < wz.heap.size) ∧ (wz.cell? ⟨eb, eo + i, none⟩ = some (.slice ea xn ec) ∧ eb < wz.heap.size) ∧ wz.cell? ⟨w2.heap.size, 3, none⟩ = some (.slice (some ⟨eb, eo, none⟩) eN eC) ∧ w2.heap.size < wz.heap.size) := Lib.hid (fun wz hz => ⟨⟨(hz.cell (p := ⟨xb, xo + i, none⟩) hxb).trans hxc, Nat.lt_of_lt_of_le hxb hz.size⟩, ⟨(hz.cell (p := ⟨eb, eo + i, none⟩) heb).trans hec, Nat.lt_of_lt_of_le heb hz.size⟩, (hz.cell (p := ⟨w2.heap.size, 3, none⟩) xz).trans x3, Nat.lt_of_lt_of_le xz hz.size⟩)
            have HZI := Lib.hid (fun x hx => HZL.out i x hin hx)
            obtain ⟨bl, hbl⟩ : ∃ x, blockN L (i : Int) = x := ⟨_, rfl⟩
            rw [hbl] at HZI ⊢
            clear hb8 hR8 hRd hxl hxR hlen x0 x1 x2 x4 x5 hbl
            go_upto_region 22 with (refine wp_region_later_lit (by kernel_rfl) (by kernel_rfl) ?_; (repeat (go_big_quiet_step (fail))); refine wpQuiet_nil ?_; intro w9 hb9)
            have HB9 := Lib.hid hb9
            clear hxc hec x3 xz hxb heb hb9
            go_wp2
            go_loopw [21] (fun v wx => ∃ k : Nat, k ≤ xn ∧ v = .int .i64 k ∧ Below w9.heap.size w9 wx) (fun v _ => xn - (intOf v).toNat)
            case atStart => exact ⟨0, Nat.zero_le _, rfl, Below.refl _ _⟩
            case round =>
              obtain ⟨k, hk, rfl, hBx⟩ := hrel
              have HBX := Lib.hid hBx
              have HB8X := Lib.hid (Below.then HB9.out hBx)
              have HBV := Lib.hid (Below.then HB8.out HB8X.out)
              obtain ⟨⟨r1, r2⟩, ⟨r3, r4⟩, _, _⟩ := HC8.out _ HB8X.out
              obtain ⟨x0, x1, x2, x3, x4, x5, xz⟩ := HX3.out.ext HBV.out
              simp only [] at x0 x3 x4 x5
              by_cases hkn : k < xn
              · have hkl : k < (evA R i).length := by rw [HLEN.out]; exact hkn
                clear hBx
                go_upto_region 26 with (go_at_call 17; (with_reducible refine (HBD.out i k _ hin hkl HBV.out).mono ?_); rintro e w10 ⟨rfl, hb10⟩)
                have HBY := Lib.hid (Below.then HB8X.out hb10)
                have HBPY := Lib.hid (Below.then HBP8.out HBY.out)
                have HBU := Lib.hid (Below.then HBX.out hb10)
                clear r1 r2 r3 r4 x0 x1 x2 x3 x4 x5 xz hb10
                obtain ⟨⟨r1, r2⟩, ⟨r3, r4⟩, r5, r6⟩ := HC8.out _ HBY.out
                obtain ⟨e0, e1, vb, vo, rfl, hvb, g0, g1, hg, _⟩ := (HRD.out.ext HBY.out).pc_at' k hkn
                obtain ⟨E, zb, zo, rfl, hzb, hzc, hzx⟩ := (HXR.out.ext HBY.out).idx k hkn
                have hel2 := HEL.out i _ (List.mem_of_getElem? hg)
                simp only [] at hel2
                have hrel : relT (evA R i) (k : Int) = e0 + e1 := relT_of hg
                have hxz : xAt X i k = E := by unfold xAt; rw [hzx]; rfl
                have hEF : endF o i (k : Int) = E := by rw [← HXG.out i k hkl, hxz]
                obtain ⟨κ, hone⟩ := HONE.out i k hin hkl
                obtain ⟨rf, hrf⟩ : ∃ f, e0 + e1 = f := ⟨_, rfl⟩
                rw [hrel, hEF, hrf] at hone
                have wadd : IntKind.i64.wrap (e0 + e1) = rf := by rw [← hrf]; exact IntWalk.i64_in _ (by omega)
                have hzl := HZI.out k hkl
                obtain ⟨zz, hzz⟩ : ∃ x, Z i k = x := ⟨_, rfl⟩
                rw [hzz] at hzl ⊢
                have hd1 : decide (bl < zz) = false := by simp; omega
                have HON : Hid (∀ E', (E < 0 ∨ E' = E) → ∀ wz, Below w10.heap.size w10 wz → Calls Try.prog 18 #[.slice a4 n4 c4, .slice (some ⟨w6.heap.size, 0, none⟩) p p, .int .i64 (i : Int), .int .i64 rf, .int .i64 E'] wz fun e w' => e = .returned (.bool true) ∧ Below wz.heap.size wz w') := Lib.hid (fun E' hE' wz hz => once_any (κ := κ) (P := fun k => (cnt L k : Int)) HOK4.out hin HPG.out (fun e he h4 h1 h2 kk hkk hlt => hone e he (by
                  unfold blkE bhd
                  rw [h4, hkk]
                  simp only [decide_true, Bool.true_and, Bool.and_eq_true, Bool.or_eq_true, decide_eq_true_eq]
                  have : cnt L (i : Int) < cnt L (kk : Int) := by omega
                  refine ⟨h1, ?_, this⟩
                  omega)) _ _ _ _ _ _ (HOP.out.ext (Below.then HBPY.out hz)) (HPL.out.ext (Below.then HBPY.out hz)))
                clear hg hel2 hrel hxz hEF hone hrf hzl hzz hzx
                by_cases hE : E < 0
                · have d1 : decide (E < 0) = true := by simpa using hE
                  have HON := Lib.hid (HON.out (tn : Int) (.inl hE))
                  go_upto_region 29 with fail
                  go_wp2_with (refine wp_region_later_lit (by kernel_rfl) (by kernel_rfl) ?_; (repeat (go_big_quiet_step ((go_at_call 18; exact later_of (HON.out _ (After.below _)))))); refine wpQuiet_nil ?_; intro w11 hb11)
                  go_roundw
                  case rel => exact ⟨k + 1, hkn, by go_num, Below.then HBU.out hb11⟩
                  case measure => simp [intOf]; omega
                · have d1 : decide (E < 0) = false := by simpa using hE
                  have HON := Lib.hid (HON.out E (.inr rfl))
                  go_upto_region 29 with fail
                  go_wp2_with (refine wp_region_later_lit (by kernel_rfl) (by kernel_rfl) ?_; (repeat (go_big_quiet_step ((go_at_call 18; exact later_of (HON.out _ (After.below _)))))); refine wpQuiet_nil ?_; intro w11 hb11)
                  go_roundw
                  case rel => exact ⟨k + 1, hkn, by go_num, Below.then HBU.out hb11⟩
                  case measure => simp [intOf]; omega
              · have hke : k = xn := by omega
                subst hke
                clear hBx
                go_wp2_with fail
                go_roundw
                case rel => exact ⟨i + 1, hin, by go_num, Below.then HBP8.out HB8X.out⟩
                case measure => simp [intOf]; omega
          · clear hB
            go_wp2_with (go_at_call 8; (with_reducible refine (awake_any _).mono ?_); rintro e w9 ⟨rfl, hb9⟩)
            go_ret
            exact ⟨rfl, Below.then (B3.out.trans (HBW.out.mono B3.out.size)) hb9⟩
end Go.Proofs.Ytmahagcghpoekaa
