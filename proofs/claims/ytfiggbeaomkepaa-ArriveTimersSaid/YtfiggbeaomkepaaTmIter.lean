/- The iterator alarms$1, told of the loop's invariant. The conditions: clock and period as named; no more than 40 alarms have come between two rounds. -/
import Derived.Test.YtfiggbeaomkepaaRfLaw
import Derived.Test.YtfiggbeaomkepaaTmPure
import Derived.Shelf.Abstract
import Derived.Shelf.RegionOpen
import Derived.WalkKit
import Derived.OwnWalkIn
import Derived.TacticsInMore
import Derived.LoopNIn
import Derived.LoopIn
import Derived.Deep.Cut
import Derived.Deep.RegionHeld3
namespace Go.Proofs.Ytfiggbeaomkepaa
open Go.RowKit Go.Shelf
set_option linter.unusedSimpArgs false
set_option linter.unusedVariables false
attribute [local go_sem] Oper.semAt_some
/-- the cells that the iterator has captured -/
structure ClkC (o a d n : Int) (p q : Nat) (w : World) : Prop where
  c0 : w.cell? ⟨p, 0, none⟩ = some (.int .i64 o)
  c1 : w.cell? ⟨p, 1, none⟩ = some (.int .i64 a)
  c2 : w.cell? ⟨p, 2, none⟩ = some (.int .i64 d)
  cq : w.cell? ⟨q, 0, none⟩ = some (.int .i64 n)
  hp : p < w.heap.size
  hq : q < w.heap.size
theorem ClkC.kept {o a d n : Int} {p q : Nat} {w w' : World} (h : ClkC o a d n p q w) (k : Kp2 p q w w') : ClkC o a d n p q w' :=
  ⟨(cell_heap k.hp).trans h.c0, (cell_heap k.hp).trans h.c1, (cell_heap k.hp).trans h.c2, (cell_heap k.hq).trans h.cq, Nat.lt_of_lt_of_le h.hp k.z, Nat.lt_of_lt_of_le h.hq k.z⟩
theorem ClkC.ext {o a d n : Int} {p q : Nat} {w w' : World} (h : ClkC o a d n p q w) (k : Below w.heap.size w w') : ClkC o a d n p q w' :=
  h.kept (Kp2.below k h.hp h.hq (Nat.le_refl _))
/-- what the iterator hands over before a round says no more -/
def SpT (o a d n : Int) (pre : List Int) : Prop := ∃ k : Nat, atT o a d n k ≠ lastT o a d n k ∧ pre = preT o a d n k ++ [atT o a d n k]
theorem when_is {o a d n x : Int} {k : Nat} (h : TmOk o a d n) (hl : (preT o a d n k).length ≤ 40) (hx : atT o a d n k = x) (w : World) :
    Calls Try.prog 50 #[patV o a d, .int .i64 (rdT o n k)] w fun e w' => e = .returned (.int .i64 x) ∧ Below w.heap.size w w' := by
  subst hx
  have := h.bound hl
  exact when_any o a d (rdT o n k) w h.v (by omega) (by omega)
theorem abides_below {B : Nat} {α : Type} {J : List α → World → Prop} (h : AbidesFrom B J) {pre : List α} {V V' : World} (hJ : J pre V) (k : Below V.heap.size V V') : J pre V' :=
  h pre V V' none hJ ⟨k.os, k.tape, k.output, k.size, fun j hj _ => k.block j hj⟩ (fun r e => by cases e)
set_option maxRecDepth 100000 in
set_option maxHeartbeats 4000000 in
theorem alarms1_told {o a d n : Int} (h : TmOk o a d n) (p q m : Nat) {w : World} (hc : ClkC o a d n p q w) {I : List Int → World → Prop} (hI : ∀ pre V, I pre V → pre.length ≤ 40) :
    Told Fence.wide m Try.prog 74 #[.pointer (some ⟨p, 0, none⟩), .pointer (some ⟨q, 0, none⟩)] (fun x : Int => #[Value.int .i64 x]) (Kp2 p q) I (SpT o a d n) w := fun l J Jx W hW hJI hJ hY h0 => by
  refine callsIn_wide.2 ?_
  have hcW := hc.ext hW
  have HC := Lib.hid hcW
  have HO := Lib.hid h
  obtain ⟨x0, x1, x2, xq, zp, zq⟩ := hcW
  obtain ⟨vo, va, vd⟩ := vclk_iff.1 h.v
  have hn := h.n
  have hbase := h.base
  have wb1 : IntKind.i64.wrap (o / n + 1) = o / n + 1 := IntWalk.i64_in _ (by have := ediv_bd (a := o) (b := n) (m := 1000000) (by omega) (by omega) (by omega) (by omega); omega)
  have wb2 : IntKind.i64.wrap ((o / n + 1) * n) = rdT o n 0 := by unfold rdT; rw [show baseT o n = (o / n + 1) * n from rfl] at *; rw [IntWalk.i64_in _ (by omega)]; simp
  have HF := Lib.hid (fun w1 => floor_any o n w1 (by omega) (by omega) (by omega))
  have HJ := Lib.hid hJ; have HY := Lib.hid hY; have HJI := Lib.hid hJI; have HJ0 := Lib.hid h0; have HII := Lib.hid hI
  clear hJ hY hJI h0 hc hI hW
  go_enter Try.func74, Try.ntmps74
  go_wp2_with (refine wp_region_later_lit (by kernel_rfl) (by kernel_rfl) ?_; (repeat (go_big_quiet_step ((go_at_call 65; exact later_same (HF.out _))))); refine wpQuiet_nil ?_; intro w1 hb1)
  go_loopw [4, 5] (fun v4 v5 wr => ∃ k : Nat, v4 = .int .i64 (lastT o a d n k) ∧ v5 = .int .i64 (rdT o n k) ∧ J (preT o a d n k) wr ∧ Kp2 p q W wr) (fun _ v _ => (2000000 - intOf v).toNat)
  case atStart => exact ⟨0, rfl, rfl, abides_below HJ.out HJ0.out hb1, Kp2.below hb1 zp zq (Nat.le_refl _)⟩
  case round =>
    obtain ⟨k, rfl, rfl, hJk, hK⟩ := hrel
    have hlen := HII.out _ _ (HJI.out _ _ hJk)
    have hbd := HO.out.bound hlen
    have hcc := HC.out.kept hK
    have HKK := Lib.hid hK
    have HCC := Lib.hid hcc
    clear x0 x1 x2 xq zp zq
    obtain ⟨x0, x1, x2, xq, zp, zq⟩ := hcc
    obtain ⟨L, hL⟩ : ∃ L, lastT o a d n k = L := ⟨_, rfl⟩
    obtain ⟨x, hx⟩ : ∃ x, atT o a d n k = x := ⟨_, rfl⟩
    have HWH := Lib.hid (fun w1 => (when_is HO.out hlen hx w1 : Calls Try.prog 50 #[.agg #[.int .i64 o, .int .i64 a, .int .i64 d], .int .i64 (rdT o n k)] w1 fun e w' => e = .returned (.int .i64 x) ∧ Below w1.heap.size w1 w'))
    have hsc := rdT_succ (o := o) (n := n) k
    obtain ⟨rd, hrd⟩ : ∃ r, rdT o n k = r := ⟨_, rfl⟩
    rw [hL]
    rw [hrd] at HWH hbd hsc ⊢
    have wsc : IntKind.i64.wrap (rd + n) = rd + n := IntWalk.i64_in _ (by omega)
    have HSC := Lib.hid hsc; have HL := Lib.hid hL; have HX := Lib.hid hx; have HRD := Lib.hid hrd; have HJK := Lib.hid hJk
    clear hsc hL hx hrd hJk hK hlen HC HJ0 HF wb1 wb2 hb1
    by_cases hne : x = L
    · have e1 : (x != L) = false := by simpa using hne
      go_wp2_with (go_at_call 50; (with_reducible refine (HWH.out _).mono ?_); rintro e w2 ⟨rfl, hb2⟩; have x3 := (hb2.cell (p := ⟨q, 0, none⟩) zq).trans xq; have z3 := Nat.lt_of_lt_of_le zq hb2.size)
      go_roundw
      case rel => exact ⟨k + 1, by show _ = Value.int .i64 (atT o a d n k); rw [HX.out, hne], by rw [HSC.out], by rw [preT_same (by rw [HX.out, HL.out]; exact hne)]; exact abides_below HJ.out HJK.out hb2, HKK.out.trans (Kp2.below hb2 HCC.out.hp HCC.out.hq (Nat.le_refl _))⟩
      case measure => simp [intOf]; omega
    · have e1 : (x != L) = true := by simpa using hne
      go_upto_region 4 with (go_at_call 50; (with_reducible refine (HWH.out _).mono ?_); rintro e w2 ⟨rfl, hb2⟩)
      have hJ2 := abides_below HJ.out HJK.out hb2
      obtain ⟨fn, tmps, assign, body, hy, hR⟩ := HY.out (preT o a d n k) x w2 hJ2
      refine (wpIn_wide (n := m)).1 ?_
      gi_wp2
      refine ⟨fun hh => (by cases hh), hR.mono ?_⟩
      rintro e W3 (⟨rfl, hJ3, hk3⟩ | ⟨rfl, hx3⟩)
      · have hK3 := HKK.out.trans ((Kp2.below hb2 HCC.out.hp HCC.out.hq (Nat.le_refl _)).trans hk3)
        have hc3 := (HCC.out.ext hb2).kept hk3
        have x3 := hc3.cq
        have z3 := hc3.hq
        have hJ4 : J (preT o a d n (k + 1)) W3 := by rw [preT_new (by rw [HX.out, HL.out]; exact hne), HX.out]; exact hJ3
        have HJ4 := Lib.hid hJ4; have HK3 := Lib.hid hK3
        clear hJ3 hk3 hK3 hc3 hJ4 hR hy hJ2 hb2
        gi_wp2
        go_wp2_with fail
        go_roundw
        case rel => exact ⟨k + 1, by show _ = Value.int .i64 (atT o a d n k); rw [HX.out], by rw [HSC.out], HJ4.out, HK3.out⟩
        case measure => simp [intOf]; omega
      · gi_wp2
        go_wp2_with fail
        refine bodyPost_ret (results_none rfl _ _ _) rfl ?_
        exact ⟨⟨_, rfl⟩, _, ⟨k, by rw [HX.out, HL.out]; exact hne, rfl⟩, by rw [HX.out]; exact hx3⟩
end Go.Proofs.Ytfiggbeaomkepaa
