/- The contracts of Blocking, Raised of the reference. The conditions: the tasks read as named. -/
import Derived.Test.YtabbmnnohnfbeaaTkRef3
namespace Go.Proofs.Ytabbmnnohnfbeaa
open Go.RowKit
set_option linter.unusedSimpArgs false
set_option linter.unusedVariables false
def blkgR (L : List Ta) (t : Int) : Int × Int := if isTk L t then (blockN L t, 0) else (0, 1)
def maxB (L : List Ta) (m : Int) (bs : List P2) : Int := bs.foldl (fun m b => max m (ticksAt L b)) m
theorem maxB_cons (L : List Ta) (m : Int) (b : P2) (bs : List P2) : maxB L m (b :: bs) = maxB L (max m (ticksAt L b)) bs := rfl
theorem rBlockers_is {a : Option Addr} {n c : Nat} {L : List Ta} {t x : Int} {bs : List P2} {w : World} (hL : RdL w a n L) (h : blksR L t = (bs, x)) :
    Calls Try.prog 61 #[.slice a n c, .int .i64 t] w (OutBE w.heap.size w bs x) := by
  have := rBlockers_any a n c L t w hL
  rw [h] at this; exact this
/-- what a blocker says about the tasks in memory -/
theorem RdL.blk {w : World} {a : Option Addr} {n : Nat} {L : List Ta} {t : Int} {b : P2} (h : RdL w a n L) (hb : IsBlk L t b) : ∃ (j k : Nat) (g off pb poff : Nat) (pn pc : Nat) (p : P2), b = ((j : Int), (k : Int)) ∧ j < n ∧ k < pn ∧ a = some ⟨g, off, none⟩ ∧ g < w.heap.size ∧ pb < w.heap.size ∧
    w.cell? ⟨g, off + j * 6 + 5, none⟩ = some (.slice (some ⟨pb, poff, none⟩) pn pc) ∧ w.cell? ⟨pb, poff + k * 2, none⟩ = some (.int .i64 p.1) ∧ w.cell? ⟨pb, poff + k * 2 + 1, none⟩ = some (.int .i64 p.2) ∧ ticksAt L b = p.1 ∧ pn ≤ 9223372036854775807 := by
  obtain ⟨j, hj⟩ := Int.eq_ofNat_of_zero_le hb.j0
  obtain ⟨k, hk⟩ := Int.eq_ofNat_of_zero_le hb.k0
  have hjn : j < n := by have := hb.j1; rw [h.length, hj] at this; omega
  obtain ⟨u, g, off, pa, pn, pc, rfl, hg, c0, c1, c2, c3, c4, c5, hp, _, hget, _⟩ := h.at_ j hjn
  have hkn : k < pn := by
    have := hb.k1
    rw [hj, taAt_of hget, hp.length, hk] at this
    omega
  obtain ⟨p, pb, poff, rfl, hpb, e1, e2, hpg, _⟩ := hp.piece k hkn
  refine ⟨j, k, g, off, pb, poff, pn, pc, p, by rw [← hj, ← hk], hjn, hkn, rfl, hg, hpb, c5, e1, e2, ?_, hp.small⟩
  rw [ticksAt, hj, taAt_of hget, hk, Int.toNat_natCast, hpg]; rfl
set_option maxRecDepth 10000 in
set_option maxHeartbeats 2000000 in
theorem rBlocking_any (a : Option Addr) (n c : Nat) (L : List Ta) (t : Int) (w : World) (hL : RdL w a n L) :
    Calls Try.prog 25 #[.slice a n c, .int .i64 t] w fun e w' => e = rII (blkgR L t).1 (blkgR L t).2 ∧ Below w.heap.size w w' := by
  have hll := hL.length
  have hs := hL.small
  have HR := Lib.hid hL
  unfold blkgR
  cases hv : isTk L t
  · have HV : Hid (blksR L t = ([], 1)) := Lib.hid (by rw [blksR, hv]; rfl)
    clear hL hv
    go_enter Try.func25, Try.ntmps25
    go_wp2_with (go_at_call 61; (with_reducible refine (rBlockers_is HR.out HV.out).mono ?_); rintro e w1 ⟨a1, n1, c1, rfl, ho1, hb1⟩)
    go_ret2
    exact ⟨rII_eq rfl rfl, hb1⟩
  · have HV : Hid (blksR L t = (blockL L t, 0)) := Lib.hid (by rw [blksR, hv]; rfl)
    rw [if_pos rfl]
    obtain ⟨B, hB⟩ : ∃ B, blockL L t = B := ⟨_, rfl⟩
    have HI : Hid (∀ b ∈ B, IsBlk L t b) := Lib.hid (fun b hb => blockL_mem (by rw [hB]; exact hb))
    have hBl : B.length ≤ 40 := by rw [← hB]; exact blockL_len (right_of (isTk_iff.1 hv).1) t
    obtain ⟨R, hR⟩ : ∃ R, blockN L t = R := ⟨_, rfl⟩
    have HA : Hid (maxB L 0 (B.drop 0) = R) := Lib.hid (by rw [← hR, ← hB]; rfl)
    simp only []
    rw [hR]
    rw [hB] at HV
    clear hL hv hB hR
    go_enter Try.func25, Try.ntmps25
    go_wp2_with (go_at_call 61; (with_reducible refine (rBlockers_is HR.out HV.out).mono ?_); rintro e w1 ⟨a1, n1, c1, rfl, ho1, hb1⟩; have HO := Lib.hid (ownsP_rd ho1); have B1 := Lib.hid hb1; have hn1 : B.length = n1 := (ownsP_rd ho1).length; clear ho1 hb1)
    have hn40 : n1 ≤ 40 := by omega
    go_loopw [8, 9] (fun v i wr => ∃ (k : Nat) (m : Int), k ≤ n1 ∧ v = .int .i64 m ∧ i = .int .i64 k ∧ maxB L m (B.drop k) = R ∧ Below w1.heap.size w1 wr) (fun _ i _ => n1 - (intOf i).toNat)
    case atStart => exact ⟨0, 0, Nat.zero_le _, rfl, rfl, HA.out, Below.refl _ _⟩
    case round =>
      clear HA
      obtain ⟨k, m, hk, rfl, rfl, he, hB⟩ := hrel
      have HE := Lib.hid he; have HB := Lib.hid hB
      clear he hB
      by_cases hlt : k < n1
      · obtain ⟨b, g1, off1, rfl, hg1, f1, f2, hbg, HD⟩ := (HO.out.ext HB.out).piece k hlt
        obtain ⟨j, i, g, off, pb, poff, pn, pc, p, rfl, hj, hi, rfl, hg, hpb, d5, d1, d2, ht, hps⟩ := ((HR.out.ext B1.out).ext HB.out).blk (HI.out b (List.mem_of_getElem? hbg))
        have hE := HE.out
        rw [HD.out, maxB_cons, ht] at hE
        obtain ⟨x, hx⟩ : ∃ x, p.1 = x := ⟨_, rfl⟩
        rw [hx] at hE d1
        simp only [] at f1 f2
        have HE2 := Lib.hid hE
        clear hbg HD ht hE hx
        go_wp2_with (refine wp_region_later_lit (by kernel_rfl) (by kernel_rfl) ?_; (repeat (go_big_quiet_step (fail))); refine wpQuiet_nil ?_; intro w3 hb3)
        go_roundw
        case rel => exact ⟨k + 1, max m x, by omega, rfl, by go_num, HE2.out, Below.then HB.out hb3⟩
        case measure => simp [intOf]; omega
      · have hE := HE.out
        rw [List.drop_of_length_le (by omega)] at hE
        obtain rfl : m = R := hE
        go_wp2
        go_ret2
        exact ⟨rII_eq rfl rfl, Below.then B1.out HB.out⟩
/-- what Raised gives -/
def raisedR (L : List Ta) (t p : Int) : Int × Int :=
  if isTk L t && inB p 0 (((taAt L t).pcs.length : Int) - 1) then
    (if ((((taAt L t).pcs)[p.toNat]?).getD default).2 < 0 then t else ceilG L ((((taAt L t).pcs)[p.toNat]?).getD default).2, 0)
  else (0, 1)
end Go.Proofs.Ytabbmnnohnfbeaa
