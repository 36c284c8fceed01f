/- The contracts of Blocking, Raised of the reference. The conditions: the tasks read as named. -/
import Derived.Test.YtlhnhmimhpcoaaaTkRef3
namespace Go.Proofs.Ytlhnhmimhpcoaaa
open Go.RowKit
set_option linter.unusedSimpArgs false
set_option linter.unusedVariables false
def blkgR (L : List Ta) (t : Int) : Int × Int := if isTk L t then (blockN L t, 0) else (0, 1)
def maxB (L : List Ta) (m : Int) (bs : List P2) : Int := bs.foldl (fun m b => max m (ticksAt L b)) m
theorem maxB_cons (L : List Ta) (m : Int) (b : P2) (bs : List P2) : maxB L m (b :: bs) = maxB L (max m (ticksAt L b)) bs := rfl
/-- what a blocker says about the tasks in memory -/
theorem RdL.blk {w : World} {a : Option Addr} {n : Nat} {L : List Ta} {t : Int} {b : P2} (h : RdL w a n L) (hb : IsBlk L t b) : ∃ (j k : Nat) (g off pb poff : Nat) (pn pc : Nat) (p : P2), b = ((j : Int), (k : Int)) ∧ j < n ∧ k < pn ∧ a = some ⟨g, off, none⟩ ∧ g < w.heap.size ∧ pb < w.heap.size ∧
    w.cell? ⟨g, off + j * 6 + 5, none⟩ = some (.slice (some ⟨pb, poff, none⟩) pn pc) ∧ w.cell? ⟨pb, poff + k * 2, none⟩ = some (.int .i64 p.1) ∧ w.cell? ⟨pb, poff + k * 2 + 1, none⟩ = some (.int .i64 p.2) ∧ ticksAt L b = p.1 ∧ pn ≤ 9223372036854775807 := by
  obtain ⟨j, hj⟩ := Int.eq_ofNat_of_zero_le hb.j0
  obtain ⟨k, hk⟩ := Int.eq_ofNat_of_zero_le hb.k0
  have hjn : j < n := by have := hb.j1; rw [h.length, hj] at this; omega
  obtain ⟨u, g, off, pa, pn, pc, rfl, hg, c0, c1, c2, c3, c4, c5, hp, _, hget, _⟩ := h.at_ j hjn
  have hkn : k < pn := by
    have := hb.k1
    rw [hj, taAt_of hget, hp.length, hk] at this
    omega
  obtain ⟨p, pb, poff, rfl, hpb, e1, e2, hpg, _⟩ := hp.piece k hkn
  refine ⟨j, k, g, off, pb, poff, pn, pc, p, by rw [← hj, ← hk], hjn, hkn, rfl, hg, hpb, c5, e1, e2, ?_, hp.small⟩
  rw [ticksAt, hj, taAt_of hget, hk, Int.toNat_natCast, hpg]; rfl
/-- what Raised gives -/
def raisedR (L : List Ta) (t p : Int) : Int × Int :=
  if isTk L t && inB p 0 (((taAt L t).pcs.length : Int) - 1) then
    (if ((((taAt L t).pcs)[p.toNat]?).getD default).2 < 0 then t else ceilG L ((((taAt L t).pcs)[p.toNat]?).getD default).2, 0)
  else (0, 1)
set_option maxRecDepth 10000 in
set_option maxHeartbeats 2000000 in
theorem rRaised_any (a : Option Addr) (n c : Nat) (L : List Ta) (t p : Int) (w : World) (hL : RdL w a n L) :
    Calls Try.prog 25 #[.slice a n c, .int .i64 t, .int .i64 p] w fun e w' => e = rII (raisedR L t p).1 (raisedR L t p).2 ∧ Below w.heap.size w w' := by
  have hll := hL.length
  have hs := hL.small
  have HR := Lib.hid hL
  unfold raisedR isTk
  rw [hll]
  cases hv : rightB L
  · have HV := Lib.hid hv
    rw [Bool.false_and, Bool.false_and]
    clear hL hv hll
    go_enter Try.func25, Try.ntmps25
    go_wp2_with (go_at_call 67; (with_reducible refine (rTasks_is HR.out HV.out).mono ?_); rintro e w1 ⟨rfl, hb1⟩; have B1 := Lib.hid hb1; clear hb1)
    go_ret2
    exact ⟨rII_eq rfl rfl, B1.out⟩
  · have HV := Lib.hid hv
    rw [Bool.true_and]
    by_cases h0 : t < 0
    · rw [if_neg (by rw [Bool.and_eq_true, inB_iff]; omega)]
      clear hL hv hll
      go_enter Try.func25, Try.ntmps25
      go_wp2_with (go_at_call 67; (with_reducible refine (rTasks_is HR.out HV.out).mono ?_); rintro e w1 ⟨rfl, hb1⟩; have B1 := Lib.hid hb1; clear hb1)
      go_ret2
      exact ⟨rII_eq rfl rfl, B1.out⟩
    · have h0' : decide (t < 0) = false := by simpa using h0
      by_cases h1 : (n : Int) ≤ t
      · rw [if_neg (by rw [Bool.and_eq_true, inB_iff]; omega)]
        clear hL hv hll
        go_enter Try.func25, Try.ntmps25
        go_wp2_with (go_at_call 67; (with_reducible refine (rTasks_is HR.out HV.out).mono ?_); rintro e w1 ⟨rfl, hb1⟩; have B1 := Lib.hid hb1; clear hb1)
        go_ret2
        exact ⟨rII_eq rfl rfl, B1.out⟩
      · obtain ⟨q, rfl⟩ := Int.eq_ofNat_of_zero_le (Int.not_lt.1 h0)
        have hqn : q < n := by omega
        have h1' : decide ((n : Int) ≤ (q : Int)) = false := by simpa using h1
        have h1'' : decide (n ≤ q) = false := by simp; omega
        obtain ⟨u, b, off, pa, pn, pc, rfl, hb, _, _, _, _, _, c5, hp, _, hg, _⟩ := hL.at_ q hqn
        rw [taAt_of hg, hp.length, show inB (q : Int) 0 ((n : Int) - 1) = true from inB_iff.2 (by omega), Bool.true_and]
        have hps := hp.small
        have C5 : Hid (∀ w1 : World, Below w.heap.size w w1 → w1.cell? ⟨b, off + q * 6 + 5, none⟩ = some (.slice pa pn pc)) := Lib.hid (fun w1 h => (h.cell (p := ⟨b, off + q * 6 + 5, none⟩) hb).trans c5)
        by_cases h2 : p < 0
        · rw [if_neg (by rw [inB_iff]; omega)]
          clear hL hv hll hg hp c5
          go_enter Try.func25, Try.ntmps25
          go_wp2_with (go_at_call 67; (with_reducible refine (rTasks_is HR.out HV.out).mono ?_); rintro e w1 ⟨rfl, hb1⟩; have B1 := Lib.hid hb1; have c5 := C5.out _ hb1; clear hb1)
          go_ret2
          exact ⟨rII_eq rfl rfl, B1.out⟩
        · have h2' : decide (p < 0) = false := by simpa using h2
          by_cases h3 : (pn : Int) ≤ p
          · rw [if_neg (by rw [inB_iff]; omega)]
            clear hL hv hll hg hp c5
            go_enter Try.func25, Try.ntmps25
            go_wp2_with (go_at_call 67; (with_reducible refine (rTasks_is HR.out HV.out).mono ?_); rintro e w1 ⟨rfl, hb1⟩; have B1 := Lib.hid hb1; have c5 := C5.out _ hb1; clear hb1)
            go_ret2
            exact ⟨rII_eq rfl rfl, B1.out⟩
          · obtain ⟨j, rfl⟩ := Int.eq_ofNat_of_zero_le (Int.not_lt.1 h2)
            have hjn : j < pn := by omega
            have h3' : decide ((pn : Int) ≤ (j : Int)) = false := by simpa using h3
            have h3'' : decide (pn ≤ j) = false := by simp; omega
            obtain ⟨v, b1, off1, rfl, hb1, e1, e2, hpg, _⟩ := hp.piece j hjn
            rw [if_pos (by rw [inB_iff]; omega), Int.toNat_natCast, hpg]
            obtain ⟨y, hy⟩ : ∃ y, v.2 = y := ⟨_, rfl⟩
            have E2 : Hid (∀ w1 : World, Below w.heap.size w w1 → w1.cell? ⟨b1, off1 + j * 2 + 1, none⟩ = some (.int .i64 y)) := Lib.hid (fun w1 h => (h.cell (p := ⟨b1, off1 + j * 2 + 1, none⟩) hb1).trans (by rw [← hy]; exact e2))
            simp only [Option.getD_some]
            rw [hy]
            clear hL hv hll hg hp c5 e1 e2 hpg hy
            by_cases h4 : y < 0
            · rw [if_pos h4]
              go_enter Try.func25, Try.ntmps25
              go_wp2_with (go_at_call 67; (with_reducible refine (rTasks_is HR.out HV.out).mono ?_); rintro e w1 ⟨rfl, hb1⟩; have B1 := Lib.hid hb1; have c5 := C5.out _ hb1; have c6 := E2.out _ hb1; clear hb1)
              go_ret2
              exact ⟨rII_eq rfl rfl, B1.out⟩
            · have h4' : decide (y < 0) = false := by simpa using h4
              rw [if_neg h4]
              obtain ⟨x, hx⟩ : ∃ x, ceilG L y = x := ⟨_, rfl⟩
              have HX := Lib.hid hx
              rw [hx]
              clear hx
              go_enter Try.func25, Try.ntmps25
              go_wp2_with (first
                | (go_at_call 67; (with_reducible refine (rTasks_is HR.out HV.out).mono ?_); rintro e w1 ⟨rfl, hb1⟩; have B1 := Lib.hid hb1; have c5 := C5.out _ hb1; have c6 := E2.out _ hb1; clear hb1)
                | (go_at_call 69; (with_reducible refine (rCeil_is (HR.out.ext B1.out) HX.out).mono ?_); rintro e w2 ⟨rfl, hb2⟩; have B2 := Lib.hid hb2; clear hb2))
              go_ret2
              exact ⟨rII_eq rfl rfl, Below.then B1.out B2.out⟩
end Go.Proofs.Ytlhnhmimhpcoaaa
