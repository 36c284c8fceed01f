/- The contracts of Demand of response and of its reference. The conditions: the tasks read as named. -/
import Derived.Test.YtabbmnnohnfbeaaRsTop
namespace Go.Proofs.Ytabbmnnohnfbeaa
open Go.RowKit
set_option linter.unusedSimpArgs false
set_option linter.unusedVariables false
set_option maxRecDepth 10000 in
set_option maxHeartbeats 2000000 in
theorem Demand_any (a : Option Addr) (n c : Nat) (L : List Ta) (t v : Int) (w : World) (hL : RdL w a n L) :
    Calls Try.prog 31 #[.slice a n c, .int .i64 t, .int .i64 v] w fun e w' => e = rII (demR L t v).1 (demR L t v).2 ∧ Below w.heap.size w w' := by
  have hll := hL.length
  have hsm := hL.small
  have HR := Lib.hid hL
  unfold demR inT
  rw [hll]
  cases ho : validL L
  · have HO := Lib.hid ho
    rw [Bool.false_and, Bool.false_and]
    clear hL hll ho
    go_enter Try.func31, Try.ntmps31
    go_wp2_with (go_at_call 33; (with_reducible refine (valid_is HR.out HO.out).mono ?_); rintro e w1 ⟨rfl, hb1⟩; have B1 := Lib.hid hb1; clear hb1)
    go_ret2
    exact ⟨rII_eq rfl rfl, B1.out⟩
  · have HO := Lib.hid ho
    rw [Bool.true_and]
    by_cases h0 : t < 0
    · rw [if_neg (by rw [Bool.and_eq_true, inB_iff]; omega)]
      clear hL hll ho
      go_enter Try.func31, Try.ntmps31
      go_wp2_with (go_at_call 33; (with_reducible refine (valid_is HR.out HO.out).mono ?_); rintro e w1 ⟨rfl, hb1⟩; have B1 := Lib.hid hb1; clear hb1)
      go_ret2
      exact ⟨rII_eq rfl rfl, B1.out⟩
    · have h0' : decide (t < 0) = false := by simpa using h0
      by_cases h1 : (n : Int) ≤ t
      · rw [if_neg (by rw [Bool.and_eq_true, inB_iff]; omega)]
        clear hL hll ho
        go_enter Try.func31, Try.ntmps31
        go_wp2_with (go_at_call 33; (with_reducible refine (valid_is HR.out HO.out).mono ?_); rintro e w1 ⟨rfl, hb1⟩; have B1 := Lib.hid hb1; clear hb1)
        go_ret2
        exact ⟨rII_eq rfl rfl, B1.out⟩
      · obtain ⟨q, rfl⟩ := Int.eq_ofNat_of_zero_le (Int.not_lt.1 h0)
        have hq : q < n := by omega
        have h1' : decide ((n : Int) ≤ (q : Int)) = false := by simpa using h1
        have h1'' : decide (n ≤ q) = false := by simp; omega
        rw [show inB (q : Int) 0 ((n : Int) - 1) = true from inB_iff.2 (by omega), Bool.true_and]
        by_cases h2 : v < 0
        · rw [if_neg (by rw [inB_iff]; omega)]
          clear hL hll ho
          go_enter Try.func31, Try.ntmps31
          go_wp2_with (go_at_call 33; (with_reducible refine (valid_is HR.out HO.out).mono ?_); rintro e w1 ⟨rfl, hb1⟩; have B1 := Lib.hid hb1; clear hb1)
          go_ret2
          exact ⟨rII_eq rfl rfl, B1.out⟩
        · have h2' : decide (v < 0) = false := by simpa using h2
          by_cases h3 : 1000000 < v
          · rw [if_neg (by rw [inB_iff]; omega)]
            clear hL hll ho
            go_enter Try.func31, Try.ntmps31
            go_wp2_with (go_at_call 33; (with_reducible refine (valid_is HR.out HO.out).mono ?_); rintro e w1 ⟨rfl, hb1⟩; have B1 := Lib.hid hb1; clear hb1)
            go_ret2
            exact ⟨rII_eq rfl rfl, B1.out⟩
          · have h3' : decide (1000000 < v) = false := by simpa using h3
            rw [if_pos (by rw [inB_iff]; omega)]
            have HV := Lib.hid (valid_of ho)
            obtain ⟨x, hx⟩ : ∃ x, demN L q v = x := ⟨_, rfl⟩
            have HX := Lib.hid hx
            rw [hx]
            clear hL hll ho hx
            go_enter Try.func31, Try.ntmps31
            go_wp2_with (first
              | (go_at_call 33; (with_reducible refine (valid_is HR.out HO.out).mono ?_); rintro e w1 ⟨rfl, hb1⟩; have B1 := Lib.hid hb1; clear hb1)
              | (go_at_call 70; (with_reducible refine (demand_any _ _ _ q L _ (HR.out.ext B1.out) HV.out hq).mono ?_); rintro e w2 ⟨o, h, b, rfl, hc, hb2⟩; have HC := Lib.hid hc; have B2 := Lib.hid hb2; clear hb2 hc)
              | (go_at_call 109; (with_reducible refine (demf_is HV.out hq HC.out ⟨by omega, by omega⟩ HX.out).mono ?_); rintro e w3 ⟨rfl, hb3⟩; have B3 := Lib.hid hb3; clear hb3))
            go_ret2
            exact ⟨rII_eq rfl rfl, (by repeat (first | (with_reducible exact Below.refl _ _) | (refine Below.then ?_ (Hid.out (by with_reducible assumption)))))⟩
set_option maxRecDepth 10000 in
set_option maxHeartbeats 2000000 in
theorem rDemand_any (a : Option Addr) (n c : Nat) (L : List Ta) (t v : Int) (w : World) (hL : RdL w a n L) :
    Calls Try.prog 32 #[.slice a n c, .int .i64 t, .int .i64 v] w fun e w' => e = rII (demR L t v).1 (demR L t v).2 ∧ Below w.heap.size w w' := by
  have hll := hL.length
  have HR := Lib.hid hL
  unfold demR
  cases ho : (validL L && inT L t)
  · have HC : Hid (costR L t = (0, 1)) := Lib.hid (by rw [costR, ho]; rfl)
    rw [Bool.false_and]
    clear hL hll ho
    go_enter Try.func32, Try.ntmps32
    go_wp2_with (go_at_call 24; (with_reducible refine (rCost_is HR.out HC.out).mono ?_); rintro e w1 ⟨rfl, hb1⟩; have B1 := Lib.hid hb1; clear hb1)
    go_ret2
    exact ⟨rII_eq rfl rfl, B1.out⟩
  · have HC : Hid (costR L t = (costT (taAt L t), 0)) := Lib.hid (by rw [costR, ho]; rfl)
    rw [Bool.true_and]
    rw [Bool.and_eq_true, inT_iff] at ho
    obtain ⟨q, rfl⟩ := Int.eq_ofNat_of_zero_le ho.2.1
    have hq : q < n := by omega
    have HV := Lib.hid (valid_of ho.1)
    by_cases h2 : v < 0
    · rw [if_neg (by rw [inB_iff]; omega)]
      clear hL hll ho
      go_enter Try.func32, Try.ntmps32
      go_wp2_with (go_at_call 24; (with_reducible refine (rCost_is HR.out HC.out).mono ?_); rintro e w1 ⟨rfl, hb1⟩; have B1 := Lib.hid hb1; clear hb1)
      go_ret2
      exact ⟨rII_eq rfl rfl, B1.out⟩
    · have h2' : decide (v < 0) = false := by simpa using h2
      by_cases h3 : 1000000 < v
      · rw [if_neg (by rw [inB_iff]; omega)]
        clear hL hll ho
        go_enter Try.func32, Try.ntmps32
        go_wp2_with (go_at_call 24; (with_reducible refine (rCost_is HR.out HC.out).mono ?_); rintro e w1 ⟨rfl, hb1⟩; have B1 := Lib.hid hb1; clear hb1)
        go_ret2
        exact ⟨rII_eq rfl rfl, B1.out⟩
      · have h3' : decide (1000000 < v) = false := by simpa using h3
        rw [if_pos (by rw [inB_iff]; omega)]
        obtain ⟨x, hx⟩ : ∃ x, demN L q v = x := ⟨_, rfl⟩
        have HX := Lib.hid hx
        rw [hx]
        clear hL hll ho hx
        go_enter Try.func32, Try.ntmps32
        go_wp2_with (first
          | (go_at_call 24; (with_reducible refine (rCost_is HR.out HC.out).mono ?_); rintro e w1 ⟨rfl, hb1⟩; have B1 := Lib.hid hb1; clear hb1)
          | (go_at_call 71; (with_reducible refine (rdem_is (HR.out.ext B1.out) HV.out hq ⟨by omega, by omega⟩ HX.out).mono ?_); rintro e w2 ⟨rfl, hb2⟩; have B2 := Lib.hid hb2; clear hb2))
        go_ret2
        exact ⟨rII_eq rfl rfl, (by repeat (first | (with_reducible exact Below.refl _ _) | (refine Below.then ?_ (Hid.out (by with_reducible assumption)))))⟩
theorem Demand_is {a : Option Addr} {n c : Nat} {L : List Ta} {t v x e : Int} {w : World} (hL : RdL w a n L) (h : demR L t v = (x, e)) :
    Calls Try.prog 31 #[.slice a n c, .int .i64 t, .int .i64 v] w fun en w' => en = rII x e ∧ Below w.heap.size w w' := by
  have := Demand_any a n c L t v w hL
  rw [h] at this; exact this
theorem rDemand_is {a : Option Addr} {n c : Nat} {L : List Ta} {t v x e : Int} {w : World} (hL : RdL w a n L) (h : demR L t v = (x, e)) :
    Calls Try.prog 32 #[.slice a n c, .int .i64 t, .int .i64 v] w fun en w' => en = rII x e ∧ Below w.heap.size w w' := by
  have := rDemand_any a n c L t v w hL
  rw [h] at this; exact this
end Go.Proofs.Ytabbmnnohnfbeaa
