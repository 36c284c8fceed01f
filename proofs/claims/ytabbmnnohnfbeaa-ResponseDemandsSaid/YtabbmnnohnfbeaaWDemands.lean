/- The walk of ResponseDemands: it returns true. The conditions: the tasks read as named; their lists are no longer than memory bears. -/
import Derived.Test.YtabbmnnohnfbeaaRsTop3
import Derived.Test.YtabbmnnohnfbeaaRsEq
import Derived.Test.YtabbmnnohnfbeaaTkCopy
namespace Go.Proofs.Ytabbmnnohnfbeaa
open Go.RowKit
set_option linter.unusedSimpArgs false
set_option linter.unusedVariables false
theorem demR_ok {L : List Ta} {t v y : Int} (h : demR L t v = (y, 0)) : validL L = true ∧ inT L t = true ∧ 0 ≤ v ∧ v ≤ 1000000 ∧ y = demN L t v := by
  unfold demR at h
  split at h
  · rename_i hc
    simp only [Bool.and_eq_true] at hc
    have := inB_iff.1 hc.2
    simp at h
    exact ⟨hc.1.1, hc.1.2, this.1, this.2, h.symm⟩
  · simp at h
theorem demR_next {L : List Ta} {t v y z g : Int} (h : demR L t v = (y, 0)) (hv : v < 1000000) (hz : demR L t (v + 1) = (z, g)) : g = 0 ∧ y ≤ z := by
  obtain ⟨h1, h2, h3, h4, rfl⟩ := demR_ok h
  have hb : inB (v + 1) 0 1000000 = true := inB_iff.2 (by omega)
  unfold demR at hz
  rw [h1, h2, hb] at hz
  simp at hz
  obtain ⟨rfl, rfl⟩ := hz
  exact ⟨rfl, demN_mono (valid_of h1) h3 (by omega)⟩
set_option maxRecDepth 10000 in
set_option maxHeartbeats 8000000 in
theorem demands_walk {w : World} (a : Option Addr) (n c : Nat) (L : List Ta) (hL : RdL w a n L) (hT : ∀ t ∈ L, t.pcs.length ≤ 281474976710656) (hN : NilOk a n c) (t : Int) (ht : -9223372036854775808 ≤ t ∧ t ≤ 9223372036854775807) (v : Int) (hv : -9223372036854775808 ≤ v ∧ v ≤ 9223372036854775807) :
    Calls Try.prog 6 #[.slice a n c, .int .i64 t, .int .i64 v] w fun e w' => e = .returned (.bool true) ∧ Below w.heap.size w w' := by
  have HM := Lib.hid (many_any a n c L w hL hT)
  have HR := Lib.hid hL
  cases hm : manyL n L
  · rw [hm] at HM
    obtain ⟨hn4, hP⟩ := Many_no hm
    have HP := Lib.hid hP
    have HN := Lib.hid hN
    obtain ⟨cx, ce, hc⟩ : ∃ x e, costR L t = (x, e) := ⟨_, _, rfl⟩
    obtain ⟨y, f, hd⟩ : ∃ x e, demR L t v = (x, e) := ⟨_, _, rfl⟩
    obtain ⟨b, hb⟩ : ∃ b, validL L = b := ⟨_, rfl⟩
    have HC := Lib.hid hc
    have HD := Lib.hid hd
    have HV := Lib.hid hb
    by_cases hf : f = 0
    · subst hf
      by_cases h1 : v < 1000000
      · obtain ⟨z, g, hz⟩ : ∃ x e, demR L t (v + 1) = (x, e) := ⟨_, _, rfl⟩
        obtain ⟨rfl, hyz⟩ := demR_next hd h1 hz
        have HZ := Lib.hid hz
        have h1' : decide (v < 1000000) = true := by simpa using h1
        have hyz' : decide (z < y) = false := by simp; omega
        have hwr : IntKind.i64.wrap (v + 1) = v + 1 := IntWalk.i64_in _ (by omega)
        clear hL hT hN hm hP hc hd hb hz
        go_enter Try.func6, Try.ntmps6
        go_wp2_with (first
          | (go_at_call 15; refine (HM.out).mono ?_; rintro e w1 ⟨rfl, rfl⟩)
          | (go_at_call 29; (with_reducible refine (copied_T _ _ _ L (by omega) HP.out _ HR.out HN.out).mono ?_); rintro e w1 ⟨a1, c1, rfl, ho1, hb1⟩; have HK := Lib.hid ho1; have B1 := Lib.hid hb1; clear ho1 hb1)
          | (go_at_call 30; (with_reducible refine (Cost_is HK.out HC.out).mono ?_); rintro e w2 ⟨rfl, hb2⟩; have B2 := Lib.hid hb2; clear hb2)
          | (go_at_call 24; (with_reducible refine (rCost_is (HR.out.ext (by repeat (first | (with_reducible exact Below.refl _ _) | (refine Below.then ?_ (Hid.out (by with_reducible assumption)))))) HC.out).mono ?_); rintro e w3 ⟨rfl, hb3⟩; have B3 := Lib.hid hb3; clear hb3)
          | (go_at_call 31; (with_reducible refine (Demand_is (HK.out.ext (by repeat (first | (with_reducible exact Below.refl _ _) | (refine Below.then ?_ (Hid.out (by with_reducible assumption)))))) HD.out).mono ?_); rintro e w4 ⟨rfl, hb4⟩; have B4 := Lib.hid hb4; clear hb4)
          | (go_at_call 32; (with_reducible refine (rDemand_is (HR.out.ext (by repeat (first | (with_reducible exact Below.refl _ _) | (refine Below.then ?_ (Hid.out (by with_reducible assumption)))))) HD.out).mono ?_); rintro e w5 ⟨rfl, hb5⟩; have B5 := Lib.hid hb5; clear hb5)
          | (go_at_call 33; (with_reducible refine (valid_is (HK.out.ext (by repeat (first | (with_reducible exact Below.refl _ _) | (refine Below.then ?_ (Hid.out (by with_reducible assumption)))))) HV.out).mono ?_); rintro e w6 ⟨rfl, hb6⟩; have B6 := Lib.hid hb6; clear hb6)
          | (go_at_call 34; (with_reducible refine (rValid_is (HR.out.ext (by repeat (first | (with_reducible exact Below.refl _ _) | (refine Below.then ?_ (Hid.out (by with_reducible assumption)))))) HV.out).mono ?_); rintro e w7 ⟨rfl, hb7⟩; have B7 := Lib.hid hb7; clear hb7)
          | (go_at_call 35; (with_reducible refine (equal_any _ _ _ _ _ L _ (HK.out.ext (by repeat (first | (with_reducible exact Below.refl _ _) | (refine Below.then ?_ (Hid.out (by with_reducible assumption)))))) (HR.out.ext (by repeat (first | (with_reducible exact Below.refl _ _) | (refine Below.then ?_ (Hid.out (by with_reducible assumption))))))).mono ?_); rintro e w8 ⟨rfl, hb8⟩; have B8 := Lib.hid hb8; clear hb8)
          | (go_at_call 17; (with_reducible refine (sane_any _).mono ?_); rintro e w9 ⟨rfl, hb9⟩; have B9 := Lib.hid hb9; clear hb9)
          | (go_at_call 31; (with_reducible refine (Demand_is (HR.out.ext (by repeat (first | (with_reducible exact Below.refl _ _) | (refine Below.then ?_ (Hid.out (by with_reducible assumption)))))) HZ.out).mono ?_); rintro e w0 ⟨rfl, hb0⟩; have B0 := Lib.hid hb0; clear hb0))
        go_ret
        exact ⟨rfl, (by repeat (first | (with_reducible exact Below.refl _ _) | (refine Below.then ?_ (Hid.out (by with_reducible assumption)))))⟩
      · have h1' : decide (v < 1000000) = false := by simpa using h1
        clear hL hT hN hm hP hc hd hb
        go_enter Try.func6, Try.ntmps6
        go_wp2_with (first
          | (go_at_call 15; refine (HM.out).mono ?_; rintro e w1 ⟨rfl, rfl⟩)
          | (go_at_call 29; (with_reducible refine (copied_T _ _ _ L (by omega) HP.out _ HR.out HN.out).mono ?_); rintro e w1 ⟨a1, c1, rfl, ho1, hb1⟩; have HK := Lib.hid ho1; have B1 := Lib.hid hb1; clear ho1 hb1)
          | (go_at_call 30; (with_reducible refine (Cost_is HK.out HC.out).mono ?_); rintro e w2 ⟨rfl, hb2⟩; have B2 := Lib.hid hb2; clear hb2)
          | (go_at_call 24; (with_reducible refine (rCost_is (HR.out.ext (by repeat (first | (with_reducible exact Below.refl _ _) | (refine Below.then ?_ (Hid.out (by with_reducible assumption)))))) HC.out).mono ?_); rintro e w3 ⟨rfl, hb3⟩; have B3 := Lib.hid hb3; clear hb3)
          | (go_at_call 31; (with_reducible refine (Demand_is (HK.out.ext (by repeat (first | (with_reducible exact Below.refl _ _) | (refine Below.then ?_ (Hid.out (by with_reducible assumption)))))) HD.out).mono ?_); rintro e w4 ⟨rfl, hb4⟩; have B4 := Lib.hid hb4; clear hb4)
          | (go_at_call 32; (with_reducible refine (rDemand_is (HR.out.ext (by repeat (first | (with_reducible exact Below.refl _ _) | (refine Below.then ?_ (Hid.out (by with_reducible assumption)))))) HD.out).mono ?_); rintro e w5 ⟨rfl, hb5⟩; have B5 := Lib.hid hb5; clear hb5)
          | (go_at_call 33; (with_reducible refine (valid_is (HK.out.ext (by repeat (first | (with_reducible exact Below.refl _ _) | (refine Below.then ?_ (Hid.out (by with_reducible assumption)))))) HV.out).mono ?_); rintro e w6 ⟨rfl, hb6⟩; have B6 := Lib.hid hb6; clear hb6)
          | (go_at_call 34; (with_reducible refine (rValid_is (HR.out.ext (by repeat (first | (with_reducible exact Below.refl _ _) | (refine Below.then ?_ (Hid.out (by with_reducible assumption)))))) HV.out).mono ?_); rintro e w7 ⟨rfl, hb7⟩; have B7 := Lib.hid hb7; clear hb7)
          | (go_at_call 35; (with_reducible refine (equal_any _ _ _ _ _ L _ (HK.out.ext (by repeat (first | (with_reducible exact Below.refl _ _) | (refine Below.then ?_ (Hid.out (by with_reducible assumption)))))) (HR.out.ext (by repeat (first | (with_reducible exact Below.refl _ _) | (refine Below.then ?_ (Hid.out (by with_reducible assumption))))))).mono ?_); rintro e w8 ⟨rfl, hb8⟩; have B8 := Lib.hid hb8; clear hb8)
          | (go_at_call 17; (with_reducible refine (sane_any _).mono ?_); rintro e w9 ⟨rfl, hb9⟩; have B9 := Lib.hid hb9; clear hb9))
        go_ret
        exact ⟨rfl, (by repeat (first | (with_reducible exact Below.refl _ _) | (refine Below.then ?_ (Hid.out (by with_reducible assumption)))))⟩
    · have hf' : (f == 0) = false := by simpa using hf
      clear hL hT hN hm hP hc hd hb
      go_enter Try.func6, Try.ntmps6
      go_wp2_with (first
          | (go_at_call 15; refine (HM.out).mono ?_; rintro e w1 ⟨rfl, rfl⟩)
          | (go_at_call 29; (with_reducible refine (copied_T _ _ _ L (by omega) HP.out _ HR.out HN.out).mono ?_); rintro e w1 ⟨a1, c1, rfl, ho1, hb1⟩; have HK := Lib.hid ho1; have B1 := Lib.hid hb1; clear ho1 hb1)
          | (go_at_call 30; (with_reducible refine (Cost_is HK.out HC.out).mono ?_); rintro e w2 ⟨rfl, hb2⟩; have B2 := Lib.hid hb2; clear hb2)
          | (go_at_call 24; (with_reducible refine (rCost_is (HR.out.ext (by repeat (first | (with_reducible exact Below.refl _ _) | (refine Below.then ?_ (Hid.out (by with_reducible assumption)))))) HC.out).mono ?_); rintro e w3 ⟨rfl, hb3⟩; have B3 := Lib.hid hb3; clear hb3)
          | (go_at_call 31; (with_reducible refine (Demand_is (HK.out.ext (by repeat (first | (with_reducible exact Below.refl _ _) | (refine Below.then ?_ (Hid.out (by with_reducible assumption)))))) HD.out).mono ?_); rintro e w4 ⟨rfl, hb4⟩; have B4 := Lib.hid hb4; clear hb4)
          | (go_at_call 32; (with_reducible refine (rDemand_is (HR.out.ext (by repeat (first | (with_reducible exact Below.refl _ _) | (refine Below.then ?_ (Hid.out (by with_reducible assumption)))))) HD.out).mono ?_); rintro e w5 ⟨rfl, hb5⟩; have B5 := Lib.hid hb5; clear hb5)
          | (go_at_call 33; (with_reducible refine (valid_is (HK.out.ext (by repeat (first | (with_reducible exact Below.refl _ _) | (refine Below.then ?_ (Hid.out (by with_reducible assumption)))))) HV.out).mono ?_); rintro e w6 ⟨rfl, hb6⟩; have B6 := Lib.hid hb6; clear hb6)
          | (go_at_call 34; (with_reducible refine (rValid_is (HR.out.ext (by repeat (first | (with_reducible exact Below.refl _ _) | (refine Below.then ?_ (Hid.out (by with_reducible assumption)))))) HV.out).mono ?_); rintro e w7 ⟨rfl, hb7⟩; have B7 := Lib.hid hb7; clear hb7)
          | (go_at_call 35; (with_reducible refine (equal_any _ _ _ _ _ L _ (HK.out.ext (by repeat (first | (with_reducible exact Below.refl _ _) | (refine Below.then ?_ (Hid.out (by with_reducible assumption)))))) (HR.out.ext (by repeat (first | (with_reducible exact Below.refl _ _) | (refine Below.then ?_ (Hid.out (by with_reducible assumption))))))).mono ?_); rintro e w8 ⟨rfl, hb8⟩; have B8 := Lib.hid hb8; clear hb8)
          | (go_at_call 17; (with_reducible refine (sane_any _).mono ?_); rintro e w9 ⟨rfl, hb9⟩; have B9 := Lib.hid hb9; clear hb9))
      go_ret
      exact ⟨rfl, (by repeat (first | (with_reducible exact Below.refl _ _) | (refine Below.then ?_ (Hid.out (by with_reducible assumption)))))⟩
  · rw [hm] at HM
    clear hL hT hm hN
    go_enter Try.func6, Try.ntmps6
    go_wp2_with (first
      | (go_at_call 15; refine (HM.out).mono ?_; rintro e w1 ⟨rfl, rfl⟩)
      | (go_at_call 17; (with_reducible refine (sane_any _).mono ?_); rintro e w9 ⟨rfl, hb9⟩; have B9 := Lib.hid hb9; clear hb9))
    go_ret
    exact ⟨rfl, B9.out⟩
end Go.Proofs.Ytabbmnnohnfbeaa
