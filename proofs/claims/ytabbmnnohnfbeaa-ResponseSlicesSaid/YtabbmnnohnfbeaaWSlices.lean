/- The walk of ResponseSlices: it returns true. The conditions: the tasks read as named; their lists are no longer than memory bears. -/
import Derived.Test.YtabbmnnohnfbeaaRsSane
namespace Go.Proofs.Ytabbmnnohnfbeaa
open Go.RowKit
set_option linter.unusedSimpArgs false
set_option linter.unusedVariables false
theorem sliceGo_ok {L : List Ta} {F : Int} : ∀ (k : Nat) (x : Int), sliceGo L F k = (x, 0) → ∃ j : Nat, x = j ∧ j < k ∧ accB L F j = true ∧ ∀ i : Nat, j < i → i < k → accB L F i = false
  | 0, x, h => by simp [sliceGo] at h
  | k + 1, x, h => by
    rw [sliceGo] at h
    split at h
    · rename_i q
      simp at h
      exact ⟨k, h.symm, by omega, q, fun i h1 h2 => by omega⟩
    · rename_i q
      obtain ⟨j, h1, h2, h3, h4⟩ := sliceGo_ok k x h
      refine ⟨j, h1, by omega, h3, fun i hi hik => ?_⟩
      by_cases e : i = k
      · subst e; simpa using q
      · exact h4 i hi (by omega)
theorem sliceGo_err {L : List Ta} {F : Int} : ∀ (k : Nat), (sliceGo L F k).2 = 0 ∨ (sliceGo L F k).2 = 15
  | 0 => .inr rfl
  | k + 1 => by
    rw [sliceGo]; split
    · exact .inl rfl
    · exact sliceGo_err k
theorem sliceR_ok {L : List Ta} {F x : Int} (h : sliceR L F = (x, 0)) : (1 ≤ F ∧ F ≤ 60) ∧ 0 ≤ x ∧ x < F ∧ accE L F x = 0 ∧ (x + 1 < F → accE L F (x + 1) = 15) := by
  unfold sliceR at h
  split at h
  · rename_i hc
    rw [Bool.and_eq_true, inB_iff] at hc
    obtain ⟨f, rfl⟩ := Int.eq_ofNat_of_zero_le (show 0 ≤ F by omega)
    obtain ⟨j, rfl, hj, ha, hn⟩ := sliceGo_ok _ _ h
    rw [Int.toNat_natCast] at hj hn
    have ok : ∀ i : Nat, i < f → okB L f i = true := fun i hi => by
      unfold okB; rw [hc.1, Bool.true_and, supB_iff]; omega
    refine ⟨hc.2, by omega, by omega, by rw [accE, ok j hj, ha]; rfl, fun h1 => ?_⟩
    have := hn (j + 1) (by omega) (by omega)
    rw [show (j : Int) + 1 = ((j + 1 : Nat) : Int) by omega, accE, ok (j + 1) (by omega), this]; rfl
  · simp at h
set_option maxRecDepth 10000 in
set_option maxHeartbeats 4000000 in
theorem slices_walk {w : World} (a : Option Addr) (n c : Nat) (L : List Ta) (hL : RdL w a n L) (hT : ∀ t ∈ L, t.pcs.length ≤ 281474976710656) (hN : NilOk a n c) (F : Int) (_ : -9223372036854775808 ≤ F ∧ F ≤ 9223372036854775807) :
    Calls Try.prog 5 #[.slice a n c, .int .i64 F] w fun e w' => e = .returned (.bool true) ∧ Below w.heap.size w w' := by
  have HM := Lib.hid (many_any a n c L w hL hT)
  have HR := Lib.hid hL
  cases hm : manyL n L
  · rw [hm] at HM
    obtain ⟨x, e, hx⟩ : ∃ x e, sliceR L F = (x, e) := ⟨_, _, rfl⟩
    have HX := Lib.hid hx
    by_cases he : e = 0
    · subst he
      obtain ⟨hF, h0, h1, h2, h3⟩ := sliceR_ok hx
      have HA1 := Lib.hid h2
      by_cases hl : x + 1 < F
      · have HA2 := Lib.hid (h3 hl)
        have hl' : decide (F ≤ x + 1) = false := by simp; omega
        clear hL hT hm hx h2 h3
        go_enter Try.func5, Try.ntmps5
        go_wp2_with (first
      | (go_at_call 15; refine (HM.out).mono ?_; rintro e w1 ⟨rfl, rfl⟩)
      | (go_at_call 27; (with_reducible refine (Slice_is HR.out HX.out).mono ?_); rintro e w1 ⟨rfl, hb1⟩; have B1 := Lib.hid hb1; clear hb1)
      | (go_at_call 28; (with_reducible refine (rSlice_is (HR.out.ext (by repeat (first | (with_reducible exact Below.refl _ _) | (refine Below.then ?_ (Hid.out (by with_reducible assumption)))))) HX.out).mono ?_); rintro e w2 ⟨rfl, hb2⟩; have B2 := Lib.hid hb2; clear hb2)
      | (go_at_call 17; (with_reducible refine (sane_any _).mono ?_); rintro e w9 ⟨rfl, hb9⟩; have B9 := Lib.hid hb9; clear hb9)
      | (go_at_call 16; first
          | ((with_reducible refine (Accept_is (HR.out.ext (by repeat (first | (with_reducible exact Below.refl _ _) | (refine Below.then ?_ (Hid.out (by with_reducible assumption)))))) HA1.out).mono ?_); rintro e w3 ⟨rfl, hb3⟩; have B3 := Lib.hid hb3; clear hb3)
          | ((with_reducible refine (Accept_is (HR.out.ext (show Below w.heap.size w _ from Below.alloc (Below.then (Below.then B1.out B2.out) B3.out) (Below.then (Below.then B1.out B2.out) B3.out).size _)) HA2.out).mono ?_); rintro e w4 ⟨rfl, hb4⟩; have B4 := Lib.hid hb4; clear hb4)))
        go_ret
        exact ⟨rfl, Below.then (Below.then (show Below w.heap.size w _ from Below.alloc (Below.then (Below.then B1.out B2.out) B3.out) (Below.then (Below.then B1.out B2.out) B3.out).size _) B4.out) B9.out⟩
      · have hl' : decide (F ≤ x + 1) = true := by simp; omega
        clear hL hT hm hx h2 h3
        go_enter Try.func5, Try.ntmps5
        go_wp2_with (first
      | (go_at_call 15; refine (HM.out).mono ?_; rintro e w1 ⟨rfl, rfl⟩)
      | (go_at_call 27; (with_reducible refine (Slice_is HR.out HX.out).mono ?_); rintro e w1 ⟨rfl, hb1⟩; have B1 := Lib.hid hb1; clear hb1)
      | (go_at_call 28; (with_reducible refine (rSlice_is (HR.out.ext (by repeat (first | (with_reducible exact Below.refl _ _) | (refine Below.then ?_ (Hid.out (by with_reducible assumption)))))) HX.out).mono ?_); rintro e w2 ⟨rfl, hb2⟩; have B2 := Lib.hid hb2; clear hb2)
      | (go_at_call 17; (with_reducible refine (sane_any _).mono ?_); rintro e w9 ⟨rfl, hb9⟩; have B9 := Lib.hid hb9; clear hb9)
      | (go_at_call 16; first
          | ((with_reducible refine (Accept_is (HR.out.ext (by repeat (first | (with_reducible exact Below.refl _ _) | (refine Below.then ?_ (Hid.out (by with_reducible assumption)))))) HA1.out).mono ?_); rintro e w3 ⟨rfl, hb3⟩; have B3 := Lib.hid hb3; clear hb3)
          | ((with_reducible refine (Accept_is (HR.out.ext (show Below w.heap.size w _ from Below.alloc (Below.then (Below.then B1.out B2.out) B3.out) (Below.then (Below.then B1.out B2.out) B3.out).size _)) HA2.out).mono ?_); rintro e w4 ⟨rfl, hb4⟩; have B4 := Lib.hid hb4; clear hb4)))
        go_ret
        exact ⟨rfl, Below.then (show Below w.heap.size w _ from Below.alloc (Below.then (Below.then B1.out B2.out) B3.out) (Below.then (Below.then B1.out B2.out) B3.out).size _) B9.out⟩
    · have he' : (e != 0) = true := by simpa using he
      clear hL hT hm hx
      go_enter Try.func5, Try.ntmps5
      go_wp2_with (first
      | (go_at_call 15; refine (HM.out).mono ?_; rintro e w1 ⟨rfl, rfl⟩)
      | (go_at_call 27; (with_reducible refine (Slice_is HR.out HX.out).mono ?_); rintro e w1 ⟨rfl, hb1⟩; have B1 := Lib.hid hb1; clear hb1)
      | (go_at_call 28; (with_reducible refine (rSlice_is (HR.out.ext (by repeat (first | (with_reducible exact Below.refl _ _) | (refine Below.then ?_ (Hid.out (by with_reducible assumption)))))) HX.out).mono ?_); rintro e w2 ⟨rfl, hb2⟩; have B2 := Lib.hid hb2; clear hb2)
      | (go_at_call 17; (with_reducible refine (sane_any _).mono ?_); rintro e w9 ⟨rfl, hb9⟩; have B9 := Lib.hid hb9; clear hb9))
      go_ret
      exact ⟨rfl, (by repeat (first | (with_reducible exact Below.refl _ _) | (refine Below.then ?_ (Hid.out (by with_reducible assumption)))))⟩
  · rw [hm] at HM
    clear hL hT hm
    go_enter Try.func5, Try.ntmps5
    go_wp2_with (first
      | (go_at_call 15; refine (HM.out).mono ?_; rintro e w1 ⟨rfl, rfl⟩)
      | (go_at_call 17; (with_reducible refine (sane_any _).mono ?_); rintro e w9 ⟨rfl, hb9⟩; have B9 := Lib.hid hb9; clear hb9))
    go_ret
    exact ⟨rfl, (by repeat (first | (with_reducible exact Below.refl _ _) | (refine Below.then ?_ (Hid.out (by with_reducible assumption)))))⟩
end Go.Proofs.Ytabbmnnohnfbeaa
