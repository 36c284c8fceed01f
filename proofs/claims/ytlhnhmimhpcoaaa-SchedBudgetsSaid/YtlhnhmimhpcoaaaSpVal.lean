/- The contracts of Valid of supply and of its reference. The conditions: numbers in range where named. -/
import Derived.Test.YtlhnhmimhpcoaaaRsPure
import Derived.Test.YtlhnhmimhpcoaaaIrow
import Derived.Deep.RegionHeld3
namespace Go.Proofs.Ytlhnhmimhpcoaaa
open Go.RowKit
set_option linter.unusedSimpArgs false
set_option linter.unusedVariables false
theorem swithin_any (n a b : Int) (w : World) : Calls Try.prog 95 #[.int .i64 n, .int .i64 a, .int .i64 b] w fun e w' => e = .returned (.bool (inB n a b)) ∧ w = w' := by
  go_enter Try.func95, Try.ntmps95
  go_wp2
  all_goals (go_ret; exact ⟨ret_bool (by rw [inB_eq]; simp [*]; try omega), rfl⟩)
theorem sin_any (n a b : Int) (w : World) : Calls Try.prog 87 #[.int .i64 n, .int .i64 a, .int .i64 b] w fun e w' => e = .returned (.bool (inB n a b)) ∧ w = w' := by
  go_enter Try.func87, Try.ntmps87
  go_wp2
  all_goals (go_ret; exact ⟨ret_bool (by rw [inB_eq]; simp [*]; try omega), rfl⟩)
theorem swithin_is {n a b : Int} {x : Bool} {w : World} (h : inB n a b = x) : Calls Try.prog 95 #[.int .i64 n, .int .i64 a, .int .i64 b] w fun e w' => e = .returned (.bool x) ∧ w = w' := by subst h; exact swithin_any n a b w
theorem sin_is {n a b : Int} {x : Bool} {w : World} (h : inB n a b = x) : Calls Try.prog 87 #[.int .i64 n, .int .i64 a, .int .i64 b] w fun e w' => e = .returned (.bool x) ∧ w = w' := by subst h; exact sin_any n a b w
theorem supB_iff {F S : Int} : supB F S = true ↔ (1 ≤ F ∧ F ≤ 60) ∧ (0 ≤ S ∧ S ≤ F - 1) := by unfold supB; rw [Bool.and_eq_true, inB_iff, inB_iff]
theorem supV_any (F S : Int) (w : World) : Calls Try.prog 57 #[.agg #[.int .i64 F, .int .i64 S]] w fun e w' => e = .returned (.bool (supB F S)) ∧ Below w.heap.size w w' := by
  obtain ⟨x, hx⟩ : ∃ x, inB F 1 60 = x := ⟨_, rfl⟩
  have HX := Lib.hid hx
  unfold supB
  rw [hx]
  cases x
  · clear hx
    go_enter Try.func57, Try.ntmps57
    go_wp2_with (go_at_call 95; refine (swithin_is HX.out).mono ?_; rintro e w1 ⟨rfl, rfl⟩)
    go_ret
    exact ⟨rfl, by (repeat' (first | (with_reducible exact Below.refl _ _) | (with_reducible assumption) | (with_reducible refine Below.alloc ?_ ?_ _) | (with_reducible refine Below.drew ?_) | (with_reducible refine Below.draws ?_ _) | (with_reducible refine Below.setCell ?_ ?_ _) | (refine Below.then ?_ (by with_reducible assumption)) | go_size))⟩
  · obtain ⟨y, hy⟩ : ∃ y, inB S 0 (F - 1) = y := ⟨_, rfl⟩
    have HY := Lib.hid hy
    rw [hy]
    have hF := inB_iff.1 hx
    clear hx hy
    go_enter Try.func57, Try.ntmps57
    go_wp2_with (first | (go_at_call 95; (with_reducible refine (swithin_is HX.out).mono ?_); rintro e w1 ⟨rfl, rfl⟩) | (go_at_call 95; (with_reducible refine (swithin_is HY.out).mono ?_); rintro e w1 ⟨rfl, rfl⟩))
    go_ret
    exact ⟨rfl, by (repeat' (first | (with_reducible exact Below.refl _ _) | (with_reducible assumption) | (with_reducible refine Below.alloc ?_ ?_ _) | (with_reducible refine Below.drew ?_) | (with_reducible refine Below.draws ?_ _) | (with_reducible refine Below.setCell ?_ ?_ _) | (refine Below.then ?_ (by with_reducible assumption)) | go_size))⟩
theorem rsupV_any (F S : Int) (w : World) : Calls Try.prog 51 #[.agg #[.int .i64 F, .int .i64 S]] w fun e w' => e = .returned (.bool (supB F S)) ∧ Below w.heap.size w w' := by
  obtain ⟨x, hx⟩ : ∃ x, inB F 1 60 = x := ⟨_, rfl⟩
  have HX := Lib.hid hx
  unfold supB
  rw [hx]
  cases x
  · clear hx
    go_enter Try.func51, Try.ntmps51
    go_wp2_with (go_at_call 87; refine (sin_is HX.out).mono ?_; rintro e w1 ⟨rfl, rfl⟩)
    go_ret
    exact ⟨rfl, by (repeat' (first | (with_reducible exact Below.refl _ _) | (with_reducible assumption) | (with_reducible refine Below.alloc ?_ ?_ _) | (with_reducible refine Below.drew ?_) | (with_reducible refine Below.draws ?_ _) | (with_reducible refine Below.setCell ?_ ?_ _) | (refine Below.then ?_ (by with_reducible assumption)) | go_size))⟩
  · obtain ⟨y, hy⟩ : ∃ y, inB S 0 (F - 1) = y := ⟨_, rfl⟩
    have HY := Lib.hid hy
    rw [hy]
    have hF := inB_iff.1 hx
    clear hx hy
    go_enter Try.func51, Try.ntmps51
    go_wp2_with (first | (go_at_call 87; (with_reducible refine (sin_is HX.out).mono ?_); rintro e w1 ⟨rfl, rfl⟩) | (go_at_call 87; (with_reducible refine (sin_is HY.out).mono ?_); rintro e w1 ⟨rfl, rfl⟩))
    go_ret
    exact ⟨rfl, by (repeat' (first | (with_reducible exact Below.refl _ _) | (with_reducible assumption) | (with_reducible refine Below.alloc ?_ ?_ _) | (with_reducible refine Below.drew ?_) | (with_reducible refine Below.draws ?_ _) | (with_reducible refine Below.setCell ?_ ?_ _) | (refine Below.then ?_ (by with_reducible assumption)) | go_size))⟩
theorem supV_is {F S : Int} {b : Bool} {w : World} (h : supB F S = b) : Calls Try.prog 57 #[.agg #[.int .i64 F, .int .i64 S]] w fun e w' => e = .returned (.bool b) ∧ Below w.heap.size w w' := by subst h; exact supV_any F S w
theorem rsupV_is {F S : Int} {b : Bool} {w : World} (h : supB F S = b) : Calls Try.prog 51 #[.agg #[.int .i64 F, .int .i64 S]] w fun e w' => e = .returned (.bool b) ∧ Below w.heap.size w w' := by subst h; exact rsupV_any F S w
end Go.Proofs.Ytlhnhmimhpcoaaa
