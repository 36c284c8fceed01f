/- Contracts of the functions of arrive and of its reference that only compute with numbers. No condition beyond those that each contract names. -/
import Derived.Test.YtlhnhmimhpcoaaaBase
namespace Go.Proofs.Ytlhnhmimhpcoaaa
open Go.RowKit
set_option linter.unusedSimpArgs false
set_option linter.unusedVariables false
theorem within_any (n a b : Int) (w : World) : Calls Try.prog 104 #[.int .i64 n, .int .i64 a, .int .i64 b] w fun e w' => e = .returned (.bool (inB n a b)) ∧ w = w' := by
  go_enter Try.func104, Try.ntmps104
  go_wp2
  all_goals (go_ret; exact ⟨ret_bool (by rw [inB_eq]; simp [*]; try omega), rfl⟩)
theorem in_any (n a b : Int) (w : World) : Calls Try.prog 105 #[.int .i64 n, .int .i64 a, .int .i64 b] w fun e w' => e = .returned (.bool (inB n a b)) ∧ w = w' := by
  go_enter Try.func105, Try.ntmps105
  go_wp2
  all_goals (go_ret; exact ⟨ret_bool (by rw [inB_eq]; simp [*]; try omega), rfl⟩)
/-- a pattern, a clock as values -/
abbrev patV (f g j : Int) : Value := .agg #[.int .i64 f, .int .i64 g, .int .i64 j]
def vpat (f g j : Int) : Bool := inB f 0 10000 && inB g 1 10000 && inB j 0 10000
theorem vpat_iff {f g j : Int} : vpat f g j = true ↔ (0 ≤ f ∧ f ≤ 10000) ∧ (1 ≤ g ∧ g ≤ 10000) ∧ (0 ≤ j ∧ j ≤ 10000) := by
  simp [vpat, inB_iff, and_assoc]
theorem valid_any (f g j : Int) (w : World) : Calls Try.prog 88 #[patV f g j] w fun e w' => e = .returned (.bool (vpat f g j)) ∧ Below w.heap.size w w' := by
  go_enter Try.func88, Try.ntmps88
  go_wp2_with (go_at_call 104; refine (within_any _ _ _ _).mono ?_; rintro e w1 ⟨rfl, rfl⟩)
  all_goals (go_ret; exact ⟨ret_bool (by simp [vpat, *]), by (repeat' (first | (with_reducible exact Below.refl _ _) | (with_reducible assumption) | (with_reducible refine Below.alloc ?_ ?_ _) | (with_reducible refine Below.drew ?_) | (with_reducible refine Below.draws ?_ _) | (with_reducible refine Below.setCell ?_ ?_ _) | (refine Below.then ?_ (by with_reducible assumption)) | go_size))⟩)
theorem rvalid_any (f g j : Int) (w : World) : Calls Try.prog 86 #[patV f g j] w fun e w' => e = .returned (.bool (vpat f g j)) ∧ Below w.heap.size w w' := by
  go_enter Try.func86, Try.ntmps86
  go_wp2_with (go_at_call 105; refine (in_any _ _ _ _).mono ?_; rintro e w1 ⟨rfl, rfl⟩)
  all_goals (go_ret; exact ⟨ret_bool (by simp [vpat, *]), by (repeat' (first | (with_reducible exact Below.refl _ _) | (with_reducible assumption) | (with_reducible refine Below.alloc ?_ ?_ _) | (with_reducible refine Below.drew ?_) | (with_reducible refine Below.draws ?_ _) | (with_reducible refine Below.setCell ?_ ?_ _) | (refine Below.then ?_ (by with_reducible assumption)) | go_size))⟩)
def vclk (o n d : Int) : Bool := inB o (-1000000) 1000000 && inB n 1 1000 && inB d 1 1000
theorem vclk_iff {o n d : Int} : vclk o n d = true ↔ (-1000000 ≤ o ∧ o ≤ 1000000) ∧ (1 ≤ n ∧ n ≤ 1000) ∧ (1 ≤ d ∧ d ≤ 1000) := by
  simp [vclk, inB_iff, and_assoc]
def mostN (g j win : Int) : Int := if win = 0 then 0 else (win - 1 + j) / g + 1
theorem quo_bd {a g m : Int} (h0 : 0 ≤ a) (hm : a ≤ m) (hg : 1 ≤ g) : 0 ≤ a / g ∧ a / g ≤ m :=
  ⟨Int.ediv_nonneg h0 (by omega), Int.le_trans (Int.ediv_le_self _ h0) hm⟩
def mostR (f g j win : Int) : Int × Int := if vpat f g j && inB win 0 1000000 then (mostN g j win, 0) else (0, 1)
end Go.Proofs.Ytlhnhmimhpcoaaa
