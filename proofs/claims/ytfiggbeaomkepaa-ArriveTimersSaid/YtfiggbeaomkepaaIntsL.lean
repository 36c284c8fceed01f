/- The contract of the law's ints at equal lists. The conditions: the slices read as named. -/
import Derived.Test.YtfiggbeaomkepaaIrow
namespace Go.Proofs.Ytfiggbeaomkepaa
open Go.RowKit
set_option linter.unusedSimpArgs false
set_option linter.unusedVariables false
theorem lints_eq (a b : Option Addr) (n m c d : Nat) (xs : List Int) (w : World) (hA : Rd w a n 1 (xs.map enc1)) (hB : Rd w b m 1 (xs.map enc1)) :
    Calls Try.prog 42 #[.slice a n c, .slice b m d] w fun e w' => e = .returned (.bool true) ∧ Below w.heap.size w w' := by
  obtain rfl : m = n := by rw [← hA.length, ← hB.length]
  have hs := hA.small
  have HA := Lib.hid hA; have HB := Lib.hid hB
  clear hA hB
  go_enter Try.func42, Try.ntmps42
  go_wp2
  go_loopw [5] (fun i wr => ∃ k : Nat, k ≤ m ∧ i = .int .i64 k ∧ Below w.heap.size w wr) (fun i _ => m - (intOf i).toNat)
  case atStart => exact ⟨0, Nat.zero_le _, rfl, by (repeat' (first | (with_reducible exact Below.refl _ _) | (with_reducible assumption) | (with_reducible refine Below.alloc ?_ ?_ _) | (with_reducible refine Below.drew ?_) | (with_reducible refine Below.draws ?_ _) | (with_reducible refine Below.setCell ?_ ?_ _) | (refine Below.then ?_ (by with_reducible assumption)) | go_size))⟩
  case round =>
    obtain ⟨k, hk, rfl, hb⟩ := hrel
    have HW := Lib.hid hb
    clear hb
    by_cases hlt : k < m
    · obtain ⟨x, b1, o1, rfl, hb1, hx, HD⟩ := (HA.out.ext HW.out).next1 k hlt
      obtain ⟨y, b2, o2, rfl, hb2, hy, HD2⟩ := (HB.out.ext HW.out).next1 k hlt
      obtain rfl : x = y := by have h1 := HD.out; rw [HD2.out] at h1; simp at h1; exact h1.symm
      clear HD HD2
      go_wp2_with (refine wp_region_later_lit (by kernel_rfl) (by kernel_rfl) ?_; (repeat (go_big_quiet_step (fail))); refine wpQuiet_nil ?_; intro w1 hb1; obtain ⟨hc1, hf1, hz1, hr1⟩ := bfacts hb1; (try simp only [World.size_alloc, World.size_setCell, World.size_drew, World.size_drewN] at hz1 hr1); (try have hw0 : w.heap.size < w1.heap.size := by omega); (try have hw1 : w.heap.size + 1 < w1.heap.size := by omega); (try have hw2 : w.heap.size + 1 + 1 < w1.heap.size := by omega))
      go_roundw
      case rel => exact ⟨k + 1, by omega, by go_num, Below.then HW.out (by (repeat' (first | (with_reducible exact Below.refl _ _) | (with_reducible assumption) | (with_reducible refine Below.alloc ?_ ?_ _) | (with_reducible refine Below.drew ?_) | (with_reducible refine Below.draws ?_ _) | (with_reducible refine Below.setCell ?_ ?_ _) | (refine Below.then ?_ (by with_reducible assumption)) | go_size)))⟩
      case measure => simp [intOf]; omega
    · go_wp2
      go_ret
      exact ⟨rfl, HW.out⟩
end Go.Proofs.Ytfiggbeaomkepaa
