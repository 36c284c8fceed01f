/- The walk of ArriveDrifts: it returns true. No condition. -/
import Derived.Test.YtfiggbeaomkepaaSane
import Derived.Test.YtfiggbeaomkepaaRatio2
namespace Go.Proofs.Ytfiggbeaomkepaa
open Go.RowKit
set_option linter.unusedSimpArgs false
set_option linter.unusedVariables false
def driftR (n d n' d' : Int) (ok : Bool) : (Int × Int) × Int := if ok then lowR (n * d').toNat (d * n').toNat else ((0, 0), 1)
theorem drift_any (o n d o' n' d' : Int) (w : World) : Calls Try.prog 29 #[patV o n d, patV o' n' d'] w fun e w' => e = rRat (driftR n d n' d' (vclk o n d && vclk o' n' d')) ∧ Below w.heap.size w w' := by
  by_cases hv : (vclk o n d && vclk o' n' d') = true
  · rw [hv]
    obtain ⟨v1, v2⟩ := Bool.and_eq_true_iff.1 hv
    obtain ⟨_, k2, k3⟩ := vclk_iff.1 v1
    obtain ⟨_, k2', k3'⟩ := vclk_iff.1 v2
    obtain ⟨n, rfl⟩ := Int.eq_ofNat_of_zero_le (show 0 ≤ n by omega)
    obtain ⟨d, rfl⟩ := Int.eq_ofNat_of_zero_le (show 0 ≤ d by omega)
    obtain ⟨n', rfl⟩ := Int.eq_ofNat_of_zero_le (show 0 ≤ n' by omega)
    obtain ⟨d', rfl⟩ := Int.eq_ofNat_of_zero_le (show 0 ≤ d' by omega)
    have m1 : n * d' ≤ 1000 * 1000 := Nat.mul_le_mul (by omega) (by omega)
    have m2 : d * n' ≤ 1000 * 1000 := Nat.mul_le_mul (by omega) (by omega)
    have m3 : 1 * 1 ≤ d * n' := Nat.mul_le_mul (by omega) (by omega)
    have hm := fun w => make_any (n * d') (d * n') w (by omega) (by omega) (by omega)
    have e1 : driftR n d n' d' true = lowR (n * d') (d * n') := by
      rw [driftR, if_pos rfl, ← Int.natCast_mul, ← Int.natCast_mul, Int.toNat_natCast, Int.toNat_natCast]
    rw [e1]
    obtain ⟨q1, q2⟩ := mul_bd (a := (n : Int)) (m := 1000) (by omega) (by omega) (b := (d' : Int)) (k := 1000) (by omega) (by omega)
    obtain ⟨q3, q4⟩ := mul_bd (a := (d : Int)) (m := 1000) (by omega) (by omega) (b := (n' : Int)) (k := 1000) (by omega) (by omega)
    generalize lowR (n * d') (d * n') = R at *
    obtain ⟨⟨a, b⟩, e⟩ := R
    simp only [Int.natCast_mul] at hm
    have HM := Lib.hid hm
    clear hm e1 hv m1 m2 m3
    go_enter Try.func29, Try.ntmps29
    go_wp2_with (first | (go_at_call 21; refine (validClock_any _ _ _ _).mono ?_; rintro e w1 ⟨rfl, hb1⟩; obtain ⟨hc1, hf1, hz1, hr1⟩ := bfacts hb1; (try simp only [World.size_alloc, World.size_setCell, World.size_drew, World.size_drewN] at hz1 hr1); (try have hw0 : w.heap.size < w1.heap.size := by omega); (try have hw1 : w.heap.size + 1 < w1.heap.size := by omega); (try have hw2 : w.heap.size + 1 + 1 < w1.heap.size := by omega)) | (refine wp_region_later_lit (by kernel_rfl) (by kernel_rfl) ?_; (repeat (go_big_quiet_step ((go_at_call 54; exact later_of (HM.out _))))); refine wpQuiet_nil ?_; intro w1 hb1; obtain ⟨hc1, hf1, hz1, hr1⟩ := bfacts hb1; (try simp only [World.size_alloc, World.size_setCell, World.size_drew, World.size_drewN] at hz1 hr1); (try have hw0 : w.heap.size < w1.heap.size := by omega); (try have hw1 : w.heap.size + 1 < w1.heap.size := by omega); (try have hw2 : w.heap.size + 1 + 1 < w1.heap.size := by omega)) | (go_at_call 54; refine (HM.out _).mono ?_; rintro e w1 ⟨rfl, hb1⟩; obtain ⟨hc1, hf1, hz1, hr1⟩ := bfacts hb1; (try simp only [World.size_alloc, World.size_setCell, World.size_drew, World.size_drewN] at hz1 hr1); (try have hw0 : w.heap.size < w1.heap.size := by omega); (try have hw1 : w.heap.size + 1 < w1.heap.size := by omega); (try have hw2 : w.heap.size + 1 + 1 < w1.heap.size := by omega)))
    have x0 : w1.cell? ⟨w.heap.size + 1 + 1, 0, none⟩ = some (.int .i64 0) := by simp [go_sem, *]
    have x1 : w1.cell? ⟨w.heap.size + 1 + 1, 1, none⟩ = some (.int .i64 0) := by simp [go_sem, *]
    exact bodyPost_ret (v := .tuple #[.agg #[.int .i64 a, .int .i64 b], .int .i64 e]) (by simp [results, Try.results29, go_sem, x0, x1]) rfl ⟨rfl, by (repeat' (first | (with_reducible exact Below.refl _ _) | (with_reducible assumption) | (with_reducible refine Below.alloc ?_ ?_ _) | (with_reducible refine Below.drew ?_) | (with_reducible refine Below.draws ?_ _) | (with_reducible refine Below.setCell ?_ ?_ _) | (refine Below.then ?_ (by with_reducible assumption)) | go_size))⟩
  · rw [Bool.not_eq_true] at hv
    rw [hv, driftR, if_neg (by simp)]
    have hv' := Lib.hid hv
    by_cases v1 : vclk o n d = true
    · have v2 : vclk o' n' d' = false := by simpa [v1] using hv
      clear hv
      go_enter Try.func29, Try.ntmps29
      go_wp2_with (go_at_call 21; refine (validClock_any _ _ _ _).mono ?_; rintro e w1 ⟨rfl, hb1⟩; obtain ⟨hc1, hf1, hz1, hr1⟩ := bfacts hb1; (try simp only [World.size_alloc, World.size_setCell, World.size_drew, World.size_drewN] at hz1 hr1); (try have hw0 : w.heap.size < w1.heap.size := by omega); (try have hw1 : w.heap.size + 1 < w1.heap.size := by omega); (try have hw2 : w.heap.size + 1 + 1 < w1.heap.size := by omega))
      have x0 : w1.cell? ⟨w.heap.size + 1 + 1, 0, none⟩ = some (.int .i64 0) := by simp [go_sem, *]
      have x1 : w1.cell? ⟨w.heap.size + 1 + 1, 1, none⟩ = some (.int .i64 0) := by simp [go_sem, *]
      exact bodyPost_ret (v := .tuple #[.agg #[.int .i64 0, .int .i64 0], .int .i64 1]) (by simp [results, Try.results29, go_sem, x0, x1]) rfl ⟨rfl, by (repeat' (first | (with_reducible exact Below.refl _ _) | (with_reducible assumption) | (with_reducible refine Below.alloc ?_ ?_ _) | (with_reducible refine Below.drew ?_) | (with_reducible refine Below.draws ?_ _) | (with_reducible refine Below.setCell ?_ ?_ _) | (refine Below.then ?_ (by with_reducible assumption)) | go_size))⟩
    · rw [Bool.not_eq_true] at v1
      clear hv
      go_enter Try.func29, Try.ntmps29
      go_wp2_with (go_at_call 21; refine (validClock_any _ _ _ _).mono ?_; rintro e w1 ⟨rfl, hb1⟩; obtain ⟨hc1, hf1, hz1, hr1⟩ := bfacts hb1; (try simp only [World.size_alloc, World.size_setCell, World.size_drew, World.size_drewN] at hz1 hr1); (try have hw0 : w.heap.size < w1.heap.size := by omega); (try have hw1 : w.heap.size + 1 < w1.heap.size := by omega); (try have hw2 : w.heap.size + 1 + 1 < w1.heap.size := by omega))
      have x0 : w1.cell? ⟨w.heap.size + 1 + 1, 0, none⟩ = some (.int .i64 0) := by simp [go_sem, *]
      have x1 : w1.cell? ⟨w.heap.size + 1 + 1, 1, none⟩ = some (.int .i64 0) := by simp [go_sem, *]
      exact bodyPost_ret (v := .tuple #[.agg #[.int .i64 0, .int .i64 0], .int .i64 1]) (by simp [results, Try.results29, go_sem, x0, x1]) rfl ⟨rfl, by (repeat' (first | (with_reducible exact Below.refl _ _) | (with_reducible assumption) | (with_reducible refine Below.alloc ?_ ?_ _) | (with_reducible refine Below.drew ?_) | (with_reducible refine Below.draws ?_ _) | (with_reducible refine Below.setCell ?_ ?_ _) | (refine Below.then ?_ (by with_reducible assumption)) | go_size))⟩
theorem rdrift_any (o n d o' n' d' : Int) (w : World) : Calls Try.prog 30 #[patV o n d, patV o' n' d'] w fun e w' => e = rRat (driftR n d n' d' (vclk o n d && vclk o' n' d')) ∧ Below w.heap.size w w' := by
  by_cases hv : (vclk o n d && vclk o' n' d') = true
  · rw [hv]
    obtain ⟨v1, v2⟩ := Bool.and_eq_true_iff.1 hv
    obtain ⟨_, k2, k3⟩ := vclk_iff.1 v1
    obtain ⟨_, k2', k3'⟩ := vclk_iff.1 v2
    obtain ⟨n, rfl⟩ := Int.eq_ofNat_of_zero_le (show 0 ≤ n by omega)
    obtain ⟨d, rfl⟩ := Int.eq_ofNat_of_zero_le (show 0 ≤ d by omega)
    obtain ⟨n', rfl⟩ := Int.eq_ofNat_of_zero_le (show 0 ≤ n' by omega)
    obtain ⟨d', rfl⟩ := Int.eq_ofNat_of_zero_le (show 0 ≤ d' by omega)
    have m1 : n * d' ≤ 1000 * 1000 := Nat.mul_le_mul (by omega) (by omega)
    have m2 : d * n' ≤ 1000 * 1000 := Nat.mul_le_mul (by omega) (by omega)
    have m3 : 1 * 1 ≤ d * n' := Nat.mul_le_mul (by omega) (by omega)
    have hm := fun w => r2make_any (n * d') (d * n') w (by omega) (by omega) (by omega)
    have e1 : driftR n d n' d' true = lowR (n * d') (d * n') := by
      rw [driftR, if_pos rfl, ← Int.natCast_mul, ← Int.natCast_mul, Int.toNat_natCast, Int.toNat_natCast]
    rw [e1]
    obtain ⟨q1, q2⟩ := mul_bd (a := (n : Int)) (m := 1000) (by omega) (by omega) (b := (d' : Int)) (k := 1000) (by omega) (by omega)
    obtain ⟨q3, q4⟩ := mul_bd (a := (d : Int)) (m := 1000) (by omega) (by omega) (b := (n' : Int)) (k := 1000) (by omega) (by omega)
    generalize lowR (n * d') (d * n') = R at *
    obtain ⟨⟨a, b⟩, e⟩ := R
    simp only [Int.natCast_mul] at hm
    have HM := Lib.hid hm
    clear hm e1 hv m1 m2 m3
    go_enter Try.func30, Try.ntmps30
    go_wp2_with (first | (go_at_call 22; refine (rvalidClock_any _ _ _ _).mono ?_; rintro e w1 ⟨rfl, hb1⟩; obtain ⟨hc1, hf1, hz1, hr1⟩ := bfacts hb1; (try simp only [World.size_alloc, World.size_setCell, World.size_drew, World.size_drewN] at hz1 hr1); (try have hw0 : w.heap.size < w1.heap.size := by omega); (try have hw1 : w.heap.size + 1 < w1.heap.size := by omega); (try have hw2 : w.heap.size + 1 + 1 < w1.heap.size := by omega)) | (refine wp_region_later_lit (by kernel_rfl) (by kernel_rfl) ?_; (repeat (go_big_quiet_step ((go_at_call 55; exact later_of (HM.out _))))); refine wpQuiet_nil ?_; intro w1 hb1; obtain ⟨hc1, hf1, hz1, hr1⟩ := bfacts hb1; (try simp only [World.size_alloc, World.size_setCell, World.size_drew, World.size_drewN] at hz1 hr1); (try have hw0 : w.heap.size < w1.heap.size := by omega); (try have hw1 : w.heap.size + 1 < w1.heap.size := by omega); (try have hw2 : w.heap.size + 1 + 1 < w1.heap.size := by omega)) | (go_at_call 55; refine (HM.out _).mono ?_; rintro e w1 ⟨rfl, hb1⟩; obtain ⟨hc1, hf1, hz1, hr1⟩ := bfacts hb1; (try simp only [World.size_alloc, World.size_setCell, World.size_drew, World.size_drewN] at hz1 hr1); (try have hw0 : w.heap.size < w1.heap.size := by omega); (try have hw1 : w.heap.size + 1 < w1.heap.size := by omega); (try have hw2 : w.heap.size + 1 + 1 < w1.heap.size := by omega)))
    have x0 : w1.cell? ⟨w.heap.size + 1 + 1, 0, none⟩ = some (.int .i64 0) := by simp [go_sem, *]
    have x1 : w1.cell? ⟨w.heap.size + 1 + 1, 1, none⟩ = some (.int .i64 0) := by simp [go_sem, *]
    exact bodyPost_ret (v := .tuple #[.agg #[.int .i64 a, .int .i64 b], .int .i64 e]) (by simp [results, Try.results30, go_sem, x0, x1]) rfl ⟨rfl, by (repeat' (first | (with_reducible exact Below.refl _ _) | (with_reducible assumption) | (with_reducible refine Below.alloc ?_ ?_ _) | (with_reducible refine Below.drew ?_) | (with_reducible refine Below.draws ?_ _) | (with_reducible refine Below.setCell ?_ ?_ _) | (refine Below.then ?_ (by with_reducible assumption)) | go_size))⟩
  · rw [Bool.not_eq_true] at hv
    rw [hv, driftR, if_neg (by simp)]
    have hv' := Lib.hid hv
    by_cases v1 : vclk o n d = true
    · have v2 : vclk o' n' d' = false := by simpa [v1] using hv
      clear hv
      go_enter Try.func30, Try.ntmps30
      go_wp2_with (go_at_call 22; refine (rvalidClock_any _ _ _ _).mono ?_; rintro e w1 ⟨rfl, hb1⟩; obtain ⟨hc1, hf1, hz1, hr1⟩ := bfacts hb1; (try simp only [World.size_alloc, World.size_setCell, World.size_drew, World.size_drewN] at hz1 hr1); (try have hw0 : w.heap.size < w1.heap.size := by omega); (try have hw1 : w.heap.size + 1 < w1.heap.size := by omega); (try have hw2 : w.heap.size + 1 + 1 < w1.heap.size := by omega))
      have x0 : w1.cell? ⟨w.heap.size + 1 + 1, 0, none⟩ = some (.int .i64 0) := by simp [go_sem, *]
      have x1 : w1.cell? ⟨w.heap.size + 1 + 1, 1, none⟩ = some (.int .i64 0) := by simp [go_sem, *]
      exact bodyPost_ret (v := .tuple #[.agg #[.int .i64 0, .int .i64 0], .int .i64 1]) (by simp [results, Try.results30, go_sem, x0, x1]) rfl ⟨rfl, by (repeat' (first | (with_reducible exact Below.refl _ _) | (with_reducible assumption) | (with_reducible refine Below.alloc ?_ ?_ _) | (with_reducible refine Below.drew ?_) | (with_reducible refine Below.draws ?_ _) | (with_reducible refine Below.setCell ?_ ?_ _) | (refine Below.then ?_ (by with_reducible assumption)) | go_size))⟩
    · rw [Bool.not_eq_true] at v1
      clear hv
      go_enter Try.func30, Try.ntmps30
      go_wp2_with (go_at_call 22; refine (rvalidClock_any _ _ _ _).mono ?_; rintro e w1 ⟨rfl, hb1⟩; obtain ⟨hc1, hf1, hz1, hr1⟩ := bfacts hb1; (try simp only [World.size_alloc, World.size_setCell, World.size_drew, World.size_drewN] at hz1 hr1); (try have hw0 : w.heap.size < w1.heap.size := by omega); (try have hw1 : w.heap.size + 1 < w1.heap.size := by omega); (try have hw2 : w.heap.size + 1 + 1 < w1.heap.size := by omega))
      have x0 : w1.cell? ⟨w.heap.size + 1 + 1, 0, none⟩ = some (.int .i64 0) := by simp [go_sem, *]
      have x1 : w1.cell? ⟨w.heap.size + 1 + 1, 1, none⟩ = some (.int .i64 0) := by simp [go_sem, *]
      exact bodyPost_ret (v := .tuple #[.agg #[.int .i64 0, .int .i64 0], .int .i64 1]) (by simp [results, Try.results30, go_sem, x0, x1]) rfl ⟨rfl, by (repeat' (first | (with_reducible exact Below.refl _ _) | (with_reducible assumption) | (with_reducible refine Below.alloc ?_ ?_ _) | (with_reducible refine Below.drew ?_) | (with_reducible refine Below.draws ?_ _) | (with_reducible refine Below.setCell ?_ ?_ _) | (refine Below.then ?_ (by with_reducible assumption)) | go_size))⟩
theorem lowR_self (x : Nat) (h : 1 ≤ x) : lowR x x = ((1, 1), 0) := by
  rw [lowR, Nat.gcd_self, Nat.div_self h]; rfl
set_option maxHeartbeats 1000000 in
theorem arriveDrifts_walk {w : World} (o n d : Int) (o' n' d' : Int) :
    Calls Try.prog 6 #[patV o n d, patV o' n' d'] w fun e w' => e = .returned (.bool true) ∧ Below w.heap.size w w' := by
  have h1 := fun w => drift_any o n d o' n' d' w
  have h2 := fun w => rdrift_any o n d o' n' d' w
  have h3 := fun w => drift_any o n d o n d w
  generalize driftR n d n' d' (vclk o n d && vclk o' n' d') = R at *
  obtain ⟨⟨a, b⟩, e⟩ := R
  have H1 := Lib.hid h1; have H2 := Lib.hid h2; clear h1 h2
  by_cases hv : vclk o n d = true
  · have hs : driftR n d n d (vclk o n d && vclk o n d) = ((1, 1), 0) := by
      obtain ⟨_, k2, k3⟩ := vclk_iff.1 hv
      rw [hv, driftR]
      obtain ⟨n, rfl⟩ := Int.eq_ofNat_of_zero_le (show 0 ≤ n by omega)
      obtain ⟨d, rfl⟩ := Int.eq_ofNat_of_zero_le (show 0 ≤ d by omega)
      rw [Int.mul_comm (d : Int), ← Int.natCast_mul, Int.toNat_natCast]
      have m3 : 1 * 1 ≤ n * d := Nat.mul_le_mul (by omega) (by omega)
      simpa using lowR_self (n * d) (by omega)
    rw [hs] at h3
    have H3 := Lib.hid h3; clear h3 hs
    go_enter Try.func6, Try.ntmps6
    go_wp2_with (first | (go_at_call 29; (with_reducible refine (H1.out _).mono ?_); rintro e w1 ⟨rfl, hb1⟩; obtain ⟨hc1, hf1, hz1, hr1⟩ := bfacts hb1; (try simp only [World.size_alloc, World.size_setCell, World.size_drew, World.size_drewN] at hz1 hr1); (try have hs1_w_0 : w.heap.size < w1.heap.size := by omega); (try have hs1_w_1 : w.heap.size + 1 < w1.heap.size := by omega)) | (go_at_call 30; (with_reducible refine (H2.out _).mono ?_); rintro e w2 ⟨rfl, hb2⟩; obtain ⟨hc2, hf2, hz2, hr2⟩ := bfacts hb2; (try simp only [World.size_alloc, World.size_setCell, World.size_drew, World.size_drewN] at hz2 hr2); (try have hs2_w_0 : w.heap.size < w2.heap.size := by omega); (try have hs2_w_1 : w.heap.size + 1 < w2.heap.size := by omega); (try have hs2_w1_0 : w1.heap.size < w2.heap.size := by omega)) | (go_at_call 29; (with_reducible refine (H3.out _).mono ?_); rintro e w3 ⟨rfl, hb3⟩; obtain ⟨hc3, hf3, hz3, hr3⟩ := bfacts hb3; (try simp only [World.size_alloc, World.size_setCell, World.size_drew, World.size_drewN] at hz3 hr3); (try have hs3_w_0 : w.heap.size < w3.heap.size := by omega); (try have hs3_w_1 : w.heap.size + 1 < w3.heap.size := by omega); (try have hs3_w1_0 : w1.heap.size < w3.heap.size := by omega); (try have hs3_w2_0 : w2.heap.size < w3.heap.size := by omega)) | (go_at_call 22; (with_reducible refine (rvalidClock_any _ _ _ _).mono ?_); rintro e w4 ⟨rfl, hb4⟩; obtain ⟨hc4, hf4, hz4, hr4⟩ := bfacts hb4; (try simp only [World.size_alloc, World.size_setCell, World.size_drew, World.size_drewN] at hz4 hr4); (try have hs4_w_0 : w.heap.size < w4.heap.size := by omega); (try have hs4_w_1 : w.heap.size + 1 < w4.heap.size := by omega); (try have hs4_w1_0 : w1.heap.size < w4.heap.size := by omega); (try have hs4_w2_0 : w2.heap.size < w4.heap.size := by omega); (try have hs4_w3_0 : w3.heap.size < w4.heap.size := by omega)) | (go_at_call 16; (with_reducible refine (sane_any _).mono ?_); rintro e w5 ⟨rfl, hb5⟩; obtain ⟨hc5, hf5, hz5, hr5⟩ := bfacts hb5; (try simp only [World.size_alloc, World.size_setCell, World.size_drew, World.size_drewN] at hz5 hr5); (try have hs5_w_0 : w.heap.size < w5.heap.size := by omega); (try have hs5_w_1 : w.heap.size + 1 < w5.heap.size := by omega); (try have hs5_w1_0 : w1.heap.size < w5.heap.size := by omega); (try have hs5_w2_0 : w2.heap.size < w5.heap.size := by omega); (try have hs5_w3_0 : w3.heap.size < w5.heap.size := by omega)))
    go_ret
    exact ⟨rfl, by (repeat' (first | (with_reducible exact Below.refl _ _) | (with_reducible assumption) | (with_reducible refine Below.alloc ?_ ?_ _) | (with_reducible refine Below.drew ?_) | (with_reducible refine Below.draws ?_ _) | (with_reducible refine Below.setCell ?_ ?_ _) | (refine Below.then ?_ (by with_reducible assumption)) | go_size))⟩
  · rw [Bool.not_eq_true] at hv
    generalize driftR n d n d (vclk o n d && vclk o n d) = R at *
    obtain ⟨⟨a', b'⟩, e'⟩ := R
    have H3 := Lib.hid h3; clear h3
    go_enter Try.func6, Try.ntmps6
    go_wp2_with (first | (go_at_call 29; (with_reducible refine (H1.out _).mono ?_); rintro e w1 ⟨rfl, hb1⟩; obtain ⟨hc1, hf1, hz1, hr1⟩ := bfacts hb1; (try simp only [World.size_alloc, World.size_setCell, World.size_drew, World.size_drewN] at hz1 hr1); (try have hs1_w_0 : w.heap.size < w1.heap.size := by omega); (try have hs1_w_1 : w.heap.size + 1 < w1.heap.size := by omega)) | (go_at_call 30; (with_reducible refine (H2.out _).mono ?_); rintro e w2 ⟨rfl, hb2⟩; obtain ⟨hc2, hf2, hz2, hr2⟩ := bfacts hb2; (try simp only [World.size_alloc, World.size_setCell, World.size_drew, World.size_drewN] at hz2 hr2); (try have hs2_w_0 : w.heap.size < w2.heap.size := by omega); (try have hs2_w_1 : w.heap.size + 1 < w2.heap.size := by omega); (try have hs2_w1_0 : w1.heap.size < w2.heap.size := by omega)) | (go_at_call 29; (with_reducible refine (H3.out _).mono ?_); rintro e w3 ⟨rfl, hb3⟩; obtain ⟨hc3, hf3, hz3, hr3⟩ := bfacts hb3; (try simp only [World.size_alloc, World.size_setCell, World.size_drew, World.size_drewN] at hz3 hr3); (try have hs3_w_0 : w.heap.size < w3.heap.size := by omega); (try have hs3_w_1 : w.heap.size + 1 < w3.heap.size := by omega); (try have hs3_w1_0 : w1.heap.size < w3.heap.size := by omega); (try have hs3_w2_0 : w2.heap.size < w3.heap.size := by omega)) | (go_at_call 22; (with_reducible refine (rvalidClock_any _ _ _ _).mono ?_); rintro e w4 ⟨rfl, hb4⟩; obtain ⟨hc4, hf4, hz4, hr4⟩ := bfacts hb4; (try simp only [World.size_alloc, World.size_setCell, World.size_drew, World.size_drewN] at hz4 hr4); (try have hs4_w_0 : w.heap.size < w4.heap.size := by omega); (try have hs4_w_1 : w.heap.size + 1 < w4.heap.size := by omega); (try have hs4_w1_0 : w1.heap.size < w4.heap.size := by omega); (try have hs4_w2_0 : w2.heap.size < w4.heap.size := by omega); (try have hs4_w3_0 : w3.heap.size < w4.heap.size := by omega)) | (go_at_call 16; (with_reducible refine (sane_any _).mono ?_); rintro e w5 ⟨rfl, hb5⟩; obtain ⟨hc5, hf5, hz5, hr5⟩ := bfacts hb5; (try simp only [World.size_alloc, World.size_setCell, World.size_drew, World.size_drewN] at hz5 hr5); (try have hs5_w_0 : w.heap.size < w5.heap.size := by omega); (try have hs5_w_1 : w.heap.size + 1 < w5.heap.size := by omega); (try have hs5_w1_0 : w1.heap.size < w5.heap.size := by omega); (try have hs5_w2_0 : w2.heap.size < w5.heap.size := by omega); (try have hs5_w3_0 : w3.heap.size < w5.heap.size := by omega)))
    go_ret
    exact ⟨rfl, by (repeat' (first | (with_reducible exact Below.refl _ _) | (with_reducible assumption) | (with_reducible refine Below.alloc ?_ ?_ _) | (with_reducible refine Below.drew ?_) | (with_reducible refine Below.draws ?_ _) | (with_reducible refine Below.setCell ?_ ?_ _) | (refine Below.then ?_ (by with_reducible assumption)) | go_size))⟩
end Go.Proofs.Ytfiggbeaomkepaa
