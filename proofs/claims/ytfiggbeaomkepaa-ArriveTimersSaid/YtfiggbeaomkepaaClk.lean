/- Contracts of the functions on clocks (Reading, When and what they call), and of Looser. The conditions are the ones that each contract names. -/
import Derived.Test.YtfiggbeaomkepaaNum
namespace Go.Proofs.Ytfiggbeaomkepaa
open Go.RowKit
set_option linter.unusedSimpArgs false
set_option linter.unusedVariables false
theorem ediv_of {a b q r : Int} (hb : 0 < b) (h : a = b * q + r) (h0 : 0 ≤ r) (h1 : r < b) : a / b = q := by
  have := (Int.ediv_emod_unique (a := a) (b := b) (r := r) (q := q) hb).2 ⟨by omega, h0, h1⟩
  exact this.1
theorem floor_pos {a b : Int} (hb : 1 ≤ b) (h : a.tmod b < 0) : a.tdiv b - 1 = a / b := by
  by_cases ha : 0 ≤ a
  · rw [Int.tmod_eq_emod_of_nonneg ha] at h
    have := Int.emod_nonneg a (b := b) (by omega)
    omega
  · obtain ⟨c, rfl⟩ : ∃ c, a = -c := ⟨-a, by omega⟩
    rw [Int.neg_tmod, Int.tmod_eq_emod_of_nonneg (by omega)] at h
    rw [Int.neg_tdiv, Int.tdiv_eq_ediv_of_nonneg (by omega)]
    have e := Int.mul_ediv_add_emod c b
    have l := Int.emod_lt_of_pos c (b := b) (by omega)
    refine (ediv_of (r := b - c % b) (by omega) ?_ (by omega) (by omega)).symm
    rw [Int.mul_sub, Int.mul_neg]; omega
theorem floor_neg {a b : Int} (hb : 1 ≤ b) (h : ¬ a.tmod b < 0) : a.tdiv b = a / b := by
  by_cases ha : 0 ≤ a
  · rw [Int.tdiv_eq_ediv_of_nonneg ha]
  · obtain ⟨c, rfl⟩ : ∃ c, a = -c := ⟨-a, by omega⟩
    rw [Int.neg_tmod, Int.tmod_eq_emod_of_nonneg (by omega)] at h
    rw [Int.neg_tdiv, Int.tdiv_eq_ediv_of_nonneg (by omega)]
    have e := Int.mul_ediv_add_emod c b
    have l := Int.emod_nonneg c (b := b) (by omega)
    refine (ediv_of (r := 0) (by omega) ?_ (by omega) (by omega)).symm
    rw [Int.mul_neg]; omega
theorem ediv_bd {a b m : Int} (hb : 1 ≤ b) (hm : 0 ≤ m) (h1 : -m ≤ a) (h2 : a ≤ m) : -m ≤ a / b ∧ a / b ≤ m := by
  constructor
  · have : -m ≤ a / b := by
      rw [Int.le_ediv_iff_mul_le (by omega)]
      have : -m * b ≤ -m * 1 := by
        rw [Int.neg_mul, Int.neg_mul]
        have := Int.mul_le_mul_of_nonneg_left hb hm
        omega
      omega
    exact this
  · by_cases ha : 0 ≤ a
    · exact Int.le_trans (Int.ediv_le_self _ ha) h2
    · have : a / b < 0 := Int.ediv_neg_of_neg_of_pos (by omega) (by omega)
      omega
theorem tdiv_bd {a b m : Int} (hb : 1 ≤ b) (hm : 0 ≤ m) (h1 : -m ≤ a) (h2 : a ≤ m) : -m ≤ a.tdiv b ∧ a.tdiv b ≤ m := by
  by_cases ha : 0 ≤ a
  · rw [Int.tdiv_eq_ediv_of_nonneg ha]; exact ediv_bd hb hm h1 h2
  · obtain ⟨c, rfl⟩ : ∃ c, a = -c := ⟨-a, by omega⟩
    rw [Int.neg_tdiv, Int.tdiv_eq_ediv_of_nonneg (by omega)]
    have := quo_bd (a := c) (g := b) (m := m) (by omega) (by omega) hb
    omega
theorem floor_any (a b : Int) (w : World) (h1 : -4000000000000 ≤ a) (h2 : a ≤ 4000000000000) (hb : 1 ≤ b) : Calls Try.prog 65 #[.int .i64 a, .int .i64 b] w fun e w' => e = .returned (.int .i64 (a / b)) ∧ w = w' := by
  obtain ⟨k1, k2⟩ := tdiv_bd hb (m := 4000000000000) (by omega) (by omega) h2
  by_cases hm : a.tmod b < 0
  · have hq := Lib.hid (floor_pos hb hm)
    go_enter Try.func65, Try.ntmps65
    go_wp2
    go_ret
    exact ⟨ret_int hq.out, rfl⟩
  · have hq := Lib.hid (floor_neg hb hm)
    go_enter Try.func65, Try.ntmps65
    go_wp2
    go_ret
    exact ⟨ret_int hq.out, rfl⟩
/-- a clock: its offset, num, den -/
def readN (o n d m : Int) : Int := o + m * n / d
theorem mul_bd {a b m k : Int} (h0 : 0 ≤ a) (h1 : a ≤ m) (h2 : 0 ≤ b) (h3 : b ≤ k) : 0 ≤ a * b ∧ a * b ≤ m * k :=
  ⟨Int.mul_nonneg h0 h2, Int.mul_le_mul h1 h3 h2 (by omega)⟩
def readR (o n d m : Int) : Int × Int := if vclk o n d && inB m 0 1000000 then (readN o n d m, 0) else (0, 1)
theorem reading_any (o n d m : Int) (w : World) : Calls Try.prog 17 #[patV o n d, .int .i64 m] w fun e w' => e = rP (readR o n d m) ∧ Below w.heap.size w w' := by
  by_cases h : (vclk o n d && inB m 0 1000000) = true
  · rw [readR, if_pos h]
    obtain ⟨h1, h2⟩ := Bool.and_eq_true_iff.1 h
    obtain ⟨k1, k2, k3⟩ := vclk_iff.1 h1
    obtain ⟨k4, k5⟩ := inB_iff.1 h2
    clear h
    obtain ⟨q1, q2⟩ := mul_bd k4 k5 (b := n) (k := 1000) (by omega) (by omega)
    obtain ⟨q3, q4⟩ := quo_bd (a := m * n) (g := d) (m := 1000000000) q1 (by omega) (by omega)
    go_enter Try.func17, Try.ntmps17
    go_wp2_with (first | (go_at_call 48; refine (within_any _ _ _ _).mono ?_; rintro e w1 ⟨rfl, rfl⟩) | (go_at_call 21; refine (validClock_any _ _ _ _).mono ?_; rintro e w1 ⟨rfl, hb1⟩; obtain ⟨hc1, hf1, hz1, hr1⟩ := bfacts hb1; (try simp only [World.size_alloc, World.size_setCell, World.size_drew, World.size_drewN] at hz1 hr1); (try have hw0 : w.heap.size < w1.heap.size := by omega); (try have hw1 : w.heap.size + 1 < w1.heap.size := by omega); (try have hw2 : w.heap.size + 1 + 1 < w1.heap.size := by omega)))
    go_quiet (fail)
    go_wp2
    go_ret2
    exact ⟨rII_eq rfl rfl, by (repeat' (first | (with_reducible exact Below.refl _ _) | (with_reducible assumption) | (with_reducible refine Below.alloc ?_ ?_ _) | (with_reducible refine Below.drew ?_) | (with_reducible refine Below.draws ?_ _) | (with_reducible refine Below.setCell ?_ ?_ _) | (refine Below.then ?_ (by with_reducible assumption)) | go_size))⟩
  · rw [readR, if_neg h]
    have H := Lib.hid h; clear h
    go_enter Try.func17, Try.ntmps17
    go_wp2_with (first | (go_at_call 48; refine (within_any _ _ _ _).mono ?_; rintro e w1 ⟨rfl, rfl⟩) | (go_at_call 21; refine (validClock_any _ _ _ _).mono ?_; rintro e w1 ⟨rfl, hb1⟩; obtain ⟨hc1, hf1, hz1, hr1⟩ := bfacts hb1; (try simp only [World.size_alloc, World.size_setCell, World.size_drew, World.size_drewN] at hz1 hr1); (try have hw0 : w.heap.size < w1.heap.size := by omega); (try have hw1 : w.heap.size + 1 < w1.heap.size := by omega); (try have hw2 : w.heap.size + 1 + 1 < w1.heap.size := by omega)))
    all_goals first | (exfalso; have := H.out; simp_all; done) | (go_ret2; exact ⟨rII_eq rfl rfl, by (repeat' (first | (with_reducible exact Below.refl _ _) | (with_reducible assumption) | (with_reducible refine Below.alloc ?_ ?_ _) | (with_reducible refine Below.drew ?_) | (with_reducible refine Below.draws ?_ _) | (with_reducible refine Below.setCell ?_ ?_ _) | (refine Below.then ?_ (by with_reducible assumption)) | go_size))⟩)
theorem rreading_any (o n d m : Int) (w : World) : Calls Try.prog 18 #[patV o n d, .int .i64 m] w fun e w' => e = rP (readR o n d m) ∧ Below w.heap.size w w' := by
  by_cases h : (vclk o n d && inB m 0 1000000) = true
  · rw [readR, if_pos h]
    obtain ⟨h1, h2⟩ := Bool.and_eq_true_iff.1 h
    obtain ⟨k1, k2, k3⟩ := vclk_iff.1 h1
    obtain ⟨k4, k5⟩ := inB_iff.1 h2
    clear h
    obtain ⟨q1, q2⟩ := mul_bd k4 k5 (b := n) (k := 1000) (by omega) (by omega)
    obtain ⟨q3, q4⟩ := quo_bd (a := m * n) (g := d) (m := 1000000000) q1 (by omega) (by omega)
    go_enter Try.func18, Try.ntmps18
    go_wp2_with (first | (go_at_call 49; refine (in_any _ _ _ _).mono ?_; rintro e w1 ⟨rfl, rfl⟩) | (go_at_call 22; refine (rvalidClock_any _ _ _ _).mono ?_; rintro e w1 ⟨rfl, hb1⟩; obtain ⟨hc1, hf1, hz1, hr1⟩ := bfacts hb1; (try simp only [World.size_alloc, World.size_setCell, World.size_drew, World.size_drewN] at hz1 hr1); (try have hw0 : w.heap.size < w1.heap.size := by omega); (try have hw1 : w.heap.size + 1 < w1.heap.size := by omega); (try have hw2 : w.heap.size + 1 + 1 < w1.heap.size := by omega)))
    go_quiet (fail)
    go_wp2
    go_ret2
    exact ⟨rII_eq rfl rfl, by (repeat' (first | (with_reducible exact Below.refl _ _) | (with_reducible assumption) | (with_reducible refine Below.alloc ?_ ?_ _) | (with_reducible refine Below.drew ?_) | (with_reducible refine Below.draws ?_ _) | (with_reducible refine Below.setCell ?_ ?_ _) | (refine Below.then ?_ (by with_reducible assumption)) | go_size))⟩
  · rw [readR, if_neg h]
    have H := Lib.hid h; clear h
    go_enter Try.func18, Try.ntmps18
    go_wp2_with (first | (go_at_call 49; refine (in_any _ _ _ _).mono ?_; rintro e w1 ⟨rfl, rfl⟩) | (go_at_call 22; refine (rvalidClock_any _ _ _ _).mono ?_; rintro e w1 ⟨rfl, hb1⟩; obtain ⟨hc1, hf1, hz1, hr1⟩ := bfacts hb1; (try simp only [World.size_alloc, World.size_setCell, World.size_drew, World.size_drewN] at hz1 hr1); (try have hw0 : w.heap.size < w1.heap.size := by omega); (try have hw1 : w.heap.size + 1 < w1.heap.size := by omega); (try have hw2 : w.heap.size + 1 + 1 < w1.heap.size := by omega)))
    all_goals first | (exfalso; have := H.out; simp_all; done) | (go_ret2; exact ⟨rII_eq rfl rfl, by (repeat' (first | (with_reducible exact Below.refl _ _) | (with_reducible assumption) | (with_reducible refine Below.alloc ?_ ?_ _) | (with_reducible refine Below.drew ?_) | (with_reducible refine Below.draws ?_ _) | (with_reducible refine Below.setCell ?_ ?_ _) | (refine Below.then ?_ (by with_reducible assumption)) | go_size))⟩)
/-- the least moment at which a clock shows at least r -/
def whenN (o n d r : Int) : Int := if r ≤ o then 0 else ((r - o) * d + n - 1) / n
theorem when_neg {x n : Int} (hn : 1 ≤ n) : -(-x / n) = (x + n - 1) / n := by
  have e := Int.mul_ediv_add_emod (x + n - 1) n
  have l := Int.emod_lt_of_pos (x + n - 1) (b := n) (by omega)
  have l0 := Int.emod_nonneg (x + n - 1) (b := n) (by omega)
  have : -x / n = -((x + n - 1) / n) := by
    refine ediv_of (r := n - 1 - (x + n - 1) % n) (by omega) ?_ (by omega) (by omega)
    rw [Int.mul_neg]; omega
  omega
theorem when_any (o n d r : Int) (w : World) (hv : vclk o n d = true) (hr : -1000000000 ≤ r) (hr' : r ≤ 1000000000) : Calls Try.prog 50 #[patV o n d, .int .i64 r] w fun e w' => e = .returned (.int .i64 (whenN o n d r)) ∧ Below w.heap.size w w' := by
  obtain ⟨k1, k2, k3⟩ := vclk_iff.1 hv
  by_cases h : r ≤ o
  · go_enter Try.func50, Try.ntmps50
    go_wp2
    go_ret
    exact ⟨ret_int (by simp [whenN, h]), by (repeat' (first | (with_reducible exact Below.refl _ _) | (with_reducible assumption) | (with_reducible refine Below.alloc ?_ ?_ _) | (with_reducible refine Below.drew ?_) | (with_reducible refine Below.draws ?_ _) | (with_reducible refine Below.setCell ?_ ?_ _) | (refine Below.then ?_ (by with_reducible assumption)) | go_size))⟩
  · obtain ⟨q1, q2⟩ := mul_bd (a := r - o) (m := 1001000000) (by omega) (by omega) (b := d) (k := 1000) (by omega) (by omega)
    have q3 : -(r - o) * d = -((r - o) * d) := Int.neg_mul _ _
    have Q3 := Lib.hid q3
    have q5 : -1001000000000 ≤ -(r - o) * d := by omega
    have q6 : -(r - o) * d ≤ 0 := by omega
    clear q3
    obtain ⟨q7, q8⟩ := ediv_bd (a := -(r - o) * d) (b := n) (m := 1001000000000) (by omega) (by omega) (by omega) (by omega)
    go_enter Try.func50, Try.ntmps50
    go_wp2_with (go_at_call 65; refine (floor_any _ _ _ (by omega) (by omega) (by omega)).mono ?_; rintro e w1 ⟨rfl, rfl⟩)
    go_ret
    exact ⟨ret_int (by rw [whenN, if_neg (by omega), Q3.out]; exact when_neg (by omega)), by (repeat' (first | (with_reducible exact Below.refl _ _) | (with_reducible assumption) | (with_reducible refine Below.alloc ?_ ?_ _) | (with_reducible refine Below.drew ?_) | (with_reducible refine Below.draws ?_ _) | (with_reducible refine Below.setCell ?_ ?_ _) | (refine Below.then ?_ (by with_reducible assumption)) | go_size))⟩
theorem reached_any (o n d r : Int) (w : World) (hv : vclk o n d = true) (hr : -1000000000 ≤ r) (hr' : r ≤ 1000000000) : Calls Try.prog 51 #[patV o n d, .int .i64 r] w fun e w' => e = .returned (.int .i64 (whenN o n d r)) ∧ Below w.heap.size w w' := by
  obtain ⟨k1, k2, k3⟩ := vclk_iff.1 hv
  by_cases h : r ≤ o
  · go_enter Try.func51, Try.ntmps51
    go_wp2
    go_ret
    exact ⟨ret_int (by simp [whenN, h]), by (repeat' (first | (with_reducible exact Below.refl _ _) | (with_reducible assumption) | (with_reducible refine Below.alloc ?_ ?_ _) | (with_reducible refine Below.drew ?_) | (with_reducible refine Below.draws ?_ _) | (with_reducible refine Below.setCell ?_ ?_ _) | (refine Below.then ?_ (by with_reducible assumption)) | go_size))⟩
  · obtain ⟨q1, q2⟩ := mul_bd (a := r - o) (m := 1001000000) (by omega) (by omega) (b := d) (k := 1000) (by omega) (by omega)
    obtain ⟨q7, q8⟩ := ediv_bd (a := (r - o) * d + n - 1) (b := n) (m := 1002000000000) (by omega) (by omega) (by omega) (by omega)
    go_enter Try.func51, Try.ntmps51
    go_wp2
    go_ret
    exact ⟨ret_int (by rw [whenN, if_neg (by omega)]), by (repeat' (first | (with_reducible exact Below.refl _ _) | (with_reducible assumption) | (with_reducible refine Below.alloc ?_ ?_ _) | (with_reducible refine Below.drew ?_) | (with_reducible refine Below.draws ?_ _) | (with_reducible refine Below.setCell ?_ ?_ _) | (refine Below.then ?_ (by with_reducible assumption)) | go_size))⟩
def whenR (o n d r : Int) : Int × Int := if vclk o n d && inB r (-1000000000) 1000000000 then (if whenN o n d r > 1000000000 then (0, 3) else (whenN o n d r, 0)) else (0, 1)
theorem When_any (o n d r : Int) (w : World) : Calls Try.prog 19 #[patV o n d, .int .i64 r] w fun e w' => e = rP (whenR o n d r) ∧ Below w.heap.size w w' := by
  by_cases h : (vclk o n d && inB r (-1000000000) 1000000000) = true
  · rw [whenR, if_pos h]
    obtain ⟨h1, h2⟩ := Bool.and_eq_true_iff.1 h
    obtain ⟨k4, k5⟩ := inB_iff.1 h2
    clear h
    go_enter Try.func19, Try.ntmps19
    go_wp2_with (first | (go_at_call 48; refine (within_any _ _ _ _).mono ?_; rintro e w1 ⟨rfl, rfl⟩) | (go_at_call 21; refine (validClock_any _ _ _ _).mono ?_; rintro e w1 ⟨rfl, hb1⟩; obtain ⟨hc1, hf1, hz1, hr1⟩ := bfacts hb1; (try simp only [World.size_alloc, World.size_setCell, World.size_drew, World.size_drewN] at hz1 hr1); (try have hw0 : w.heap.size < w1.heap.size := by omega); (try have hw1 : w.heap.size + 1 < w1.heap.size := by omega); (try have hw2 : w.heap.size + 1 + 1 < w1.heap.size := by omega)) | (go_at_call 50; refine (when_any _ _ _ _ _ h1 k4 k5).mono ?_; rintro e w1 ⟨rfl, hb1⟩; obtain ⟨hc1, hf1, hz1, hr1⟩ := bfacts hb1; (try simp only [World.size_alloc, World.size_setCell, World.size_drew, World.size_drewN] at hz1 hr1); (try have hw0 : w.heap.size < w1.heap.size := by omega); (try have hw1 : w.heap.size + 1 < w1.heap.size := by omega); (try have hw2 : w.heap.size + 1 + 1 < w1.heap.size := by omega)))
    all_goals (go_ret2; exact ⟨rII_eq rfl rfl, by (repeat' (first | (with_reducible exact Below.refl _ _) | (with_reducible assumption) | (with_reducible refine Below.alloc ?_ ?_ _) | (with_reducible refine Below.drew ?_) | (with_reducible refine Below.draws ?_ _) | (with_reducible refine Below.setCell ?_ ?_ _) | (refine Below.then ?_ (by with_reducible assumption)) | go_size))⟩)
  · rw [whenR, if_neg h]
    have H := Lib.hid h; clear h
    have hr0 : vclk o n d = true → -1000000000 ≤ r → r ≤ 1000000000 → False := fun a b c => H.out (by rw [a, inB_iff.2 ⟨b, c⟩]; rfl)
    have HR := Lib.hid hr0; clear hr0
    by_cases hv : vclk o n d = true
    · have hi : inB r (-1000000000) 1000000000 = false := by simpa [hv] using H.out
      go_enter Try.func19, Try.ntmps19
      go_wp2_with (first | (go_at_call 48; refine (within_any _ _ _ _).mono ?_; rintro e w1 ⟨rfl, rfl⟩) | (go_at_call 21; refine (validClock_any _ _ _ _).mono ?_; rintro e w1 ⟨rfl, hb1⟩; obtain ⟨hc1, hf1, hz1, hr1⟩ := bfacts hb1; (try simp only [World.size_alloc, World.size_setCell, World.size_drew, World.size_drewN] at hz1 hr1); (try have hw0 : w.heap.size < w1.heap.size := by omega); (try have hw1 : w.heap.size + 1 < w1.heap.size := by omega); (try have hw2 : w.heap.size + 1 + 1 < w1.heap.size := by omega)))
      go_ret2; exact ⟨rII_eq rfl rfl, by (repeat' (first | (with_reducible exact Below.refl _ _) | (with_reducible assumption) | (with_reducible refine Below.alloc ?_ ?_ _) | (with_reducible refine Below.drew ?_) | (with_reducible refine Below.draws ?_ _) | (with_reducible refine Below.setCell ?_ ?_ _) | (refine Below.then ?_ (by with_reducible assumption)) | go_size))⟩
    · go_enter Try.func19, Try.ntmps19
      go_wp2_with (first | (go_at_call 48; refine (within_any _ _ _ _).mono ?_; rintro e w1 ⟨rfl, rfl⟩) | (go_at_call 21; refine (validClock_any _ _ _ _).mono ?_; rintro e w1 ⟨rfl, hb1⟩; obtain ⟨hc1, hf1, hz1, hr1⟩ := bfacts hb1; (try simp only [World.size_alloc, World.size_setCell, World.size_drew, World.size_drewN] at hz1 hr1); (try have hw0 : w.heap.size < w1.heap.size := by omega); (try have hw1 : w.heap.size + 1 < w1.heap.size := by omega); (try have hw2 : w.heap.size + 1 + 1 < w1.heap.size := by omega)))
      go_ret2; exact ⟨rII_eq rfl rfl, by (repeat' (first | (with_reducible exact Below.refl _ _) | (with_reducible assumption) | (with_reducible refine Below.alloc ?_ ?_ _) | (with_reducible refine Below.drew ?_) | (with_reducible refine Below.draws ?_ _) | (with_reducible refine Below.setCell ?_ ?_ _) | (refine Below.then ?_ (by with_reducible assumption)) | go_size))⟩
theorem rWhen_any (o n d r : Int) (w : World) : Calls Try.prog 20 #[patV o n d, .int .i64 r] w fun e w' => e = rP (whenR o n d r) ∧ Below w.heap.size w w' := by
  by_cases h : (vclk o n d && inB r (-1000000000) 1000000000) = true
  · rw [whenR, if_pos h]
    obtain ⟨h1, h2⟩ := Bool.and_eq_true_iff.1 h
    obtain ⟨k4, k5⟩ := inB_iff.1 h2
    clear h
    go_enter Try.func20, Try.ntmps20
    go_wp2_with (first | (go_at_call 49; refine (in_any _ _ _ _).mono ?_; rintro e w1 ⟨rfl, rfl⟩) | (go_at_call 22; refine (rvalidClock_any _ _ _ _).mono ?_; rintro e w1 ⟨rfl, hb1⟩; obtain ⟨hc1, hf1, hz1, hr1⟩ := bfacts hb1; (try simp only [World.size_alloc, World.size_setCell, World.size_drew, World.size_drewN] at hz1 hr1); (try have hw0 : w.heap.size < w1.heap.size := by omega); (try have hw1 : w.heap.size + 1 < w1.heap.size := by omega); (try have hw2 : w.heap.size + 1 + 1 < w1.heap.size := by omega)) | (go_at_call 51; refine (reached_any _ _ _ _ _ h1 k4 k5).mono ?_; rintro e w1 ⟨rfl, hb1⟩; obtain ⟨hc1, hf1, hz1, hr1⟩ := bfacts hb1; (try simp only [World.size_alloc, World.size_setCell, World.size_drew, World.size_drewN] at hz1 hr1); (try have hw0 : w.heap.size < w1.heap.size := by omega); (try have hw1 : w.heap.size + 1 < w1.heap.size := by omega); (try have hw2 : w.heap.size + 1 + 1 < w1.heap.size := by omega)))
    all_goals (go_ret2; exact ⟨rII_eq rfl rfl, by (repeat' (first | (with_reducible exact Below.refl _ _) | (with_reducible assumption) | (with_reducible refine Below.alloc ?_ ?_ _) | (with_reducible refine Below.drew ?_) | (with_reducible refine Below.draws ?_ _) | (with_reducible refine Below.setCell ?_ ?_ _) | (refine Below.then ?_ (by with_reducible assumption)) | go_size))⟩)
  · rw [whenR, if_neg h]
    have H := Lib.hid h; clear h
    have hr0 : vclk o n d = true → -1000000000 ≤ r → r ≤ 1000000000 → False := fun a b c => H.out (by rw [a, inB_iff.2 ⟨b, c⟩]; rfl)
    have HR := Lib.hid hr0; clear hr0
    by_cases hv : vclk o n d = true
    · have hi : inB r (-1000000000) 1000000000 = false := by simpa [hv] using H.out
      go_enter Try.func20, Try.ntmps20
      go_wp2_with (first | (go_at_call 49; refine (in_any _ _ _ _).mono ?_; rintro e w1 ⟨rfl, rfl⟩) | (go_at_call 22; refine (rvalidClock_any _ _ _ _).mono ?_; rintro e w1 ⟨rfl, hb1⟩; obtain ⟨hc1, hf1, hz1, hr1⟩ := bfacts hb1; (try simp only [World.size_alloc, World.size_setCell, World.size_drew, World.size_drewN] at hz1 hr1); (try have hw0 : w.heap.size < w1.heap.size := by omega); (try have hw1 : w.heap.size + 1 < w1.heap.size := by omega); (try have hw2 : w.heap.size + 1 + 1 < w1.heap.size := by omega)))
      go_ret2; exact ⟨rII_eq rfl rfl, by (repeat' (first | (with_reducible exact Below.refl _ _) | (with_reducible assumption) | (with_reducible refine Below.alloc ?_ ?_ _) | (with_reducible refine Below.drew ?_) | (with_reducible refine Below.draws ?_ _) | (with_reducible refine Below.setCell ?_ ?_ _) | (refine Below.then ?_ (by with_reducible assumption)) | go_size))⟩
    · go_enter Try.func20, Try.ntmps20
      go_wp2_with (first | (go_at_call 49; refine (in_any _ _ _ _).mono ?_; rintro e w1 ⟨rfl, rfl⟩) | (go_at_call 22; refine (rvalidClock_any _ _ _ _).mono ?_; rintro e w1 ⟨rfl, hb1⟩; obtain ⟨hc1, hf1, hz1, hr1⟩ := bfacts hb1; (try simp only [World.size_alloc, World.size_setCell, World.size_drew, World.size_drewN] at hz1 hr1); (try have hw0 : w.heap.size < w1.heap.size := by omega); (try have hw1 : w.heap.size + 1 < w1.heap.size := by omega); (try have hw2 : w.heap.size + 1 + 1 < w1.heap.size := by omega)))
      go_ret2; exact ⟨rII_eq rfl rfl, by (repeat' (first | (with_reducible exact Below.refl _ _) | (with_reducible assumption) | (with_reducible refine Below.alloc ?_ ?_ _) | (with_reducible refine Below.drew ?_) | (with_reducible refine Below.draws ?_ _) | (with_reducible refine Below.setCell ?_ ?_ _) | (refine Below.then ?_ (by with_reducible assumption)) | go_size))⟩
def looR (f g j f' g' j' : Int) : Bool × Int := if vpat f g j && vpat f' g' j' then (decide (f' ≤ f ∧ g' ≤ g ∧ j ≤ j'), 0) else (false, 1)
theorem looser_any (f g j f' g' j' : Int) (w : World) : Calls Try.prog 31 #[patV f g j, patV f' g' j'] w fun e w' => e = rBP (looR f g j f' g' j') ∧ Below w.heap.size w w' := by
  by_cases h : vpat f g j = true <;> by_cases h' : vpat f' g' j' = true
  · rw [looR, if_pos (by simp [h, h'])]
    go_enter Try.func31, Try.ntmps31
    go_wp2_with (go_at_call 26; refine (valid_any _ _ _ _).mono ?_; rintro e w1 ⟨rfl, hb1⟩; obtain ⟨hc1, hf1, hz1, hr1⟩ := bfacts hb1; (try simp only [World.size_alloc, World.size_setCell, World.size_drew, World.size_drewN] at hz1 hr1); (try have hw0 : w.heap.size < w1.heap.size := by omega); (try have hw1 : w.heap.size + 1 < w1.heap.size := by omega); (try have hw2 : w.heap.size + 1 + 1 < w1.heap.size := by omega))
    all_goals (go_ret2; exact ⟨rBI_eq (by simp [*] <;> omega) rfl, by (repeat' (first | (with_reducible exact Below.refl _ _) | (with_reducible assumption) | (with_reducible refine Below.alloc ?_ ?_ _) | (with_reducible refine Below.drew ?_) | (with_reducible refine Below.draws ?_ _) | (with_reducible refine Below.setCell ?_ ?_ _) | (refine Below.then ?_ (by with_reducible assumption)) | go_size))⟩)
  all_goals
    rw [looR, if_neg (by simp [h, h'])]
    go_enter Try.func31, Try.ntmps31
    go_wp2_with (go_at_call 26; refine (valid_any _ _ _ _).mono ?_; rintro e w1 ⟨rfl, hb1⟩; obtain ⟨hc1, hf1, hz1, hr1⟩ := bfacts hb1; (try simp only [World.size_alloc, World.size_setCell, World.size_drew, World.size_drewN] at hz1 hr1); (try have hw0 : w.heap.size < w1.heap.size := by omega); (try have hw1 : w.heap.size + 1 < w1.heap.size := by omega); (try have hw2 : w.heap.size + 1 + 1 < w1.heap.size := by omega))
    go_ret2; exact ⟨rBI_eq rfl rfl, by (repeat' (first | (with_reducible exact Below.refl _ _) | (with_reducible assumption) | (with_reducible refine Below.alloc ?_ ?_ _) | (with_reducible refine Below.drew ?_) | (with_reducible refine Below.draws ?_ _) | (with_reducible refine Below.setCell ?_ ?_ _) | (refine Below.then ?_ (by with_reducible assumption)) | go_size))⟩
theorem rlooser_any (f g j f' g' j' : Int) (w : World) : Calls Try.prog 32 #[patV f g j, patV f' g' j'] w fun e w' => e = rBP (looR f g j f' g' j') ∧ Below w.heap.size w w' := by
  by_cases h : vpat f g j = true <;> by_cases h' : vpat f' g' j' = true
  · rw [looR, if_pos (by simp [h, h'])]
    go_enter Try.func32, Try.ntmps32
    go_wp2_with (go_at_call 27; refine (rvalid_any _ _ _ _).mono ?_; rintro e w1 ⟨rfl, hb1⟩; obtain ⟨hc1, hf1, hz1, hr1⟩ := bfacts hb1; (try simp only [World.size_alloc, World.size_setCell, World.size_drew, World.size_drewN] at hz1 hr1); (try have hw0 : w.heap.size < w1.heap.size := by omega); (try have hw1 : w.heap.size + 1 < w1.heap.size := by omega); (try have hw2 : w.heap.size + 1 + 1 < w1.heap.size := by omega))
    all_goals (go_ret2; exact ⟨rBI_eq (by simp [*] <;> omega) rfl, by (repeat' (first | (with_reducible exact Below.refl _ _) | (with_reducible assumption) | (with_reducible refine Below.alloc ?_ ?_ _) | (with_reducible refine Below.drew ?_) | (with_reducible refine Below.draws ?_ _) | (with_reducible refine Below.setCell ?_ ?_ _) | (refine Below.then ?_ (by with_reducible assumption)) | go_size))⟩)
  all_goals
    rw [looR, if_neg (by simp [h, h'])]
    go_enter Try.func32, Try.ntmps32
    go_wp2_with (go_at_call 27; refine (rvalid_any _ _ _ _).mono ?_; rintro e w1 ⟨rfl, hb1⟩; obtain ⟨hc1, hf1, hz1, hr1⟩ := bfacts hb1; (try simp only [World.size_alloc, World.size_setCell, World.size_drew, World.size_drewN] at hz1 hr1); (try have hw0 : w.heap.size < w1.heap.size := by omega); (try have hw1 : w.heap.size + 1 < w1.heap.size := by omega); (try have hw2 : w.heap.size + 1 + 1 < w1.heap.size := by omega))
    go_ret2; exact ⟨rBI_eq rfl rfl, by (repeat' (first | (with_reducible exact Below.refl _ _) | (with_reducible assumption) | (with_reducible refine Below.alloc ?_ ?_ _) | (with_reducible refine Below.drew ?_) | (with_reducible refine Below.draws ?_ _) | (with_reducible refine Below.setCell ?_ ?_ _) | (refine Below.then ?_ (by with_reducible assumption)) | go_size))⟩
end Go.Proofs.Ytfiggbeaomkepaa
