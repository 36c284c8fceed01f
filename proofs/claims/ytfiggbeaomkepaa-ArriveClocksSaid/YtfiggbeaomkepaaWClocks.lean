/- The walk of ArriveClocks: it returns true. No condition. -/
import Derived.Test.YtfiggbeaomkepaaSane
import Derived.Test.YtfiggbeaomkepaaOpen
namespace Go.Proofs.Ytfiggbeaomkepaa
open Go.RowKit
set_option linter.unusedSimpArgs false
set_option linter.unusedVariables false
theorem readN_mono {o n d m : Int} (hn : 1 ≤ n) (hd : 1 ≤ d) : readN o n d m ≤ readN o n d (m + 1) := by
  unfold readN
  have := Int.ediv_le_ediv (c := d) (by omega) (show m * n ≤ (m + 1) * n by rw [Int.add_mul]; omega)
  omega
theorem whenN_nonneg {o n d r : Int} (hn : 1 ≤ n) (hd : 1 ≤ d) : 0 ≤ whenN o n d r := by
  unfold whenN
  split
  · omega
  · have := Int.mul_nonneg (show 0 ≤ r - o by omega) (show 0 ≤ d by omega)
    exact Int.ediv_nonneg (by omega) (by omega)
theorem readN_when {o n d r : Int} (hn : 1 ≤ n) (hd : 1 ≤ d) : r ≤ readN o n d (whenN o n d r) := by
  unfold readN whenN
  split
  · simp; omega
  · have e := Int.mul_ediv_add_emod ((r - o) * d + n - 1) n
    have l := Int.emod_lt_of_pos ((r - o) * d + n - 1) (b := n) (by omega)
    have : r - o ≤ ((r - o) * d + n - 1) / n * n / d := by
      rw [Int.le_ediv_iff_mul_le (by omega), Int.mul_comm _ n]
      omega
    omega
theorem readN_before {o n d r : Int} (hn : 1 ≤ n) (hd : 1 ≤ d) (h : 0 < whenN o n d r) : readN o n d (whenN o n d r - 1) < r := by
  unfold readN whenN at *
  split at h
  · omega
  · rename_i hr
    rw [if_neg hr]
    have e := Int.mul_ediv_add_emod ((r - o) * d + n - 1) n
    have l := Int.emod_nonneg ((r - o) * d + n - 1) (b := n) (by omega)
    have : (((r - o) * d + n - 1) / n - 1) * n / d < r - o := by
      rw [Int.ediv_lt_iff_lt_mul (by omega), Int.sub_mul, Int.mul_comm _ n]
      omega
    omega
theorem readR_ok {o n d m : Int} (hv : vclk o n d = true) (h0 : 0 ≤ m) (h1 : m ≤ 1000000) : readR o n d m = (readN o n d m, 0) := by
  rw [readR, if_pos (by rw [hv, inB_iff.2 ⟨h0, h1⟩]; rfl)]
theorem readR_cases (o n d m : Int) : (vclk o n d = true ∧ 0 ≤ m ∧ m ≤ 1000000 ∧ readR o n d m = (readN o n d m, 0)) ∨ readR o n d m = (0, 1) := by
  by_cases h : (vclk o n d && inB m 0 1000000) = true
  · obtain ⟨h1, h2⟩ := Bool.and_eq_true_iff.1 h
    exact .inl ⟨h1, (inB_iff.1 h2).1, (inB_iff.1 h2).2, by rw [readR, if_pos h]⟩
  · exact .inr (by rw [readR, if_neg h])
theorem whenR_cases (o n d r : Int) : (vclk o n d = true ∧ 0 ≤ whenN o n d r ∧ whenN o n d r ≤ 1000000000 ∧ whenR o n d r = (whenN o n d r, 0)) ∨ (∃ e, e ≠ 0 ∧ whenR o n d r = (0, e)) := by
  unfold whenR
  split
  · rename_i h
    obtain ⟨h1, h2⟩ := Bool.and_eq_true_iff.1 h
    obtain ⟨k1, k2, k3⟩ := vclk_iff.1 h1
    split
    · exact .inr ⟨3, by omega, rfl⟩
    · exact .inl ⟨h1, whenN_nonneg (by omega) (by omega), by omega, rfl⟩
  · exact .inr ⟨1, by omega, rfl⟩
set_option maxHeartbeats 1000000 in
theorem arriveClocks_walk (o n d : Int) (m : Int) (bm : -9223372036854775808 ≤ m ∧ m ≤ 9223372036854775807) (r : Int) (br : -9223372036854775808 ≤ r ∧ r ≤ 9223372036854775807) (w : World) :
    Calls Try.prog 4 #[patV o n d, .int .i64 m, .int .i64 r] w fun e w' => e = .returned (.bool true) ∧ Below w.heap.size w w' := by
  have hn0 : vclk o n d = true → 1 ≤ n ∧ 1 ≤ d := fun h => by obtain ⟨k1, k2, k3⟩ := vclk_iff.1 h; omega
  rcases readR_cases o n d m with ⟨hv, m0, m1, e1⟩ | e1
  · obtain ⟨n1, d1⟩ := hn0 hv
    clear hn0
    have f1 : decide (readN o n d (m + 1) < readN o n d m) = false := by have := readN_mono (o := o) (m := m) n1 d1; simpa using this
    have f2 : m < 1000000 → readR o n d (m + 1) = (readN o n d (m + 1), 0) := fun h => readR_ok hv (by omega) (by omega)
    rcases whenR_cases o n d r with ⟨_, x0, x1, e2⟩ | ⟨e, he, e2⟩
    · have g1 := readN_when (o := o) (r := r) n1 d1
      have g2 := fun h => readN_before (o := o) (n := n) (d := d) (r := r) n1 d1 h
      generalize whenN o n d r = x at *
      have g3 : decide (readN o n d x < r) = false := by simpa using g1
      by_cases c1 : m < 1000000
      all_goals  by_cases c2 : x ≤ 1000000
      all_goals by_cases c3 : 0 < x
      all_goals
        (try have g4 : decide (r ≤ readN o n d (x - 1)) = false := by have := g2 c3; simpa using this)
        (try have g5 : readR o n d (x - 1) = (readN o n d (x - 1), 0) := readR_ok hv (by omega) (by omega))
        (try have g6 : readR o n d x = (readN o n d x, 0) := readR_ok hv (by omega) (by omega))
        (try have f3 := f2 c1)
        clear f2 g1 g2
        go_enter Try.func4, Try.ntmps4
        go_wp2_with (first | (go_at_call 17; refine (reading_any _ _ _ _ _).mono ?_; rintro e w1 ⟨rfl, hb1⟩; obtain ⟨hc1, hf1, hz1, hr1⟩ := bfacts hb1; (try simp only [World.size_alloc, World.size_setCell, World.size_drew, World.size_drewN] at hz1 hr1); (try have hw0 : w.heap.size < w1.heap.size := by omega); (try have hw1 : w.heap.size + 1 < w1.heap.size := by omega); (try have hw2 : w.heap.size + 1 + 1 < w1.heap.size := by omega)) | (go_at_call 18; refine (rreading_any _ _ _ _ _).mono ?_; rintro e w1 ⟨rfl, hb1⟩; obtain ⟨hc1, hf1, hz1, hr1⟩ := bfacts hb1; (try simp only [World.size_alloc, World.size_setCell, World.size_drew, World.size_drewN] at hz1 hr1); (try have hw0 : w.heap.size < w1.heap.size := by omega); (try have hw1 : w.heap.size + 1 < w1.heap.size := by omega); (try have hw2 : w.heap.size + 1 + 1 < w1.heap.size := by omega)) | (go_at_call 19; refine (When_any _ _ _ _ _).mono ?_; rintro e w1 ⟨rfl, hb1⟩; obtain ⟨hc1, hf1, hz1, hr1⟩ := bfacts hb1; (try simp only [World.size_alloc, World.size_setCell, World.size_drew, World.size_drewN] at hz1 hr1); (try have hw0 : w.heap.size < w1.heap.size := by omega); (try have hw1 : w.heap.size + 1 < w1.heap.size := by omega); (try have hw2 : w.heap.size + 1 + 1 < w1.heap.size := by omega)) | (go_at_call 20; refine (rWhen_any _ _ _ _ _).mono ?_; rintro e w1 ⟨rfl, hb1⟩; obtain ⟨hc1, hf1, hz1, hr1⟩ := bfacts hb1; (try simp only [World.size_alloc, World.size_setCell, World.size_drew, World.size_drewN] at hz1 hr1); (try have hw0 : w.heap.size < w1.heap.size := by omega); (try have hw1 : w.heap.size + 1 < w1.heap.size := by omega); (try have hw2 : w.heap.size + 1 + 1 < w1.heap.size := by omega)) | (go_at_call 16; refine (sane_any _).mono ?_; rintro e w1 ⟨rfl, hb1⟩; obtain ⟨hc1, hf1, hz1, hr1⟩ := bfacts hb1; (try simp only [World.size_alloc, World.size_setCell, World.size_drew, World.size_drewN] at hz1 hr1); (try have hw0 : w.heap.size < w1.heap.size := by omega); (try have hw1 : w.heap.size + 1 < w1.heap.size := by omega); (try have hw2 : w.heap.size + 1 + 1 < w1.heap.size := by omega)) | (refine wp_region_later_lit (by kernel_rfl) (by kernel_rfl) ?_; (repeat (go_big_quiet_step ((first | (go_at_call 21; exact later_of (validClock_any _ _ _ _)) | (go_at_call 22; exact later_of (rvalidClock_any _ _ _ _)))))); refine wpQuiet_nil ?_; intro w1 hb1; obtain ⟨hc1, hf1, hz1, hr1⟩ := bfacts hb1; (try simp only [World.size_alloc, World.size_setCell, World.size_drew, World.size_drewN] at hz1 hr1); (try have hw0 : w.heap.size < w1.heap.size := by omega); (try have hw1 : w.heap.size + 1 < w1.heap.size := by omega); (try have hw2 : w.heap.size + 1 + 1 < w1.heap.size := by omega)))
        all_goals (go_ret; exact ⟨rfl, by (repeat' (first | (with_reducible exact Below.refl _ _) | (with_reducible assumption) | (with_reducible refine Below.alloc ?_ ?_ _) | (with_reducible refine Below.drew ?_) | (with_reducible refine Below.draws ?_ _) | (with_reducible refine Below.setCell ?_ ?_ _) | (refine Below.then ?_ (by with_reducible assumption)) | go_size))⟩)
    · have he' : (e == 0) = false := by simpa using he
      by_cases c1 : m < 1000000
      all_goals
        (try have f3 := f2 c1)
        clear f2 he
        go_enter Try.func4, Try.ntmps4
        go_wp2_with (first | (go_at_call 17; refine (reading_any _ _ _ _ _).mono ?_; rintro e w1 ⟨rfl, hb1⟩; obtain ⟨hc1, hf1, hz1, hr1⟩ := bfacts hb1; (try simp only [World.size_alloc, World.size_setCell, World.size_drew, World.size_drewN] at hz1 hr1); (try have hw0 : w.heap.size < w1.heap.size := by omega); (try have hw1 : w.heap.size + 1 < w1.heap.size := by omega); (try have hw2 : w.heap.size + 1 + 1 < w1.heap.size := by omega)) | (go_at_call 18; refine (rreading_any _ _ _ _ _).mono ?_; rintro e w1 ⟨rfl, hb1⟩; obtain ⟨hc1, hf1, hz1, hr1⟩ := bfacts hb1; (try simp only [World.size_alloc, World.size_setCell, World.size_drew, World.size_drewN] at hz1 hr1); (try have hw0 : w.heap.size < w1.heap.size := by omega); (try have hw1 : w.heap.size + 1 < w1.heap.size := by omega); (try have hw2 : w.heap.size + 1 + 1 < w1.heap.size := by omega)) | (go_at_call 19; refine (When_any _ _ _ _ _).mono ?_; rintro e w1 ⟨rfl, hb1⟩; obtain ⟨hc1, hf1, hz1, hr1⟩ := bfacts hb1; (try simp only [World.size_alloc, World.size_setCell, World.size_drew, World.size_drewN] at hz1 hr1); (try have hw0 : w.heap.size < w1.heap.size := by omega); (try have hw1 : w.heap.size + 1 < w1.heap.size := by omega); (try have hw2 : w.heap.size + 1 + 1 < w1.heap.size := by omega)) | (go_at_call 20; refine (rWhen_any _ _ _ _ _).mono ?_; rintro e w1 ⟨rfl, hb1⟩; obtain ⟨hc1, hf1, hz1, hr1⟩ := bfacts hb1; (try simp only [World.size_alloc, World.size_setCell, World.size_drew, World.size_drewN] at hz1 hr1); (try have hw0 : w.heap.size < w1.heap.size := by omega); (try have hw1 : w.heap.size + 1 < w1.heap.size := by omega); (try have hw2 : w.heap.size + 1 + 1 < w1.heap.size := by omega)) | (go_at_call 16; refine (sane_any _).mono ?_; rintro e w1 ⟨rfl, hb1⟩; obtain ⟨hc1, hf1, hz1, hr1⟩ := bfacts hb1; (try simp only [World.size_alloc, World.size_setCell, World.size_drew, World.size_drewN] at hz1 hr1); (try have hw0 : w.heap.size < w1.heap.size := by omega); (try have hw1 : w.heap.size + 1 < w1.heap.size := by omega); (try have hw2 : w.heap.size + 1 + 1 < w1.heap.size := by omega)) | (refine wp_region_later_lit (by kernel_rfl) (by kernel_rfl) ?_; (repeat (go_big_quiet_step ((first | (go_at_call 21; exact later_of (validClock_any _ _ _ _)) | (go_at_call 22; exact later_of (rvalidClock_any _ _ _ _)))))); refine wpQuiet_nil ?_; intro w1 hb1; obtain ⟨hc1, hf1, hz1, hr1⟩ := bfacts hb1; (try simp only [World.size_alloc, World.size_setCell, World.size_drew, World.size_drewN] at hz1 hr1); (try have hw0 : w.heap.size < w1.heap.size := by omega); (try have hw1 : w.heap.size + 1 < w1.heap.size := by omega); (try have hw2 : w.heap.size + 1 + 1 < w1.heap.size := by omega)))
        all_goals (go_ret; exact ⟨rfl, by (repeat' (first | (with_reducible exact Below.refl _ _) | (with_reducible assumption) | (with_reducible refine Below.alloc ?_ ?_ _) | (with_reducible refine Below.drew ?_) | (with_reducible refine Below.draws ?_ _) | (with_reducible refine Below.setCell ?_ ?_ _) | (refine Below.then ?_ (by with_reducible assumption)) | go_size))⟩)
  · rcases whenR_cases o n d r with ⟨hv, x0, x1, e2⟩ | ⟨e, he, e2⟩
    · obtain ⟨n1, d1⟩ := hn0 hv
      clear hn0
      have g1 := readN_when (o := o) (r := r) n1 d1
      have g2 := fun h => readN_before (o := o) (n := n) (d := d) (r := r) n1 d1 h
      generalize whenN o n d r = x at *
      have g3 : decide (readN o n d x < r) = false := by simpa using g1
      by_cases c2 : x ≤ 1000000
      all_goals by_cases c3 : 0 < x
      all_goals
        (try have g4 : decide (r ≤ readN o n d (x - 1)) = false := by have := g2 c3; simpa using this)
        (try have g5 : readR o n d (x - 1) = (readN o n d (x - 1), 0) := readR_ok hv (by omega) (by omega))
        (try have g6 : readR o n d x = (readN o n d x, 0) := readR_ok hv (by omega) (by omega))
        clear g1 g2
        go_enter Try.func4, Try.ntmps4
        go_wp2_with (first | (go_at_call 17; refine (reading_any _ _ _ _ _).mono ?_; rintro e w1 ⟨rfl, hb1⟩; obtain ⟨hc1, hf1, hz1, hr1⟩ := bfacts hb1; (try simp only [World.size_alloc, World.size_setCell, World.size_drew, World.size_drewN] at hz1 hr1); (try have hw0 : w.heap.size < w1.heap.size := by omega); (try have hw1 : w.heap.size + 1 < w1.heap.size := by omega); (try have hw2 : w.heap.size + 1 + 1 < w1.heap.size := by omega)) | (go_at_call 18; refine (rreading_any _ _ _ _ _).mono ?_; rintro e w1 ⟨rfl, hb1⟩; obtain ⟨hc1, hf1, hz1, hr1⟩ := bfacts hb1; (try simp only [World.size_alloc, World.size_setCell, World.size_drew, World.size_drewN] at hz1 hr1); (try have hw0 : w.heap.size < w1.heap.size := by omega); (try have hw1 : w.heap.size + 1 < w1.heap.size := by omega); (try have hw2 : w.heap.size + 1 + 1 < w1.heap.size := by omega)) | (go_at_call 19; refine (When_any _ _ _ _ _).mono ?_; rintro e w1 ⟨rfl, hb1⟩; obtain ⟨hc1, hf1, hz1, hr1⟩ := bfacts hb1; (try simp only [World.size_alloc, World.size_setCell, World.size_drew, World.size_drewN] at hz1 hr1); (try have hw0 : w.heap.size < w1.heap.size := by omega); (try have hw1 : w.heap.size + 1 < w1.heap.size := by omega); (try have hw2 : w.heap.size + 1 + 1 < w1.heap.size := by omega)) | (go_at_call 20; refine (rWhen_any _ _ _ _ _).mono ?_; rintro e w1 ⟨rfl, hb1⟩; obtain ⟨hc1, hf1, hz1, hr1⟩ := bfacts hb1; (try simp only [World.size_alloc, World.size_setCell, World.size_drew, World.size_drewN] at hz1 hr1); (try have hw0 : w.heap.size < w1.heap.size := by omega); (try have hw1 : w.heap.size + 1 < w1.heap.size := by omega); (try have hw2 : w.heap.size + 1 + 1 < w1.heap.size := by omega)) | (go_at_call 16; refine (sane_any _).mono ?_; rintro e w1 ⟨rfl, hb1⟩; obtain ⟨hc1, hf1, hz1, hr1⟩ := bfacts hb1; (try simp only [World.size_alloc, World.size_setCell, World.size_drew, World.size_drewN] at hz1 hr1); (try have hw0 : w.heap.size < w1.heap.size := by omega); (try have hw1 : w.heap.size + 1 < w1.heap.size := by omega); (try have hw2 : w.heap.size + 1 + 1 < w1.heap.size := by omega)) | (refine wp_region_later_lit (by kernel_rfl) (by kernel_rfl) ?_; (repeat (go_big_quiet_step ((first | (go_at_call 21; exact later_of (validClock_any _ _ _ _)) | (go_at_call 22; exact later_of (rvalidClock_any _ _ _ _)))))); refine wpQuiet_nil ?_; intro w1 hb1; obtain ⟨hc1, hf1, hz1, hr1⟩ := bfacts hb1; (try simp only [World.size_alloc, World.size_setCell, World.size_drew, World.size_drewN] at hz1 hr1); (try have hw0 : w.heap.size < w1.heap.size := by omega); (try have hw1 : w.heap.size + 1 < w1.heap.size := by omega); (try have hw2 : w.heap.size + 1 + 1 < w1.heap.size := by omega)))
        all_goals (go_ret; exact ⟨rfl, by (repeat' (first | (with_reducible exact Below.refl _ _) | (with_reducible assumption) | (with_reducible refine Below.alloc ?_ ?_ _) | (with_reducible refine Below.drew ?_) | (with_reducible refine Below.draws ?_ _) | (with_reducible refine Below.setCell ?_ ?_ _) | (refine Below.then ?_ (by with_reducible assumption)) | go_size))⟩)
    · have he' : (e == 0) = false := by simpa using he
      clear he hn0
      go_enter Try.func4, Try.ntmps4
      go_wp2_with (first | (go_at_call 17; refine (reading_any _ _ _ _ _).mono ?_; rintro e w1 ⟨rfl, hb1⟩; obtain ⟨hc1, hf1, hz1, hr1⟩ := bfacts hb1; (try simp only [World.size_alloc, World.size_setCell, World.size_drew, World.size_drewN] at hz1 hr1); (try have hw0 : w.heap.size < w1.heap.size := by omega); (try have hw1 : w.heap.size + 1 < w1.heap.size := by omega); (try have hw2 : w.heap.size + 1 + 1 < w1.heap.size := by omega)) | (go_at_call 18; refine (rreading_any _ _ _ _ _).mono ?_; rintro e w1 ⟨rfl, hb1⟩; obtain ⟨hc1, hf1, hz1, hr1⟩ := bfacts hb1; (try simp only [World.size_alloc, World.size_setCell, World.size_drew, World.size_drewN] at hz1 hr1); (try have hw0 : w.heap.size < w1.heap.size := by omega); (try have hw1 : w.heap.size + 1 < w1.heap.size := by omega); (try have hw2 : w.heap.size + 1 + 1 < w1.heap.size := by omega)) | (go_at_call 19; refine (When_any _ _ _ _ _).mono ?_; rintro e w1 ⟨rfl, hb1⟩; obtain ⟨hc1, hf1, hz1, hr1⟩ := bfacts hb1; (try simp only [World.size_alloc, World.size_setCell, World.size_drew, World.size_drewN] at hz1 hr1); (try have hw0 : w.heap.size < w1.heap.size := by omega); (try have hw1 : w.heap.size + 1 < w1.heap.size := by omega); (try have hw2 : w.heap.size + 1 + 1 < w1.heap.size := by omega)) | (go_at_call 20; refine (rWhen_any _ _ _ _ _).mono ?_; rintro e w1 ⟨rfl, hb1⟩; obtain ⟨hc1, hf1, hz1, hr1⟩ := bfacts hb1; (try simp only [World.size_alloc, World.size_setCell, World.size_drew, World.size_drewN] at hz1 hr1); (try have hw0 : w.heap.size < w1.heap.size := by omega); (try have hw1 : w.heap.size + 1 < w1.heap.size := by omega); (try have hw2 : w.heap.size + 1 + 1 < w1.heap.size := by omega)) | (go_at_call 16; refine (sane_any _).mono ?_; rintro e w1 ⟨rfl, hb1⟩; obtain ⟨hc1, hf1, hz1, hr1⟩ := bfacts hb1; (try simp only [World.size_alloc, World.size_setCell, World.size_drew, World.size_drewN] at hz1 hr1); (try have hw0 : w.heap.size < w1.heap.size := by omega); (try have hw1 : w.heap.size + 1 < w1.heap.size := by omega); (try have hw2 : w.heap.size + 1 + 1 < w1.heap.size := by omega)) | (refine wp_region_later_lit (by kernel_rfl) (by kernel_rfl) ?_; (repeat (go_big_quiet_step ((first | (go_at_call 21; exact later_of (validClock_any _ _ _ _)) | (go_at_call 22; exact later_of (rvalidClock_any _ _ _ _)))))); refine wpQuiet_nil ?_; intro w1 hb1; obtain ⟨hc1, hf1, hz1, hr1⟩ := bfacts hb1; (try simp only [World.size_alloc, World.size_setCell, World.size_drew, World.size_drewN] at hz1 hr1); (try have hw0 : w.heap.size < w1.heap.size := by omega); (try have hw1 : w.heap.size + 1 < w1.heap.size := by omega); (try have hw2 : w.heap.size + 1 + 1 < w1.heap.size := by omega)))
      all_goals (go_ret; exact ⟨rfl, by (repeat' (first | (with_reducible exact Below.refl _ _) | (with_reducible assumption) | (with_reducible refine Below.alloc ?_ ?_ _) | (with_reducible refine Below.drew ?_) | (with_reducible refine Below.draws ?_ _) | (with_reducible refine Below.setCell ?_ ?_ _) | (refine Below.then ?_ (by with_reducible assumption)) | go_size))⟩)
end Go.Proofs.Ytfiggbeaomkepaa
