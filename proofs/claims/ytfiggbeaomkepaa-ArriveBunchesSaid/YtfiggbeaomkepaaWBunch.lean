/- The walk of ArriveBunches: it returns true. No condition. -/
import Derived.Test.YtfiggbeaomkepaaWDense
import Derived.Test.YtfiggbeaomkepaaCount
namespace Go.Proofs.Ytfiggbeaomkepaa
open Go.RowKit
set_option linter.unusedSimpArgs false
set_option linter.unusedVariables false
theorem bunch_fine {f g j at_ : Int} {m : Nat} (hv : vpat f g j = true) (hm : m ≤ 40) (h1 : f ≤ at_) (h2 : at_ ≤ 500000) : listE (bunchL (max f (at_ - j)) g at_ m) = 0 := by
  obtain ⟨k1, k2, k3⟩ := vpat_iff.1 hv
  refine listE_of (fun x hx => ?_) (by simp [bunchL]; omega)
  simp only [bunchL, List.mem_map, List.mem_range] at hx
  obtain ⟨i, hi, rfl⟩ := hx
  obtain ⟨q1, q2⟩ := mul_bd (a := (i : Int)) (m := 40) (by omega) (by omega) (b := g) (k := 10000) (by omega) (by omega)
  exact ⟨⟨by simp only []; omega, by simp only []; omega⟩, by simp only []; omega⟩
theorem bunch_allowed {f g j at_ : Int} {m : Nat} (hv : vpat f g j = true) (hm : m ≤ 40) (h1 : f ≤ at_) (h2 : at_ ≤ 500000) : allowR f g j (bunchL (max f (at_ - j)) g at_ m) = (true, 0) := by
  obtain ⟨k1, k2, k3⟩ := vpat_iff.1 hv
  rw [allowR, if_pos hv, if_pos (bunch_fine hv hm h1 h2)]
  have := allowGo_range g j (by omega) (fun i => max (at_ - (max f (at_ - j) + i * g)) 0) (fun i => by
    have := Int.mul_nonneg (show (0 : Int) ≤ i by omega) (show 0 ≤ g by omega)
    omega) m 0 (max f (at_ - j)) f (by simp; omega)
  rw [bunchL, List.range_eq_range']
  exact congrArg (fun b => (b, (0 : Int))) this
theorem countN_all {from_ to : Int} : ∀ (xs : List P2), (∀ x ∈ xs, from_ ≤ x.1 + x.2 ∧ x.1 + x.2 < to) → countN from_ to xs = xs.length
  | [], _ => rfl
  | x :: xs, h => by
    rw [countN, if_pos (h x (by simp)), countN_all xs (fun y hy => h y (by simp [hy])), List.length_cons]; omega
theorem bunch_count {f g j at_ win : Int} {m : Nat} (hv : vpat f g j = true) (hm : m ≤ 40) (h1 : f ≤ at_ - j) (h2 : at_ ≤ 500000) (hw : 1 ≤ win) (hw2 : win ≤ 100000) (hk : mostN g j win = m) :
    countR at_ (at_ + win) (bunchL (max f (at_ - j)) g at_ m) = ((m : Int), 0) := by
  obtain ⟨k1, k2, k3⟩ := vpat_iff.1 hv
  have hf := bunch_fine (m := m) hv hm (show f ≤ at_ by omega) h2
  rw [countR, if_pos (by rw [countC, hf]; simp; omega), if_pos hf, countN_all, bunchL_len]
  intro x hx
  simp only [bunchL, List.mem_map, List.mem_range] at hx
  obtain ⟨i, hi, rfl⟩ := hx
  have hi' : (i : Int) ≤ (win - 1 + j) / g := by rw [mostN, if_neg (by omega)] at hk; omega
  have hx := (Int.le_ediv_iff_mul_le (show 0 < g by omega)).1 hi'
  have h0 := Int.mul_nonneg (show (0 : Int) ≤ i by omega) (show 0 ≤ g by omega)
  simp only []
  omega
theorem mostN_pos {g j win : Int} (hg : 1 ≤ g) (hj : 0 ≤ j) (hw : 1 ≤ win) : 1 ≤ mostN g j win := by
  rw [mostN, if_neg (by omega)]
  have := Int.ediv_nonneg (show 0 ≤ win - 1 + j by omega) (show 0 ≤ g by omega)
  omega
set_option maxHeartbeats 2000000 in
theorem arriveBunches_walk {w : World} (f g j : Int) (at_ : Int) (ba : -9223372036854775808 ≤ at_ ∧ at_ ≤ 9223372036854775807) (n : Int) (bn : -9223372036854775808 ≤ n ∧ n ≤ 9223372036854775807) (win : Int) (bw : -9223372036854775808 ≤ win ∧ win ≤ 9223372036854775807) :
    Calls Try.prog 9 #[patV f g j, .int .i64 at_, .int .i64 n, .int .i64 win] w fun e w' => e = .returned (.bool true) ∧ Below w.heap.size w w' := by
  have ht : ∀ xs : List P2, decide (xs = xs) = true := by simp
  have b1 := fun w => bunch_any f g j at_ n w
  have b2 := fun w => rbunch_any f g j at_ n w
  by_cases hc : bunchC f g j at_ n = true
  · simp only [hc, if_true] at b1 b2
    simp only [bunchC, Bool.and_eq_true, inB_iff] at hc
    obtain ⟨⟨hv, h2, h3⟩, h4, h5⟩ := hc
    obtain ⟨k, rfl⟩ := Int.eq_ofNat_of_zero_le h2
    simp only [Int.toNat_natCast] at b1 b2
    have e1 := bunch_allowed (m := k) hv (by omega) h4 h5
    obtain ⟨k1, k2, k3⟩ := vpat_iff.1 hv
    have B1 := Lib.hid b1; have B2 := Lib.hid b2; clear b1 b2
    by_cases hw : 1 ≤ win ∧ win ≤ 100000 ∧ f ≤ at_ - j
    · obtain ⟨w1, w2, w3⟩ := hw
      have e2 : mostR f g j win = (mostN g j win, 0) := by rw [mostR, hv, inB_iff.2 (by omega)]; rfl
      have hp := mostN_pos (g := g) (j := j) (win := win) (by omega) (by omega) w1
      obtain ⟨K, hK⟩ := Int.eq_ofNat_of_zero_le (show 0 ≤ mostN g j win by omega)
      have HK := Lib.hid hK
      rw [hK] at e2 hp
      clear hK
      by_cases h40 : K ≤ 40
      · have b3 : ∀ w, Calls Try.prog 35 #[patV f g j, .int .i64 at_, .int .i64 K] w (OutP w.heap.size w (bunchL (max f (at_ - j)) g at_ K) 0) := fun w => by
          have := bunch_any f g j at_ K w
          have hcK : bunchC f g j at_ K = true := by simp only [bunchC, Bool.and_eq_true, inB_iff]; exact ⟨⟨hv, by omega, by omega⟩, h4, h5⟩
          simp only [hcK, if_true, Int.toNat_natCast] at this
          exact this
        have B3 := Lib.hid b3; clear b3
        have e3 := bunch_count (m := K) hv h40 w3 h5 w1 w2 HK.out
        clear hv
        go_enter Try.func9, Try.ntmps9
        go_wp2_with (first
          | (go_at_call 35; (with_reducible refine (B1.out _).mono ?_); rintro e w1 ⟨a1, n1, c1, rfl, hO1, hb1⟩; have HO1 := Lib.hid (OutP.rd hO1); clear hO1; obtain ⟨hc1, hf1, hz1, hr1⟩ := bfacts hb1; (try simp only [World.size_alloc, World.size_setCell, World.size_drew, World.size_drewN] at hz1 hr1); (try have hw0 : w.heap.size < w1.heap.size := by omega); (try have hw1 : w.heap.size + 1 < w1.heap.size := by omega); (try have hw2 : w.heap.size + 1 + 1 < w1.heap.size := by omega))
          | (go_at_call 36; (with_reducible refine (B2.out _).mono ?_); rintro e w1 ⟨a2, n2, c2, rfl, hO2, hb1⟩; have HO2 := Lib.hid (OutP.rd hO2); clear hO2; obtain ⟨hc1, hf1, hz1, hr1⟩ := bfacts hb1; (try simp only [World.size_alloc, World.size_setCell, World.size_drew, World.size_drewN] at hz1 hr1); (try have hw0 : w.heap.size < w1.heap.size := by omega); (try have hw1 : w.heap.size + 1 < w1.heap.size := by omega); (try have hw2 : w.heap.size + 1 + 1 < w1.heap.size := by omega))
          | (go_at_call 35; (with_reducible refine (B3.out _).mono ?_); rintro e w1 ⟨a3, n3, c3, rfl, hO3, hb1⟩; have HO3 := Lib.hid (OutP.rd hO3); clear hO3; obtain ⟨hc1, hf1, hz1, hr1⟩ := bfacts hb1; (try simp only [World.size_alloc, World.size_setCell, World.size_drew, World.size_drewN] at hz1 hr1); (try have hw0 : w.heap.size < w1.heap.size := by omega); (try have hw1 : w.heap.size + 1 < w1.heap.size := by omega); (try have hw2 : w.heap.size + 1 + 1 < w1.heap.size := by omega))
          | (go_at_call 28; refine (pairs_any _ _ _ _ _ _ _ _ _ (HO1.out.ext (by (repeat' (first | (with_reducible exact Below.refl _ _) | (with_reducible assumption) | (with_reducible refine Below.alloc ?_ ?_ _) | (with_reducible refine Below.drew ?_) | (with_reducible refine Below.draws ?_ _) | (with_reducible refine Below.setCell ?_ ?_ _) | (refine Below.then ?_ (by with_reducible assumption)) | go_size)))) HO2.out).mono ?_; rintro e w1 ⟨rfl, hb1⟩; obtain ⟨hc1, hf1, hz1, hr1⟩ := bfacts hb1; (try simp only [World.size_alloc, World.size_setCell, World.size_drew, World.size_drewN] at hz1 hr1); (try have hw0 : w.heap.size < w1.heap.size := by omega); (try have hw1 : w.heap.size + 1 < w1.heap.size := by omega); (try have hw2 : w.heap.size + 1 + 1 < w1.heap.size := by omega))
          | (go_at_call 24; refine (allowed_any _ _ _ _ _ _ _ _ (HO1.out.ext (by (repeat' (first | (with_reducible exact Below.refl _ _) | (with_reducible assumption) | (with_reducible refine Below.alloc ?_ ?_ _) | (with_reducible refine Below.drew ?_) | (with_reducible refine Below.draws ?_ _) | (with_reducible refine Below.setCell ?_ ?_ _) | (refine Below.then ?_ (by with_reducible assumption)) | go_size))))).mono ?_; rintro e w1 ⟨rfl, hb1⟩; obtain ⟨hc1, hf1, hz1, hr1⟩ := bfacts hb1; (try simp only [World.size_alloc, World.size_setCell, World.size_drew, World.size_drewN] at hz1 hr1); (try have hw0 : w.heap.size < w1.heap.size := by omega); (try have hw1 : w.heap.size + 1 < w1.heap.size := by omega); (try have hw2 : w.heap.size + 1 + 1 < w1.heap.size := by omega))
          | (go_at_call 14; refine (most_any _ _ _ _ _).mono ?_; rintro e w1 ⟨rfl, hb1⟩; obtain ⟨hc1, hf1, hz1, hr1⟩ := bfacts hb1; (try simp only [World.size_alloc, World.size_setCell, World.size_drew, World.size_drewN] at hz1 hr1); (try have hw0 : w.heap.size < w1.heap.size := by omega); (try have hw1 : w.heap.size + 1 < w1.heap.size := by omega); (try have hw2 : w.heap.size + 1 + 1 < w1.heap.size := by omega))
          | (go_at_call 37; refine (count_any _ _ _ _ _ _ _ HO3.out).mono ?_; rintro e w1 ⟨rfl, hb1⟩; obtain ⟨hc1, hf1, hz1, hr1⟩ := bfacts hb1; (try simp only [World.size_alloc, World.size_setCell, World.size_drew, World.size_drewN] at hz1 hr1); (try have hw0 : w.heap.size < w1.heap.size := by omega); (try have hw1 : w.heap.size + 1 < w1.heap.size := by omega); (try have hw2 : w.heap.size + 1 + 1 < w1.heap.size := by omega))
          | (go_at_call 16; refine (sane_any _).mono ?_; rintro e w1 ⟨rfl, hb1⟩; obtain ⟨hc1, hf1, hz1, hr1⟩ := bfacts hb1; (try simp only [World.size_alloc, World.size_setCell, World.size_drew, World.size_drewN] at hz1 hr1); (try have hw0 : w.heap.size < w1.heap.size := by omega); (try have hw1 : w.heap.size + 1 < w1.heap.size := by omega); (try have hw2 : w.heap.size + 1 + 1 < w1.heap.size := by omega)))
        go_ret
        exact ⟨rfl, by (repeat' (first | (with_reducible exact Below.refl _ _) | (with_reducible assumption) | (with_reducible refine Below.alloc ?_ ?_ _) | (with_reducible refine Below.drew ?_) | (with_reducible refine Below.draws ?_ _) | (with_reducible refine Below.setCell ?_ ?_ _) | (refine Below.then ?_ (by with_reducible assumption)) | go_size))⟩
      · clear hv
        go_enter Try.func9, Try.ntmps9
        go_wp2_with (first
          | (go_at_call 35; (with_reducible refine (B1.out _).mono ?_); rintro e w1 ⟨a1, n1, c1, rfl, hO1, hb1⟩; have HO1 := Lib.hid (OutP.rd hO1); clear hO1; obtain ⟨hc1, hf1, hz1, hr1⟩ := bfacts hb1; (try simp only [World.size_alloc, World.size_setCell, World.size_drew, World.size_drewN] at hz1 hr1); (try have hw0 : w.heap.size < w1.heap.size := by omega); (try have hw1 : w.heap.size + 1 < w1.heap.size := by omega); (try have hw2 : w.heap.size + 1 + 1 < w1.heap.size := by omega))
          | (go_at_call 36; (with_reducible refine (B2.out _).mono ?_); rintro e w1 ⟨a2, n2, c2, rfl, hO2, hb1⟩; have HO2 := Lib.hid (OutP.rd hO2); clear hO2; obtain ⟨hc1, hf1, hz1, hr1⟩ := bfacts hb1; (try simp only [World.size_alloc, World.size_setCell, World.size_drew, World.size_drewN] at hz1 hr1); (try have hw0 : w.heap.size < w1.heap.size := by omega); (try have hw1 : w.heap.size + 1 < w1.heap.size := by omega); (try have hw2 : w.heap.size + 1 + 1 < w1.heap.size := by omega))
          | (go_at_call 28; refine (pairs_any _ _ _ _ _ _ _ _ _ (HO1.out.ext (by (repeat' (first | (with_reducible exact Below.refl _ _) | (with_reducible assumption) | (with_reducible refine Below.alloc ?_ ?_ _) | (with_reducible refine Below.drew ?_) | (with_reducible refine Below.draws ?_ _) | (with_reducible refine Below.setCell ?_ ?_ _) | (refine Below.then ?_ (by with_reducible assumption)) | go_size)))) HO2.out).mono ?_; rintro e w1 ⟨rfl, hb1⟩; obtain ⟨hc1, hf1, hz1, hr1⟩ := bfacts hb1; (try simp only [World.size_alloc, World.size_setCell, World.size_drew, World.size_drewN] at hz1 hr1); (try have hw0 : w.heap.size < w1.heap.size := by omega); (try have hw1 : w.heap.size + 1 < w1.heap.size := by omega); (try have hw2 : w.heap.size + 1 + 1 < w1.heap.size := by omega))
          | (go_at_call 24; refine (allowed_any _ _ _ _ _ _ _ _ (HO1.out.ext (by (repeat' (first | (with_reducible exact Below.refl _ _) | (with_reducible assumption) | (with_reducible refine Below.alloc ?_ ?_ _) | (with_reducible refine Below.drew ?_) | (with_reducible refine Below.draws ?_ _) | (with_reducible refine Below.setCell ?_ ?_ _) | (refine Below.then ?_ (by with_reducible assumption)) | go_size))))).mono ?_; rintro e w1 ⟨rfl, hb1⟩; obtain ⟨hc1, hf1, hz1, hr1⟩ := bfacts hb1; (try simp only [World.size_alloc, World.size_setCell, World.size_drew, World.size_drewN] at hz1 hr1); (try have hw0 : w.heap.size < w1.heap.size := by omega); (try have hw1 : w.heap.size + 1 < w1.heap.size := by omega); (try have hw2 : w.heap.size + 1 + 1 < w1.heap.size := by omega))
          | (go_at_call 14; refine (most_any _ _ _ _ _).mono ?_; rintro e w1 ⟨rfl, hb1⟩; obtain ⟨hc1, hf1, hz1, hr1⟩ := bfacts hb1; (try simp only [World.size_alloc, World.size_setCell, World.size_drew, World.size_drewN] at hz1 hr1); (try have hw0 : w.heap.size < w1.heap.size := by omega); (try have hw1 : w.heap.size + 1 < w1.heap.size := by omega); (try have hw2 : w.heap.size + 1 + 1 < w1.heap.size := by omega))
          | (go_at_call 16; refine (sane_any _).mono ?_; rintro e w1 ⟨rfl, hb1⟩; obtain ⟨hc1, hf1, hz1, hr1⟩ := bfacts hb1; (try simp only [World.size_alloc, World.size_setCell, World.size_drew, World.size_drewN] at hz1 hr1); (try have hw0 : w.heap.size < w1.heap.size := by omega); (try have hw1 : w.heap.size + 1 < w1.heap.size := by omega); (try have hw2 : w.heap.size + 1 + 1 < w1.heap.size := by omega)))
        go_ret
        exact ⟨rfl, by (repeat' (first | (with_reducible exact Below.refl _ _) | (with_reducible assumption) | (with_reducible refine Below.alloc ?_ ?_ _) | (with_reducible refine Below.drew ?_) | (with_reducible refine Below.draws ?_ _) | (with_reducible refine Below.setCell ?_ ?_ _) | (refine Below.then ?_ (by with_reducible assumption)) | go_size))⟩
    · clear hv
      have HW := Lib.hid hw; clear hw
      go_enter Try.func9, Try.ntmps9
      go_wp2_with (first
        | (go_at_call 35; (with_reducible refine (B1.out _).mono ?_); rintro e w1 ⟨a1, n1, c1, rfl, hO1, hb1⟩; have HO1 := Lib.hid (OutP.rd hO1); clear hO1; obtain ⟨hc1, hf1, hz1, hr1⟩ := bfacts hb1; (try simp only [World.size_alloc, World.size_setCell, World.size_drew, World.size_drewN] at hz1 hr1); (try have hw0 : w.heap.size < w1.heap.size := by omega); (try have hw1 : w.heap.size + 1 < w1.heap.size := by omega); (try have hw2 : w.heap.size + 1 + 1 < w1.heap.size := by omega))
        | (go_at_call 36; (with_reducible refine (B2.out _).mono ?_); rintro e w1 ⟨a2, n2, c2, rfl, hO2, hb1⟩; have HO2 := Lib.hid (OutP.rd hO2); clear hO2; obtain ⟨hc1, hf1, hz1, hr1⟩ := bfacts hb1; (try simp only [World.size_alloc, World.size_setCell, World.size_drew, World.size_drewN] at hz1 hr1); (try have hw0 : w.heap.size < w1.heap.size := by omega); (try have hw1 : w.heap.size + 1 < w1.heap.size := by omega); (try have hw2 : w.heap.size + 1 + 1 < w1.heap.size := by omega))
        | (go_at_call 28; refine (pairs_any _ _ _ _ _ _ _ _ _ (HO1.out.ext (by (repeat' (first | (with_reducible exact Below.refl _ _) | (with_reducible assumption) | (with_reducible refine Below.alloc ?_ ?_ _) | (with_reducible refine Below.drew ?_) | (with_reducible refine Below.draws ?_ _) | (with_reducible refine Below.setCell ?_ ?_ _) | (refine Below.then ?_ (by with_reducible assumption)) | go_size)))) HO2.out).mono ?_; rintro e w1 ⟨rfl, hb1⟩; obtain ⟨hc1, hf1, hz1, hr1⟩ := bfacts hb1; (try simp only [World.size_alloc, World.size_setCell, World.size_drew, World.size_drewN] at hz1 hr1); (try have hw0 : w.heap.size < w1.heap.size := by omega); (try have hw1 : w.heap.size + 1 < w1.heap.size := by omega); (try have hw2 : w.heap.size + 1 + 1 < w1.heap.size := by omega))
        | (go_at_call 24; refine (allowed_any _ _ _ _ _ _ _ _ (HO1.out.ext (by (repeat' (first | (with_reducible exact Below.refl _ _) | (with_reducible assumption) | (with_reducible refine Below.alloc ?_ ?_ _) | (with_reducible refine Below.drew ?_) | (with_reducible refine Below.draws ?_ _) | (with_reducible refine Below.setCell ?_ ?_ _) | (refine Below.then ?_ (by with_reducible assumption)) | go_size))))).mono ?_; rintro e w1 ⟨rfl, hb1⟩; obtain ⟨hc1, hf1, hz1, hr1⟩ := bfacts hb1; (try simp only [World.size_alloc, World.size_setCell, World.size_drew, World.size_drewN] at hz1 hr1); (try have hw0 : w.heap.size < w1.heap.size := by omega); (try have hw1 : w.heap.size + 1 < w1.heap.size := by omega); (try have hw2 : w.heap.size + 1 + 1 < w1.heap.size := by omega))
        | (go_at_call 16; refine (sane_any _).mono ?_; rintro e w1 ⟨rfl, hb1⟩; obtain ⟨hc1, hf1, hz1, hr1⟩ := bfacts hb1; (try simp only [World.size_alloc, World.size_setCell, World.size_drew, World.size_drewN] at hz1 hr1); (try have hw0 : w.heap.size < w1.heap.size := by omega); (try have hw1 : w.heap.size + 1 < w1.heap.size := by omega); (try have hw2 : w.heap.size + 1 + 1 < w1.heap.size := by omega)))
      all_goals first
        | (go_ret; exact ⟨rfl, by (repeat' (first | (with_reducible exact Below.refl _ _) | (with_reducible assumption) | (with_reducible refine Below.alloc ?_ ?_ _) | (with_reducible refine Below.drew ?_) | (with_reducible refine Below.draws ?_ _) | (with_reducible refine Below.setCell ?_ ?_ _) | (refine Below.then ?_ (by with_reducible assumption)) | go_size))⟩)
        | (exfalso; have := HW.out; omega)
  · simp only [hc, if_false, Bool.false_eq_true] at b1 b2
    have B1 := Lib.hid b1; have B2 := Lib.hid b2; clear b1 b2 hc
    go_enter Try.func9, Try.ntmps9
    go_wp2_with (first
      | (go_at_call 35; (with_reducible refine (B1.out _).mono ?_); rintro e w1 ⟨a1, n1, c1, rfl, hO1, hb1⟩; have HO1 := Lib.hid (OutP.rd hO1); clear hO1; obtain ⟨hc1, hf1, hz1, hr1⟩ := bfacts hb1; (try simp only [World.size_alloc, World.size_setCell, World.size_drew, World.size_drewN] at hz1 hr1); (try have hw0 : w.heap.size < w1.heap.size := by omega); (try have hw1 : w.heap.size + 1 < w1.heap.size := by omega); (try have hw2 : w.heap.size + 1 + 1 < w1.heap.size := by omega))
      | (go_at_call 36; (with_reducible refine (B2.out _).mono ?_); rintro e w1 ⟨a2, n2, c2, rfl, hO2, hb1⟩; have HO2 := Lib.hid (OutP.rd hO2); clear hO2; obtain ⟨hc1, hf1, hz1, hr1⟩ := bfacts hb1; (try simp only [World.size_alloc, World.size_setCell, World.size_drew, World.size_drewN] at hz1 hr1); (try have hw0 : w.heap.size < w1.heap.size := by omega); (try have hw1 : w.heap.size + 1 < w1.heap.size := by omega); (try have hw2 : w.heap.size + 1 + 1 < w1.heap.size := by omega))
      | (go_at_call 28; refine (pairs_any _ _ _ _ _ _ _ _ _ (HO1.out.ext (by (repeat' (first | (with_reducible exact Below.refl _ _) | (with_reducible assumption) | (with_reducible refine Below.alloc ?_ ?_ _) | (with_reducible refine Below.drew ?_) | (with_reducible refine Below.draws ?_ _) | (with_reducible refine Below.setCell ?_ ?_ _) | (refine Below.then ?_ (by with_reducible assumption)) | go_size)))) HO2.out).mono ?_; rintro e w1 ⟨rfl, hb1⟩; obtain ⟨hc1, hf1, hz1, hr1⟩ := bfacts hb1; (try simp only [World.size_alloc, World.size_setCell, World.size_drew, World.size_drewN] at hz1 hr1); (try have hw0 : w.heap.size < w1.heap.size := by omega); (try have hw1 : w.heap.size + 1 < w1.heap.size := by omega); (try have hw2 : w.heap.size + 1 + 1 < w1.heap.size := by omega))
      | (go_at_call 16; refine (sane_any _).mono ?_; rintro e w1 ⟨rfl, hb1⟩; obtain ⟨hc1, hf1, hz1, hr1⟩ := bfacts hb1; (try simp only [World.size_alloc, World.size_setCell, World.size_drew, World.size_drewN] at hz1 hr1); (try have hw0 : w.heap.size < w1.heap.size := by omega); (try have hw1 : w.heap.size + 1 < w1.heap.size := by omega); (try have hw2 : w.heap.size + 1 + 1 < w1.heap.size := by omega)))
    go_ret
    exact ⟨rfl, by (repeat' (first | (with_reducible exact Below.refl _ _) | (with_reducible assumption) | (with_reducible refine Below.alloc ?_ ?_ _) | (with_reducible refine Below.drew ?_) | (with_reducible refine Below.draws ?_ _) | (with_reducible refine Below.setCell ?_ ?_ _) | (refine Below.then ?_ (by with_reducible assumption)) | go_size))⟩
end Go.Proofs.Ytfiggbeaomkepaa
