/- The walk of ArriveLooser: it returns true. No condition. -/
import Derived.Test.YtfiggbeaomkepaaWLets
import Derived.Test.YtfiggbeaomkepaaWMost
namespace Go.Proofs.Ytfiggbeaomkepaa
open Go.RowKit
set_option linter.unusedSimpArgs false
set_option linter.unusedVariables false
theorem allowGo_mono {g j g' j' : Int} (hg : g' ≤ g) (hj : j ≤ j') : ∀ (xs : List P2) (l l' : Int), l' ≤ l → allowGo g j l xs = true → allowGo g' j' l' xs = true
  | [], _, _, _, _ => rfl
  | x :: xs, l, l', hl, h => by
    unfold allowGo at h ⊢
    split at h
    · simp at h
    · rename_i h1
      rw [if_neg (by omega)]
      exact allowGo_mono hg hj xs _ _ (by omega) h
theorem ediv_anti {a g g' : Int} (ha : 0 ≤ a) (h1 : 1 ≤ g') (h2 : g' ≤ g) : a / g ≤ a / g' := by
  rw [Int.le_ediv_iff_mul_le (by omega)]
  have q := Int.ediv_nonneg ha (show 0 ≤ g by omega)
  have e := Int.mul_ediv_add_emod a g
  have l := Int.emod_nonneg a (b := g) (by omega)
  have := Int.mul_le_mul_of_nonneg_left h2 q
  rw [Int.mul_comm g] at e
  omega
theorem mostN_loose {g j g' j' win : Int} (h1 : 1 ≤ g') (h2 : g' ≤ g) (hj : 0 ≤ j) (h3 : j ≤ j') (hw : 0 ≤ win) : mostN g j win ≤ mostN g' j' win := by
  unfold mostN
  split
  · omega
  · have q1 := Int.ediv_le_ediv (c := g) (by omega) (show win - 1 + j ≤ win - 1 + j' by omega)
    have q2 := ediv_anti (a := win - 1 + j') (g := g) (g' := g') (by omega) h1 h2
    omega
theorem arriveLooser_walk {w : World} (f g j f' g' j' : Int) (a : Option Addr) (n c : Nat) (xs : List P2) (hR : Rd w a n 2 (xs.map enc2)) (hnil : n = 0 → (a = none ∧ c = 0) ∨ ∃ ad, a = some ad) (win : Int) (bw : -9223372036854775808 ≤ win ∧ win ≤ 9223372036854775807) :
    Calls Try.prog 7 #[patV f g j, patV f' g' j', .slice a n c, .int .i64 win] w fun e w' => e = .returned (.bool true) ∧ Below w.heap.size w w' := by
  have hs := hR.small
  have HR := Lib.hid hR; clear hR hnil
  by_cases hm : 300 < n
  · go_enter Try.func7, Try.ntmps7
    go_wp2_with (go_at_call 16; refine (sane_any _).mono ?_; rintro e w1 ⟨rfl, hb1⟩; obtain ⟨hc1, hf1, hz1, hr1⟩ := bfacts hb1; (try simp only [World.size_alloc, World.size_setCell, World.size_drew, World.size_drewN] at hz1 hr1); (try have hw0 : w.heap.size < w1.heap.size := by omega); (try have hw1 : w.heap.size + 1 < w1.heap.size := by omega); (try have hw2 : w.heap.size + 1 + 1 < w1.heap.size := by omega))
    go_ret
    exact ⟨rfl, by (repeat' (first | (with_reducible exact Below.refl _ _) | (with_reducible assumption) | (with_reducible refine Below.alloc ?_ ?_ _) | (with_reducible refine Below.drew ?_) | (with_reducible refine Below.draws ?_ _) | (with_reducible refine Below.setCell ?_ ?_ _) | (refine Below.then ?_ (by with_reducible assumption)) | go_size))⟩
  · have hn : n ≤ 300 := by omega
    by_cases hv : (vpat f g j && vpat f' g' j') = true
    · obtain ⟨v1, v2⟩ := Bool.and_eq_true_iff.1 hv
      by_cases hl : f' ≤ f ∧ g' ≤ g ∧ j ≤ j'
      · have e0 : looR f g j f' g' j' = (true, 0) := by rw [looR, if_pos hv, decide_eq_true hl]
        obtain ⟨k1, k2, k3⟩ := vpat_iff.1 v1
        obtain ⟨k1', k2', k3'⟩ := vpat_iff.1 v2
        obtain ⟨b1, b2, E, e1, e2, hb⟩ : ∃ b1 b2 E, allowR f g j xs = (b1, E) ∧ allowR f' g' j' xs = (b2, E) ∧ (b1 = true → b2 = true) := by
          rw [allowR, allowR, if_pos v1, if_pos v2]
          by_cases he : listE xs = 0
          · rw [if_pos he, if_pos he]
            exact ⟨_, _, _, rfl, rfl, allowGo_mono hl.2.1 hl.2.2 xs _ _ hl.1⟩
          · rw [if_neg he, if_neg he]
            exact ⟨_, _, _, rfl, rfl, id⟩
        obtain ⟨x1, x2, M, m1, m2, hx⟩ : ∃ x1 x2 M, mostR f g j win = (x1, M) ∧ mostR f' g' j' win = (x2, M) ∧ (M = 0 ∧ x1 ≤ x2 ∨ M = 1) := by
          rw [mostR, mostR, v1, v2]
          by_cases hw : inB win 0 1000000 = true
          · rw [hw]; exact ⟨_, _, _, rfl, rfl, .inl ⟨rfl, mostN_loose (by omega) hl.2.1 (by omega) hl.2.2 (inB_iff.1 hw).1⟩⟩
          · rw [Bool.not_eq_true] at hw; rw [hw]; exact ⟨_, _, _, rfl, rfl, .inr rfl⟩
        clear hv v1 v2 hl k1 k2 k3 k1' k2' k3'
        rcases hx with ⟨rfl, hx⟩ | rfl
        · have hx' : decide (x1 ≤ x2) = true := by simpa using hx
          cases b1 <;> cases b2 <;> simp at hb
          all_goals
            clear hx
            go_enter Try.func7, Try.ntmps7
            go_wp2_with (first | (go_at_call 31; refine (looser_any _ _ _ _ _ _ _).mono ?_; rintro e w1 ⟨rfl, hb1⟩; obtain ⟨hc1, hf1, hz1, hr1⟩ := bfacts hb1; (try simp only [World.size_alloc, World.size_setCell, World.size_drew, World.size_drewN] at hz1 hr1); (try have hw0 : w.heap.size < w1.heap.size := by omega); (try have hw1 : w.heap.size + 1 < w1.heap.size := by omega); (try have hw2 : w.heap.size + 1 + 1 < w1.heap.size := by omega)) | (go_at_call 32; refine (rlooser_any _ _ _ _ _ _ _).mono ?_; rintro e w1 ⟨rfl, hb1⟩; obtain ⟨hc1, hf1, hz1, hr1⟩ := bfacts hb1; (try simp only [World.size_alloc, World.size_setCell, World.size_drew, World.size_drewN] at hz1 hr1); (try have hw0 : w.heap.size < w1.heap.size := by omega); (try have hw1 : w.heap.size + 1 < w1.heap.size := by omega); (try have hw2 : w.heap.size + 1 + 1 < w1.heap.size := by omega)) | (go_at_call 24; refine (allowed_any _ _ _ _ _ _ _ _ (HR.out.ext (by (repeat' (first | (with_reducible exact Below.refl _ _) | (with_reducible assumption) | (with_reducible refine Below.alloc ?_ ?_ _) | (with_reducible refine Below.drew ?_) | (with_reducible refine Below.draws ?_ _) | (with_reducible refine Below.setCell ?_ ?_ _) | (refine Below.then ?_ (by with_reducible assumption)) | go_size))))).mono ?_; rintro e w1 ⟨rfl, hb1⟩; obtain ⟨hc1, hf1, hz1, hr1⟩ := bfacts hb1; (try simp only [World.size_alloc, World.size_setCell, World.size_drew, World.size_drewN] at hz1 hr1); (try have hw0 : w.heap.size < w1.heap.size := by omega); (try have hw1 : w.heap.size + 1 < w1.heap.size := by omega); (try have hw2 : w.heap.size + 1 + 1 < w1.heap.size := by omega)) | (go_at_call 14; refine (most_any _ _ _ _ _).mono ?_; rintro e w1 ⟨rfl, hb1⟩; obtain ⟨hc1, hf1, hz1, hr1⟩ := bfacts hb1; (try simp only [World.size_alloc, World.size_setCell, World.size_drew, World.size_drewN] at hz1 hr1); (try have hw0 : w.heap.size < w1.heap.size := by omega); (try have hw1 : w.heap.size + 1 < w1.heap.size := by omega); (try have hw2 : w.heap.size + 1 + 1 < w1.heap.size := by omega)) | (go_at_call 16; refine (sane_any _).mono ?_; rintro e w1 ⟨rfl, hb1⟩; obtain ⟨hc1, hf1, hz1, hr1⟩ := bfacts hb1; (try simp only [World.size_alloc, World.size_setCell, World.size_drew, World.size_drewN] at hz1 hr1); (try have hw0 : w.heap.size < w1.heap.size := by omega); (try have hw1 : w.heap.size + 1 < w1.heap.size := by omega); (try have hw2 : w.heap.size + 1 + 1 < w1.heap.size := by omega)))
            go_ret
            exact ⟨rfl, by (repeat' (first | (with_reducible exact Below.refl _ _) | (with_reducible assumption) | (with_reducible refine Below.alloc ?_ ?_ _) | (with_reducible refine Below.drew ?_) | (with_reducible refine Below.draws ?_ _) | (with_reducible refine Below.setCell ?_ ?_ _) | (refine Below.then ?_ (by with_reducible assumption)) | go_size))⟩
        · cases b1 <;> cases b2 <;> simp at hb
          all_goals
            go_enter Try.func7, Try.ntmps7
            go_wp2_with (first | (go_at_call 31; refine (looser_any _ _ _ _ _ _ _).mono ?_; rintro e w1 ⟨rfl, hb1⟩; obtain ⟨hc1, hf1, hz1, hr1⟩ := bfacts hb1; (try simp only [World.size_alloc, World.size_setCell, World.size_drew, World.size_drewN] at hz1 hr1); (try have hw0 : w.heap.size < w1.heap.size := by omega); (try have hw1 : w.heap.size + 1 < w1.heap.size := by omega); (try have hw2 : w.heap.size + 1 + 1 < w1.heap.size := by omega)) | (go_at_call 32; refine (rlooser_any _ _ _ _ _ _ _).mono ?_; rintro e w1 ⟨rfl, hb1⟩; obtain ⟨hc1, hf1, hz1, hr1⟩ := bfacts hb1; (try simp only [World.size_alloc, World.size_setCell, World.size_drew, World.size_drewN] at hz1 hr1); (try have hw0 : w.heap.size < w1.heap.size := by omega); (try have hw1 : w.heap.size + 1 < w1.heap.size := by omega); (try have hw2 : w.heap.size + 1 + 1 < w1.heap.size := by omega)) | (go_at_call 24; refine (allowed_any _ _ _ _ _ _ _ _ (HR.out.ext (by (repeat' (first | (with_reducible exact Below.refl _ _) | (with_reducible assumption) | (with_reducible refine Below.alloc ?_ ?_ _) | (with_reducible refine Below.drew ?_) | (with_reducible refine Below.draws ?_ _) | (with_reducible refine Below.setCell ?_ ?_ _) | (refine Below.then ?_ (by with_reducible assumption)) | go_size))))).mono ?_; rintro e w1 ⟨rfl, hb1⟩; obtain ⟨hc1, hf1, hz1, hr1⟩ := bfacts hb1; (try simp only [World.size_alloc, World.size_setCell, World.size_drew, World.size_drewN] at hz1 hr1); (try have hw0 : w.heap.size < w1.heap.size := by omega); (try have hw1 : w.heap.size + 1 < w1.heap.size := by omega); (try have hw2 : w.heap.size + 1 + 1 < w1.heap.size := by omega)) | (go_at_call 14; refine (most_any _ _ _ _ _).mono ?_; rintro e w1 ⟨rfl, hb1⟩; obtain ⟨hc1, hf1, hz1, hr1⟩ := bfacts hb1; (try simp only [World.size_alloc, World.size_setCell, World.size_drew, World.size_drewN] at hz1 hr1); (try have hw0 : w.heap.size < w1.heap.size := by omega); (try have hw1 : w.heap.size + 1 < w1.heap.size := by omega); (try have hw2 : w.heap.size + 1 + 1 < w1.heap.size := by omega)) | (go_at_call 16; refine (sane_any _).mono ?_; rintro e w1 ⟨rfl, hb1⟩; obtain ⟨hc1, hf1, hz1, hr1⟩ := bfacts hb1; (try simp only [World.size_alloc, World.size_setCell, World.size_drew, World.size_drewN] at hz1 hr1); (try have hw0 : w.heap.size < w1.heap.size := by omega); (try have hw1 : w.heap.size + 1 < w1.heap.size := by omega); (try have hw2 : w.heap.size + 1 + 1 < w1.heap.size := by omega)))
            go_ret
            exact ⟨rfl, by (repeat' (first | (with_reducible exact Below.refl _ _) | (with_reducible assumption) | (with_reducible refine Below.alloc ?_ ?_ _) | (with_reducible refine Below.drew ?_) | (with_reducible refine Below.draws ?_ _) | (with_reducible refine Below.setCell ?_ ?_ _) | (refine Below.then ?_ (by with_reducible assumption)) | go_size))⟩
      · have e0 : looR f g j f' g' j' = (false, 0) := by rw [looR, if_pos hv, decide_eq_false hl]
        clear hv v1 v2 hl
        go_enter Try.func7, Try.ntmps7
        go_wp2_with (first | (go_at_call 31; refine (looser_any _ _ _ _ _ _ _).mono ?_; rintro e w1 ⟨rfl, hb1⟩; obtain ⟨hc1, hf1, hz1, hr1⟩ := bfacts hb1; (try simp only [World.size_alloc, World.size_setCell, World.size_drew, World.size_drewN] at hz1 hr1); (try have hw0 : w.heap.size < w1.heap.size := by omega); (try have hw1 : w.heap.size + 1 < w1.heap.size := by omega); (try have hw2 : w.heap.size + 1 + 1 < w1.heap.size := by omega)) | (go_at_call 32; refine (rlooser_any _ _ _ _ _ _ _).mono ?_; rintro e w1 ⟨rfl, hb1⟩; obtain ⟨hc1, hf1, hz1, hr1⟩ := bfacts hb1; (try simp only [World.size_alloc, World.size_setCell, World.size_drew, World.size_drewN] at hz1 hr1); (try have hw0 : w.heap.size < w1.heap.size := by omega); (try have hw1 : w.heap.size + 1 < w1.heap.size := by omega); (try have hw2 : w.heap.size + 1 + 1 < w1.heap.size := by omega)) | (go_at_call 16; refine (sane_any _).mono ?_; rintro e w1 ⟨rfl, hb1⟩; obtain ⟨hc1, hf1, hz1, hr1⟩ := bfacts hb1; (try simp only [World.size_alloc, World.size_setCell, World.size_drew, World.size_drewN] at hz1 hr1); (try have hw0 : w.heap.size < w1.heap.size := by omega); (try have hw1 : w.heap.size + 1 < w1.heap.size := by omega); (try have hw2 : w.heap.size + 1 + 1 < w1.heap.size := by omega)))
        go_ret
        exact ⟨rfl, by (repeat' (first | (with_reducible exact Below.refl _ _) | (with_reducible assumption) | (with_reducible refine Below.alloc ?_ ?_ _) | (with_reducible refine Below.drew ?_) | (with_reducible refine Below.draws ?_ _) | (with_reducible refine Below.setCell ?_ ?_ _) | (refine Below.then ?_ (by with_reducible assumption)) | go_size))⟩
    · have e0 : looR f g j f' g' j' = (false, 1) := by rw [looR, if_neg hv]
      clear hv
      go_enter Try.func7, Try.ntmps7
      go_wp2_with (first | (go_at_call 31; refine (looser_any _ _ _ _ _ _ _).mono ?_; rintro e w1 ⟨rfl, hb1⟩; obtain ⟨hc1, hf1, hz1, hr1⟩ := bfacts hb1; (try simp only [World.size_alloc, World.size_setCell, World.size_drew, World.size_drewN] at hz1 hr1); (try have hw0 : w.heap.size < w1.heap.size := by omega); (try have hw1 : w.heap.size + 1 < w1.heap.size := by omega); (try have hw2 : w.heap.size + 1 + 1 < w1.heap.size := by omega)) | (go_at_call 32; refine (rlooser_any _ _ _ _ _ _ _).mono ?_; rintro e w1 ⟨rfl, hb1⟩; obtain ⟨hc1, hf1, hz1, hr1⟩ := bfacts hb1; (try simp only [World.size_alloc, World.size_setCell, World.size_drew, World.size_drewN] at hz1 hr1); (try have hw0 : w.heap.size < w1.heap.size := by omega); (try have hw1 : w.heap.size + 1 < w1.heap.size := by omega); (try have hw2 : w.heap.size + 1 + 1 < w1.heap.size := by omega)) | (go_at_call 16; refine (sane_any _).mono ?_; rintro e w1 ⟨rfl, hb1⟩; obtain ⟨hc1, hf1, hz1, hr1⟩ := bfacts hb1; (try simp only [World.size_alloc, World.size_setCell, World.size_drew, World.size_drewN] at hz1 hr1); (try have hw0 : w.heap.size < w1.heap.size := by omega); (try have hw1 : w.heap.size + 1 < w1.heap.size := by omega); (try have hw2 : w.heap.size + 1 + 1 < w1.heap.size := by omega)))
      go_ret
      exact ⟨rfl, by (repeat' (first | (with_reducible exact Below.refl _ _) | (with_reducible assumption) | (with_reducible refine Below.alloc ?_ ?_ _) | (with_reducible refine Below.drew ?_) | (with_reducible refine Below.draws ?_ _) | (with_reducible refine Below.setCell ?_ ?_ _) | (refine Below.then ?_ (by with_reducible assumption)) | go_size))⟩
end Go.Proofs.Ytfiggbeaomkepaa
