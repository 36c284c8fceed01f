/- The walk of ArriveBounded: it returns true. No condition. -/
import Derived.Test.YtfiggbeaomkepaaWLets
import Derived.Test.YtfiggbeaomkepaaCount
namespace Go.Proofs.Ytfiggbeaomkepaa
open Go.RowKit
set_option linter.unusedSimpArgs false
set_option linter.unusedVariables false
theorem countN_nonneg (from_ to : Int) : ∀ xs : List P2, 0 ≤ countN from_ to xs
  | [] => by simp [countN]
  | x :: xs => by have := countN_nonneg from_ to xs; rw [countN]; split <;> omega
theorem count_bound {g j from_ to : Int} (hg : 1 ≤ g) : ∀ (xs : List P2) (l : Int), xs.any farB = false → allowGo g j l xs = true → 1 ≤ countN from_ to xs →
    l + (countN from_ to xs - 1) * g ≤ to - 1 ∧ from_ - j + (countN from_ to xs - 1) * g ≤ to - 1
  | [], _, _, _, h => by simp [countN] at h
  | x :: xs, l, hf, ha, h => by
    have hf' : farB x = false ∧ xs.any farB = false := by simpa using hf
    obtain ⟨⟨b1, b2⟩, b3, b4⟩ := farB_false' hf'.1
    unfold allowGo at ha
    split at ha
    · simp at ha
    · rename_i h1
      have ih := count_bound (from_ := from_) (to := to) hg xs (x.1 + g) hf'.2 ha
      have hn := countN_nonneg from_ to xs
      rw [countN] at h ⊢
      by_cases hc : from_ ≤ x.1 + x.2 ∧ x.1 + x.2 < to
      · rw [if_pos hc] at h ⊢
        by_cases h0 : countN from_ to xs = 0
        · rw [h0]; constructor <;> simp <;> omega
        · have := ih (by omega)
          have e : (1 + countN from_ to xs - 1) * g = g + (countN from_ to xs - 1) * g := by
            rw [Int.sub_mul, Int.sub_mul, Int.add_mul]; omega
          rw [e]; omega
      · rw [if_neg hc] at h ⊢
        have := ih (by omega)
        simp only [Int.zero_add]
        omega
theorem count_most {g j from_ win : Int} (hg : 1 ≤ g) (hj : 0 ≤ j) (hw : 0 ≤ win) (xs : List P2) (l : Int) (hf : xs.any farB = false) (ha : allowGo g j l xs = true) : countN from_ (from_ + win) xs ≤ mostN g j win := by
  have hn := countN_nonneg from_ (from_ + win) xs
  by_cases h0 : countN from_ (from_ + win) xs = 0
  · rw [h0]; unfold mostN; split
    · omega
    · have := Int.ediv_nonneg (show 0 ≤ win - 1 + j by omega) (show 0 ≤ g by omega); omega
  · have hb := count_bound hg xs l hf ha (show 1 ≤ countN from_ (from_ + win) xs by omega)
    by_cases hz : win = 0
    · exfalso
      subst hz
      have : ∀ ys : List P2, countN from_ (from_ + 0) ys = 0 := by
        intro ys
        induction ys with
        | nil => rfl
        | cons y ys ih => rw [countN, ih, if_neg (by omega)]; rfl
      exact h0 (this xs)
    · rw [mostN, if_neg hz]
      have := (Int.le_ediv_iff_mul_le (show 0 < g by omega)).2 (show (countN from_ (from_ + win) xs - 1) * g ≤ win - 1 + j by omega)
      omega
set_option maxHeartbeats 1000000 in
theorem arriveBounded_walk {w : World} (f g j : Int) (a : Option Addr) (n c : Nat) (xs : List P2) (hR : Rd w a n 2 (xs.map enc2)) (hnil : n = 0 → (a = none ∧ c = 0) ∨ ∃ ad, a = some ad) (from_ : Int) (bf : -9223372036854775808 ≤ from_ ∧ from_ ≤ 9223372036854775807) (win : Int) (bw : -9223372036854775808 ≤ win ∧ win ≤ 9223372036854775807) :
    Calls Try.prog 10 #[patV f g j, .slice a n c, .int .i64 from_, .int .i64 win] w fun e w' => e = .returned (.bool true) ∧ Below w.heap.size w w' := by
  have hs := hR.small
  have HR := Lib.hid hR; clear hR hnil
  by_cases hc : n ≤ 300 ∧ 0 ≤ from_ ∧ 0 ≤ win ∧ from_ ≤ 500000 ∧ win ≤ 500000
  · obtain ⟨c1, c2, c3, c4, c5⟩ := hc
    by_cases hv : allowR f g j xs = (true, 0)
    · obtain ⟨hp, he, ha⟩ : vpat f g j = true ∧ listE xs = 0 ∧ allowGo g j f xs = true := by
        unfold allowR at hv
        split at hv
        · split at hv
          · exact ⟨by assumption, by assumption, by simpa using hv⟩
          · simp at hv
        · simp at hv
      obtain ⟨k1, k2, k3⟩ := vpat_iff.1 hp
      have e1 : mostR f g j win = (mostN g j win, 0) := by rw [mostR, hp, inB_iff.2 (by omega)]; rfl
      have e2 : countR from_ (from_ + win) xs = (countN from_ (from_ + win) xs, 0) := by
        rw [countR, if_pos (by rw [countC, he]; simp; omega), if_pos he]
      have e3 := count_most (from_ := from_) (g := g) (j := j) (win := win) (by omega) (by omega) c3 xs f (listE_zero he).1 ha
      clear hp he ha k1 k2 k3
      generalize countN from_ (from_ + win) xs = C at *
      generalize mostN g j win = M at *
      have e4 : decide (C ≤ M) = true := by simpa using e3
      go_enter Try.func10, Try.ntmps10
      go_wp2_with (first
        | (go_at_call 24; refine (allowed_any _ _ _ _ _ _ _ _ (HR.out.ext (by (repeat' (first | (with_reducible exact Below.refl _ _) | (with_reducible assumption) | (with_reducible refine Below.alloc ?_ ?_ _) | (with_reducible refine Below.drew ?_) | (with_reducible refine Below.draws ?_ _) | (with_reducible refine Below.setCell ?_ ?_ _) | (refine Below.then ?_ (by with_reducible assumption)) | go_size))))).mono ?_; rintro e w1 ⟨rfl, hb1⟩; obtain ⟨hc1, hf1, hz1, hr1⟩ := bfacts hb1; (try simp only [World.size_alloc, World.size_setCell, World.size_drew, World.size_drewN] at hz1 hr1); (try have hw0 : w.heap.size < w1.heap.size := by omega); (try have hw1 : w.heap.size + 1 < w1.heap.size := by omega); (try have hw2 : w.heap.size + 1 + 1 < w1.heap.size := by omega))
        | (go_at_call 14; refine (most_any _ _ _ _ _).mono ?_; rintro e w1 ⟨rfl, hb1⟩; obtain ⟨hc1, hf1, hz1, hr1⟩ := bfacts hb1; (try simp only [World.size_alloc, World.size_setCell, World.size_drew, World.size_drewN] at hz1 hr1); (try have hw0 : w.heap.size < w1.heap.size := by omega); (try have hw1 : w.heap.size + 1 < w1.heap.size := by omega); (try have hw2 : w.heap.size + 1 + 1 < w1.heap.size := by omega))
        | (go_at_call 37; refine (count_any _ _ _ _ _ _ _ (HR.out.ext (by (repeat' (first | (with_reducible exact Below.refl _ _) | (with_reducible assumption) | (with_reducible refine Below.alloc ?_ ?_ _) | (with_reducible refine Below.drew ?_) | (with_reducible refine Below.draws ?_ _) | (with_reducible refine Below.setCell ?_ ?_ _) | (refine Below.then ?_ (by with_reducible assumption)) | go_size))))).mono ?_; rintro e w1 ⟨rfl, hb1⟩; obtain ⟨hc1, hf1, hz1, hr1⟩ := bfacts hb1; (try simp only [World.size_alloc, World.size_setCell, World.size_drew, World.size_drewN] at hz1 hr1); (try have hw0 : w.heap.size < w1.heap.size := by omega); (try have hw1 : w.heap.size + 1 < w1.heap.size := by omega); (try have hw2 : w.heap.size + 1 + 1 < w1.heap.size := by omega))
        | (go_at_call 16; refine (sane_any _).mono ?_; rintro e w1 ⟨rfl, hb1⟩; obtain ⟨hc1, hf1, hz1, hr1⟩ := bfacts hb1; (try simp only [World.size_alloc, World.size_setCell, World.size_drew, World.size_drewN] at hz1 hr1); (try have hw0 : w.heap.size < w1.heap.size := by omega); (try have hw1 : w.heap.size + 1 < w1.heap.size := by omega); (try have hw2 : w.heap.size + 1 + 1 < w1.heap.size := by omega)))
      go_ret
      exact ⟨rfl, by (repeat' (first | (with_reducible exact Below.refl _ _) | (with_reducible assumption) | (with_reducible refine Below.alloc ?_ ?_ _) | (with_reducible refine Below.drew ?_) | (with_reducible refine Below.draws ?_ _) | (with_reducible refine Below.setCell ?_ ?_ _) | (refine Below.then ?_ (by with_reducible assumption)) | go_size))⟩
    · obtain ⟨b, E, hbE⟩ : ∃ b E, allowR f g j xs = (b, E) := ⟨_, _, rfl⟩
      have hne : ¬ (b = true ∧ E = 0) := fun h => hv (by rw [hbE, h.1, h.2])
      clear hv
      by_cases hE : E = 0
      · have : b = false := by cases b <;> simp_all
        subst this
        clear hne
        subst hE
        go_enter Try.func10, Try.ntmps10
        go_wp2_with (first
          | (go_at_call 24; refine (allowed_any _ _ _ _ _ _ _ _ (HR.out.ext (by (repeat' (first | (with_reducible exact Below.refl _ _) | (with_reducible assumption) | (with_reducible refine Below.alloc ?_ ?_ _) | (with_reducible refine Below.drew ?_) | (with_reducible refine Below.draws ?_ _) | (with_reducible refine Below.setCell ?_ ?_ _) | (refine Below.then ?_ (by with_reducible assumption)) | go_size))))).mono ?_; rintro e w1 ⟨rfl, hb1⟩; obtain ⟨hc1, hf1, hz1, hr1⟩ := bfacts hb1; (try simp only [World.size_alloc, World.size_setCell, World.size_drew, World.size_drewN] at hz1 hr1); (try have hw0 : w.heap.size < w1.heap.size := by omega); (try have hw1 : w.heap.size + 1 < w1.heap.size := by omega); (try have hw2 : w.heap.size + 1 + 1 < w1.heap.size := by omega))
          | (go_at_call 25; refine (rallowed_any _ _ _ _ _ _ _ _ (HR.out.ext (by (repeat' (first | (with_reducible exact Below.refl _ _) | (with_reducible assumption) | (with_reducible refine Below.alloc ?_ ?_ _) | (with_reducible refine Below.drew ?_) | (with_reducible refine Below.draws ?_ _) | (with_reducible refine Below.setCell ?_ ?_ _) | (refine Below.then ?_ (by with_reducible assumption)) | go_size))))).mono ?_; rintro e w1 ⟨rfl, hb1⟩; obtain ⟨hc1, hf1, hz1, hr1⟩ := bfacts hb1; (try simp only [World.size_alloc, World.size_setCell, World.size_drew, World.size_drewN] at hz1 hr1); (try have hw0 : w.heap.size < w1.heap.size := by omega); (try have hw1 : w.heap.size + 1 < w1.heap.size := by omega); (try have hw2 : w.heap.size + 1 + 1 < w1.heap.size := by omega))
          | (go_at_call 16; refine (sane_any _).mono ?_; rintro e w1 ⟨rfl, hb1⟩; obtain ⟨hc1, hf1, hz1, hr1⟩ := bfacts hb1; (try simp only [World.size_alloc, World.size_setCell, World.size_drew, World.size_drewN] at hz1 hr1); (try have hw0 : w.heap.size < w1.heap.size := by omega); (try have hw1 : w.heap.size + 1 < w1.heap.size := by omega); (try have hw2 : w.heap.size + 1 + 1 < w1.heap.size := by omega)))
        go_ret
        exact ⟨rfl, by (repeat' (first | (with_reducible exact Below.refl _ _) | (with_reducible assumption) | (with_reducible refine Below.alloc ?_ ?_ _) | (with_reducible refine Below.drew ?_) | (with_reducible refine Below.draws ?_ _) | (with_reducible refine Below.setCell ?_ ?_ _) | (refine Below.then ?_ (by with_reducible assumption)) | go_size))⟩
      · have hE' : (E != 0) = true := by simpa using hE
        clear hne
        cases b
        all_goals
          go_enter Try.func10, Try.ntmps10
          go_wp2_with (first
            | (go_at_call 24; refine (allowed_any _ _ _ _ _ _ _ _ (HR.out.ext (by (repeat' (first | (with_reducible exact Below.refl _ _) | (with_reducible assumption) | (with_reducible refine Below.alloc ?_ ?_ _) | (with_reducible refine Below.drew ?_) | (with_reducible refine Below.draws ?_ _) | (with_reducible refine Below.setCell ?_ ?_ _) | (refine Below.then ?_ (by with_reducible assumption)) | go_size))))).mono ?_; rintro e w1 ⟨rfl, hb1⟩; obtain ⟨hc1, hf1, hz1, hr1⟩ := bfacts hb1; (try simp only [World.size_alloc, World.size_setCell, World.size_drew, World.size_drewN] at hz1 hr1); (try have hw0 : w.heap.size < w1.heap.size := by omega); (try have hw1 : w.heap.size + 1 < w1.heap.size := by omega); (try have hw2 : w.heap.size + 1 + 1 < w1.heap.size := by omega))
            | (go_at_call 25; refine (rallowed_any _ _ _ _ _ _ _ _ (HR.out.ext (by (repeat' (first | (with_reducible exact Below.refl _ _) | (with_reducible assumption) | (with_reducible refine Below.alloc ?_ ?_ _) | (with_reducible refine Below.drew ?_) | (with_reducible refine Below.draws ?_ _) | (with_reducible refine Below.setCell ?_ ?_ _) | (refine Below.then ?_ (by with_reducible assumption)) | go_size))))).mono ?_; rintro e w1 ⟨rfl, hb1⟩; obtain ⟨hc1, hf1, hz1, hr1⟩ := bfacts hb1; (try simp only [World.size_alloc, World.size_setCell, World.size_drew, World.size_drewN] at hz1 hr1); (try have hw0 : w.heap.size < w1.heap.size := by omega); (try have hw1 : w.heap.size + 1 < w1.heap.size := by omega); (try have hw2 : w.heap.size + 1 + 1 < w1.heap.size := by omega))
            | (go_at_call 16; refine (sane_any _).mono ?_; rintro e w1 ⟨rfl, hb1⟩; obtain ⟨hc1, hf1, hz1, hr1⟩ := bfacts hb1; (try simp only [World.size_alloc, World.size_setCell, World.size_drew, World.size_drewN] at hz1 hr1); (try have hw0 : w.heap.size < w1.heap.size := by omega); (try have hw1 : w.heap.size + 1 < w1.heap.size := by omega); (try have hw2 : w.heap.size + 1 + 1 < w1.heap.size := by omega)))
          go_ret
          exact ⟨rfl, by (repeat' (first | (with_reducible exact Below.refl _ _) | (with_reducible assumption) | (with_reducible refine Below.alloc ?_ ?_ _) | (with_reducible refine Below.drew ?_) | (with_reducible refine Below.draws ?_ _) | (with_reducible refine Below.setCell ?_ ?_ _) | (refine Below.then ?_ (by with_reducible assumption)) | go_size))⟩
  · have HC := Lib.hid hc; clear hc
    go_enter Try.func10, Try.ntmps10
    go_wp2_with (go_at_call 16; refine (sane_any _).mono ?_; rintro e w1 ⟨rfl, hb1⟩; obtain ⟨hc1, hf1, hz1, hr1⟩ := bfacts hb1; (try simp only [World.size_alloc, World.size_setCell, World.size_drew, World.size_drewN] at hz1 hr1); (try have hw0 : w.heap.size < w1.heap.size := by omega); (try have hw1 : w.heap.size + 1 < w1.heap.size := by omega); (try have hw2 : w.heap.size + 1 + 1 < w1.heap.size := by omega))
    all_goals first
      | (go_ret; exact ⟨rfl, by (repeat' (first | (with_reducible exact Below.refl _ _) | (with_reducible assumption) | (with_reducible refine Below.alloc ?_ ?_ _) | (with_reducible refine Below.drew ?_) | (with_reducible refine Below.draws ?_ _) | (with_reducible refine Below.setCell ?_ ?_ _) | (refine Below.then ?_ (by with_reducible assumption)) | go_size))⟩)
      | (exfalso; apply HC.out; omega)
end Go.Proofs.Ytfiggbeaomkepaa
