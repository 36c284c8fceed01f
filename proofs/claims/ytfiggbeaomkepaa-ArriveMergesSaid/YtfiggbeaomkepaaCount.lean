/- Contracts of Count and of its reference. The conditions: the list reads as the list named. -/
import Derived.Test.YtfiggbeaomkepaaChk
namespace Go.Proofs.Ytfiggbeaomkepaa
open Go.RowKit
set_option linter.unusedSimpArgs false
set_option linter.unusedVariables false
def countN (from_ to : Int) : List P2 → Int
  | [] => 0
  | x :: xs => (if from_ ≤ x.1 + x.2 ∧ x.1 + x.2 < to then 1 else 0) + countN from_ to xs
def countC (from_ to : Int) (xs : List P2) : Bool := decide (listE xs ≠ 1 ∧ 0 ≤ from_ ∧ from_ ≤ to ∧ to ≤ 1000000)
def countR (from_ to : Int) (xs : List P2) : Int × Int := if countC from_ to xs then (if listE xs = 0 then (countN from_ to xs, 0) else (0, listE xs)) else (0, 1)
theorem listE_zero' {xs : List P2} (h : listE xs = 0) : xs.any farB = false ∧ xs.length ≤ 40 := by
  unfold listE at h
  split at h
  · omega
  · split at h
    · omega
    · rename_i h1 h2; exact ⟨by simpa using h1, by omega⟩
theorem farB_false' {x : P2} (h : farB x = false) : (0 ≤ x.1 ∧ x.1 ≤ 1000000) ∧ (0 ≤ x.2 ∧ x.2 ≤ 1000000) := by
  simp only [farB, Bool.or_eq_false_iff, Bool.not_eq_false', inB_iff] at h; exact h
theorem count_any (from_ to : Int) (a : Option Addr) (n c : Nat) (w : World) (xs : List P2) (hR : Rd w a n 2 (xs.map enc2)) :
    Calls Try.prog 37 #[.slice a n c, .int .i64 from_, .int .i64 to] w fun e w' => e = rP (countR from_ to xs) ∧ Below w.heap.size w w' := by
  have HL := Lib.hid hR.length
  have hs := hR.small
  have HR := Lib.hid hR; clear hR
  by_cases hc : countC from_ to xs = true
  · rw [countR, if_pos hc]
    simp only [countC, decide_eq_true_eq] at hc
    obtain ⟨c1, c2, c3, c4⟩ := hc
    have c1' : (listE xs == 1) = false := by simpa using c1
    have d2 : decide (from_ < 0) = false := by simpa using c2
    have d3 : decide (to < from_) = false := by simpa using c3
    have d4 : decide (1000000 < to) = false := by simpa using c4
    by_cases he : listE xs = 0
    · rw [if_pos he]
      obtain ⟨h1, h2⟩ := listE_zero' he
      rw [HL.out] at h2
      generalize hq : countN from_ to xs = R
      have HQ := Lib.hid hq
      have HF := Lib.hid h1
      clear hq h1 c1 c1'
      go_enter Try.func37, Try.ntmps37
      go_wp2_with (go_at_call 52; refine (check_one _ _ _ _ _ HR.out).mono ?_; rintro e w1 ⟨rfl, hb1⟩; obtain ⟨hc1, hf1, hz1, hr1⟩ := bfacts hb1; (try simp only [World.size_alloc, World.size_setCell, World.size_drew, World.size_drewN] at hz1 hr1); (try have hw0 : w.heap.size < w1.heap.size := by omega); (try have hw1 : w.heap.size + 1 < w1.heap.size := by omega); (try have hw2 : w.heap.size + 1 + 1 < w1.heap.size := by omega))
      go_loopw [9, 36] (fun q i wr => ∃ (k : Nat) (c : Int), k ≤ n ∧ 0 ≤ c ∧ c ≤ k ∧ i = .int .i64 k ∧ q = .int .i64 c ∧ c + countN from_ to (xs.drop k) = R ∧ (xs.drop k).any farB = false ∧ Below w.heap.size w wr) (fun _ i _ => n - (intOf i).toNat)
      case atStart => exact ⟨0, 0, Nat.zero_le _, by omega, by omega, rfl, rfl, by simpa using HQ.out, HF.out, by (repeat' (first | (with_reducible exact Below.refl _ _) | (with_reducible assumption) | (with_reducible refine Below.alloc ?_ ?_ _) | (with_reducible refine Below.drew ?_) | (with_reducible refine Below.draws ?_ _) | (with_reducible refine Below.setCell ?_ ?_ _) | (refine Below.then ?_ (by with_reducible assumption)) | go_size))⟩
      case round =>
        obtain ⟨k, c, hk, q1, q2, rfl, rfl, hv, hf, hB⟩ := hrel
        have HV := Lib.hid hv; have HF2 := Lib.hid hf; clear hv hf
        by_cases hlt : k < n
        · obtain ⟨⟨x1, x2⟩, b, off, rfl, hb, h1, h2, HD⟩ := (HR.out.ext hB).next2 k hlt
          simp only [] at h1 h2
          have HB := Lib.hid hB; clear hB
          have hf3 : farB (x1, x2) = false ∧ (xs.drop (k + 1)).any farB = false := by have := HF2.out; rw [HD.out] at this; simpa using this
          obtain ⟨⟨b1, b2⟩, b3, b4⟩ := farB_false' hf3.1
          simp only [] at b1 b2 b3 b4
          have HF3 := Lib.hid hf3.2; clear hf3
          have HV2 : Hid (c + ((if from_ ≤ x1 + x2 ∧ x1 + x2 < to then 1 else 0) + countN from_ to (xs.drop (k + 1))) = R) := by have := HV.out; rw [HD.out] at this; exact this
          by_cases t1 : from_ ≤ x1 + x2
          · by_cases t2 : x1 + x2 < to
            · have HV3 : Hid (c + 1 + countN from_ to (xs.drop (k + 1)) = R) := by have := HV2.out; rw [if_pos ⟨t1, t2⟩] at this; unfold Hid; omega
              clear HV2
              go_wp2
              go_roundw
              case rel => exact ⟨k + 1, c + 1, by omega, by omega, by omega, by go_num, rfl, HV3.out, HF3.out, by have h9 := HB.out; have h8 := h9.size; (repeat' (first | (with_reducible exact Below.refl _ _) | (with_reducible assumption) | (with_reducible refine Below.alloc ?_ ?_ _) | (with_reducible refine Below.drew ?_) | (with_reducible refine Below.draws ?_ _) | (with_reducible refine Below.setCell ?_ ?_ _) | (refine Below.then ?_ (by with_reducible assumption)) | go_size))⟩
              case measure => simp [intOf]; omega
            · have HV3 : Hid (c + countN from_ to (xs.drop (k + 1)) = R) := by have := HV2.out; rw [if_neg (by omega)] at this; unfold Hid; omega
              clear HV2
              go_wp2
              go_roundw
              case rel => exact ⟨k + 1, c, by omega, by omega, by omega, by go_num, rfl, HV3.out, HF3.out, by have h9 := HB.out; have h8 := h9.size; (repeat' (first | (with_reducible exact Below.refl _ _) | (with_reducible assumption) | (with_reducible refine Below.alloc ?_ ?_ _) | (with_reducible refine Below.drew ?_) | (with_reducible refine Below.draws ?_ _) | (with_reducible refine Below.setCell ?_ ?_ _) | (refine Below.then ?_ (by with_reducible assumption)) | go_size))⟩
              case measure => simp [intOf]; omega
          · have HV3 : Hid (c + countN from_ to (xs.drop (k + 1)) = R) := by have := HV2.out; rw [if_neg (by omega)] at this; unfold Hid; omega
            clear HV2
            go_wp2
            go_roundw
            case rel => exact ⟨k + 1, c, by omega, by omega, by omega, by go_num, rfl, HV3.out, HF3.out, by have h9 := HB.out; have h8 := h9.size; (repeat' (first | (with_reducible exact Below.refl _ _) | (with_reducible assumption) | (with_reducible refine Below.alloc ?_ ?_ _) | (with_reducible refine Below.drew ?_) | (with_reducible refine Below.draws ?_ _) | (with_reducible refine Below.setCell ?_ ?_ _) | (refine Below.then ?_ (by with_reducible assumption)) | go_size))⟩
            case measure => simp [intOf]; omega
        · have hr : R = c := by rw [← HV.out, drop_end HL.out (by omega)]; simp [countN]
          subst hr
          go_wp2
          go_ret2
          exact ⟨rfl, hB⟩
    · rw [if_neg he]
      have he' : (listE xs != 0) = true := by simpa using he
      go_enter Try.func37, Try.ntmps37
      go_wp2_with (go_at_call 52; refine (check_one _ _ _ _ _ HR.out).mono ?_; rintro e w1 ⟨rfl, hb1⟩; obtain ⟨hc1, hf1, hz1, hr1⟩ := bfacts hb1; (try simp only [World.size_alloc, World.size_setCell, World.size_drew, World.size_drewN] at hz1 hr1); (try have hw0 : w.heap.size < w1.heap.size := by omega); (try have hw1 : w.heap.size + 1 < w1.heap.size := by omega); (try have hw2 : w.heap.size + 1 + 1 < w1.heap.size := by omega))
      go_ret2
      exact ⟨rfl, by (repeat' (first | (with_reducible exact Below.refl _ _) | (with_reducible assumption) | (with_reducible refine Below.alloc ?_ ?_ _) | (with_reducible refine Below.drew ?_) | (with_reducible refine Below.draws ?_ _) | (with_reducible refine Below.setCell ?_ ?_ _) | (refine Below.then ?_ (by with_reducible assumption)) | go_size))⟩
  · rw [countR, if_neg hc]
    have HC := Lib.hid hc; clear hc
    go_enter Try.func37, Try.ntmps37
    go_wp2_with (go_at_call 52; refine (check_one _ _ _ _ _ HR.out).mono ?_; rintro e w1 ⟨rfl, hb1⟩; obtain ⟨hc1, hf1, hz1, hr1⟩ := bfacts hb1; (try simp only [World.size_alloc, World.size_setCell, World.size_drew, World.size_drewN] at hz1 hr1); (try have hw0 : w.heap.size < w1.heap.size := by omega); (try have hw1 : w.heap.size + 1 < w1.heap.size := by omega); (try have hw2 : w.heap.size + 1 + 1 < w1.heap.size := by omega))
    all_goals first
      | (go_ret2; exact ⟨rfl, by (repeat' (first | (with_reducible exact Below.refl _ _) | (with_reducible assumption) | (with_reducible refine Below.alloc ?_ ?_ _) | (with_reducible refine Below.drew ?_) | (with_reducible refine Below.draws ?_ _) | (with_reducible refine Below.setCell ?_ ?_ _) | (refine Below.then ?_ (by with_reducible assumption)) | go_size))⟩)
      | (exfalso; apply HC.out; simp only [countC, decide_eq_true_eq]; simp_all; done)
      | (exfalso; apply HC.out; simp only [countC, decide_eq_true_eq]; simp_all; omega)
theorem in_val {n a b : Int} {v : Bool} (w : World) (h : inB n a b = v) : Calls Try.prog 49 #[.int .i64 n, .int .i64 a, .int .i64 b] w fun e w' => e = .returned (.bool v) ∧ w = w' := h ▸ in_any n a b w
theorem rcount_any (from_ to : Int) (a : Option Addr) (n c : Nat) (w : World) (xs : List P2) (hR : Rd w a n 2 (xs.map enc2)) :
    Calls Try.prog 45 #[.slice a n c, .int .i64 from_, .int .i64 to] w fun e w' => e = rP (countR from_ to xs) ∧ Below w.heap.size w w' := by
  have HL := Lib.hid hR.length
  have hs := hR.small
  have HR := Lib.hid hR; clear hR
  by_cases hc : countC from_ to xs = true
  · rw [countR, if_pos hc]
    simp only [countC, decide_eq_true_eq] at hc
    obtain ⟨c1, c2, c3, c4⟩ := hc
    have c1' : (listE xs == 1) = false := by simpa using c1
    have d2 : inB from_ 0 1000000 = true := inB_iff.2 (by omega)
    have d3 : inB to from_ 1000000 = true := inB_iff.2 (by omega)
    by_cases he : listE xs = 0
    · rw [if_pos he]
      obtain ⟨h1, h2⟩ := listE_zero' he
      rw [HL.out] at h2
      generalize hq : countN from_ to xs = R
      have HQ := Lib.hid hq
      have HF := Lib.hid h1
      clear hq h1 c1 c1'
      go_enter Try.func45, Try.ntmps45
      go_wp2_with (first | (go_at_call 53; refine (listed_any _ _ _ _ _ HR.out).mono ?_; rintro e w1 ⟨rfl, hb1⟩; obtain ⟨hc1, hf1, hz1, hr1⟩ := bfacts hb1; (try simp only [World.size_alloc, World.size_setCell, World.size_drew, World.size_drewN] at hz1 hr1); (try have hw0 : w.heap.size < w1.heap.size := by omega); (try have hw1 : w.heap.size + 1 < w1.heap.size := by omega); (try have hw2 : w.heap.size + 1 + 1 < w1.heap.size := by omega)) | (go_at_call 49; refine (in_any _ _ _ _).mono ?_; rintro e w1 ⟨rfl, rfl⟩))
      go_loopw [9, 10] (fun q i wr => ∃ (k : Nat) (c : Int), k ≤ n ∧ 0 ≤ c ∧ c ≤ k ∧ i = .int .i64 k ∧ q = .int .i64 c ∧ c + countN from_ to (xs.drop k) = R ∧ (xs.drop k).any farB = false ∧ Below w.heap.size w wr) (fun _ i _ => n - (intOf i).toNat)
      case atStart => exact ⟨0, 0, Nat.zero_le _, by omega, by omega, rfl, rfl, by simpa using HQ.out, HF.out, by (repeat' (first | (with_reducible exact Below.refl _ _) | (with_reducible assumption) | (with_reducible refine Below.alloc ?_ ?_ _) | (with_reducible refine Below.drew ?_) | (with_reducible refine Below.draws ?_ _) | (with_reducible refine Below.setCell ?_ ?_ _) | (refine Below.then ?_ (by with_reducible assumption)) | go_size))⟩
      case round =>
        obtain ⟨k, c, hk, q1, q2, rfl, rfl, hv, hf, hB⟩ := hrel
        have HV := Lib.hid hv; have HF2 := Lib.hid hf; clear hv hf
        by_cases hlt : k < n
        · obtain ⟨⟨x1, x2⟩, b, off, rfl, hb, h1, h2, HD⟩ := (HR.out.ext hB).next2 k hlt
          simp only [] at h1 h2
          have HB := Lib.hid hB; clear hB
          have hf3 : farB (x1, x2) = false ∧ (xs.drop (k + 1)).any farB = false := by have := HF2.out; rw [HD.out] at this; simpa using this
          obtain ⟨⟨b1, b2⟩, b3, b4⟩ := farB_false' hf3.1
          simp only [] at b1 b2 b3 b4
          have HF3 := Lib.hid hf3.2; clear hf3
          have HV2 : Hid (c + ((if from_ ≤ x1 + x2 ∧ x1 + x2 < to then 1 else 0) + countN from_ to (xs.drop (k + 1))) = R) := by have := HV.out; rw [HD.out] at this; exact this
          by_cases t1 : from_ ≤ x1 + x2
          · by_cases t2 : x1 + x2 < to
            · have HV3 : Hid (c + 1 + countN from_ to (xs.drop (k + 1)) = R) := by have := HV2.out; rw [if_pos ⟨t1, t2⟩] at this; unfold Hid; omega
              clear HV2
              have hin : inB (x1 + x2) from_ (to - 1) = true := inB_iff.2 (by omega)
              go_wp2_with (refine wp_region_later_lit (by kernel_rfl) (by kernel_rfl) ?_; (repeat (go_big_quiet_step ((go_at_call 49; exact later_same (in_val _ hin))))); refine wpQuiet_nil ?_; intro w1 hb1; obtain ⟨hc1, hf1, hz1, hr1⟩ := bfacts hb1; (try simp only [World.size_alloc, World.size_setCell, World.size_drew, World.size_drewN] at hz1 hr1); (try have hw0 : w.heap.size < w1.heap.size := by omega); (try have hw1 : w.heap.size + 1 < w1.heap.size := by omega); (try have hw2 : w.heap.size + 1 + 1 < w1.heap.size := by omega))
              go_roundw
              case rel => exact ⟨k + 1, c + 1, by omega, by omega, by omega, by go_num, rfl, HV3.out, HF3.out, by have h9 := HB.out; have h8 := h9.size; (repeat' (first | (with_reducible exact Below.refl _ _) | (with_reducible assumption) | (with_reducible refine Below.alloc ?_ ?_ _) | (with_reducible refine Below.drew ?_) | (with_reducible refine Below.draws ?_ _) | (with_reducible refine Below.setCell ?_ ?_ _) | (refine Below.then ?_ (by with_reducible assumption)) | go_size))⟩
              case measure => simp [intOf]; omega
            · have HV3 : Hid (c + countN from_ to (xs.drop (k + 1)) = R) := by have := HV2.out; rw [if_neg (by omega)] at this; unfold Hid; omega
              clear HV2
              have hin : inB (x1 + x2) from_ (to - 1) = false := by rw [inB, decide_eq_false_iff_not]; omega
              go_wp2_with (refine wp_region_later_lit (by kernel_rfl) (by kernel_rfl) ?_; (repeat (go_big_quiet_step ((go_at_call 49; exact later_same (in_val _ hin))))); refine wpQuiet_nil ?_; intro w1 hb1; obtain ⟨hc1, hf1, hz1, hr1⟩ := bfacts hb1; (try simp only [World.size_alloc, World.size_setCell, World.size_drew, World.size_drewN] at hz1 hr1); (try have hw0 : w.heap.size < w1.heap.size := by omega); (try have hw1 : w.heap.size + 1 < w1.heap.size := by omega); (try have hw2 : w.heap.size + 1 + 1 < w1.heap.size := by omega))
              go_roundw
              case rel => exact ⟨k + 1, c, by omega, by omega, by omega, by go_num, rfl, HV3.out, HF3.out, by have h9 := HB.out; have h8 := h9.size; (repeat' (first | (with_reducible exact Below.refl _ _) | (with_reducible assumption) | (with_reducible refine Below.alloc ?_ ?_ _) | (with_reducible refine Below.drew ?_) | (with_reducible refine Below.draws ?_ _) | (with_reducible refine Below.setCell ?_ ?_ _) | (refine Below.then ?_ (by with_reducible assumption)) | go_size))⟩
              case measure => simp [intOf]; omega
          · have HV3 : Hid (c + countN from_ to (xs.drop (k + 1)) = R) := by have := HV2.out; rw [if_neg (by omega)] at this; unfold Hid; omega
            clear HV2
            have hin : inB (x1 + x2) from_ (to - 1) = false := by rw [inB, decide_eq_false_iff_not]; omega
            go_wp2_with (refine wp_region_later_lit (by kernel_rfl) (by kernel_rfl) ?_; (repeat (go_big_quiet_step ((go_at_call 49; exact later_same (in_val _ hin))))); refine wpQuiet_nil ?_; intro w1 hb1; obtain ⟨hc1, hf1, hz1, hr1⟩ := bfacts hb1; (try simp only [World.size_alloc, World.size_setCell, World.size_drew, World.size_drewN] at hz1 hr1); (try have hw0 : w.heap.size < w1.heap.size := by omega); (try have hw1 : w.heap.size + 1 < w1.heap.size := by omega); (try have hw2 : w.heap.size + 1 + 1 < w1.heap.size := by omega))
            go_roundw
            case rel => exact ⟨k + 1, c, by omega, by omega, by omega, by go_num, rfl, HV3.out, HF3.out, by have h9 := HB.out; have h8 := h9.size; (repeat' (first | (with_reducible exact Below.refl _ _) | (with_reducible assumption) | (with_reducible refine Below.alloc ?_ ?_ _) | (with_reducible refine Below.drew ?_) | (with_reducible refine Below.draws ?_ _) | (with_reducible refine Below.setCell ?_ ?_ _) | (refine Below.then ?_ (by with_reducible assumption)) | go_size))⟩
            case measure => simp [intOf]; omega
        · have hr : R = c := by rw [← HV.out, drop_end HL.out (by omega)]; simp [countN]
          subst hr
          go_wp2
          go_ret2
          exact ⟨rfl, hB⟩
    · rw [if_neg he]
      have he' : (listE xs != 0) = true := by simpa using he
      go_enter Try.func45, Try.ntmps45
      go_wp2_with (first | (go_at_call 53; refine (listed_any _ _ _ _ _ HR.out).mono ?_; rintro e w1 ⟨rfl, hb1⟩; obtain ⟨hc1, hf1, hz1, hr1⟩ := bfacts hb1; (try simp only [World.size_alloc, World.size_setCell, World.size_drew, World.size_drewN] at hz1 hr1); (try have hw0 : w.heap.size < w1.heap.size := by omega); (try have hw1 : w.heap.size + 1 < w1.heap.size := by omega); (try have hw2 : w.heap.size + 1 + 1 < w1.heap.size := by omega)) | (go_at_call 49; refine (in_any _ _ _ _).mono ?_; rintro e w1 ⟨rfl, rfl⟩))
      go_ret2
      exact ⟨rfl, by (repeat' (first | (with_reducible exact Below.refl _ _) | (with_reducible assumption) | (with_reducible refine Below.alloc ?_ ?_ _) | (with_reducible refine Below.drew ?_) | (with_reducible refine Below.draws ?_ _) | (with_reducible refine Below.setCell ?_ ?_ _) | (refine Below.then ?_ (by with_reducible assumption)) | go_size))⟩
  · rw [countR, if_neg hc]
    have HC := Lib.hid hc; clear hc
    go_enter Try.func45, Try.ntmps45
    go_wp2_with (first | (go_at_call 53; refine (listed_any _ _ _ _ _ HR.out).mono ?_; rintro e w1 ⟨rfl, hb1⟩; obtain ⟨hc1, hf1, hz1, hr1⟩ := bfacts hb1; (try simp only [World.size_alloc, World.size_setCell, World.size_drew, World.size_drewN] at hz1 hr1); (try have hw0 : w.heap.size < w1.heap.size := by omega); (try have hw1 : w.heap.size + 1 < w1.heap.size := by omega); (try have hw2 : w.heap.size + 1 + 1 < w1.heap.size := by omega)) | (go_at_call 49; refine (in_any _ _ _ _).mono ?_; rintro e w1 ⟨rfl, rfl⟩))
    all_goals first
      | (go_ret2; exact ⟨rfl, by (repeat' (first | (with_reducible exact Below.refl _ _) | (with_reducible assumption) | (with_reducible refine Below.alloc ?_ ?_ _) | (with_reducible refine Below.drew ?_) | (with_reducible refine Below.draws ?_ _) | (with_reducible refine Below.setCell ?_ ?_ _) | (refine Below.then ?_ (by with_reducible assumption)) | go_size))⟩)
      | (exfalso; apply HC.out; simp only [countC, decide_eq_true_eq]; simp_all [inB_eq]; done)
      | (exfalso; apply HC.out; simp only [countC, decide_eq_true_eq]; simp_all [inB_eq]; omega)
end Go.Proofs.Ytfiggbeaomkepaa
