/- Contracts of the reference's Make at numbers that are not negative. The conditions are the ones that each contract names. -/
import Derived.Test.YtabbmnnohnfbeaaRatio
namespace Go.Proofs.Ytabbmnnohnfbeaa
open Go.RowKit
set_option linter.unusedSimpArgs false
set_option linter.unusedVariables false
theorem r2gcd_any (a b : Nat) (w : World) (ha : a ≤ 4000000000000000000) (hb : b ≤ 4000000000000000000) : Calls Try.prog 144 #[.int .i64 a, .int .i64 b] w fun e w' => e = .returned (.int .i64 (Nat.gcd a b)) ∧ Below w.heap.size w w' := by
  generalize hq : Nat.gcd a b = G
  have HQ := Lib.hid hq; clear hq
  go_enter Try.func144, Try.ntmps144
  go_wp2
  go_loopw [0, 1] (fun x y wr => ∃ m n : Nat, x = .int .i64 m ∧ y = .int .i64 n ∧ Below w.heap.size w wr ∧ Nat.gcd m n = G ∧ m ≤ 4000000000000000000 ∧ n ≤ 4000000000000000000) (fun _ y _ => (intOf y).toNat)
  case atStart => exact ⟨a, b, rfl, rfl, Below.refl _ _, HQ.out, ha, hb⟩
  case round =>
    obtain ⟨m, n, rfl, rfl, hB, he, hm, hn⟩ := hrel
    have HE := Lib.hid he; clear he HQ ha hb
    by_cases h0 : n = 0
    · subst h0
      have : G = m := by rw [← HE.out]; simp
      subst this
      go_wp2
      go_ret
      exact ⟨rfl, by (repeat' (first | (with_reducible exact Below.refl _ _) | (with_reducible assumption) | (with_reducible refine Below.alloc ?_ ?_ _) | (with_reducible refine Below.drew ?_) | (with_reducible refine Below.draws ?_ _) | (with_reducible refine Below.setCell ?_ ?_ _) | (refine Below.then ?_ (by with_reducible assumption)) | go_size))⟩
    · have hlt := Nat.mod_lt m (show 0 < n by omega)
      have hne : ((n : Int) != 0) = true := by simp <;> omega
      have hle := Nat.mod_le m n
      have hz := hB.size
      go_wp2_with (refine wp_region_later_lit (by kernel_rfl) (by kernel_rfl) ?_; (repeat (go_big_quiet_step (fail))); refine wpQuiet_nil ?_; intro w1 hb1; obtain ⟨hc1, hf1, hz1, hr1⟩ := bfacts hb1; (try simp only [World.size_alloc, World.size_setCell, World.size_drew, World.size_drewN] at hz1 hr1); (try have hw0 : w.heap.size < w1.heap.size := by omega); (try have hw1 : w.heap.size + 1 < w1.heap.size := by omega); (try have hw2 : w.heap.size + 1 + 1 < w1.heap.size := by omega))
      go_roundw
      case rel => exact ⟨n, m % n, rfl, by simp, by (repeat' (first | (with_reducible exact Below.refl _ _) | (with_reducible assumption) | (with_reducible refine Below.alloc ?_ ?_ _) | (with_reducible refine Below.drew ?_) | (with_reducible refine Below.draws ?_ _) | (with_reducible refine Below.setCell ?_ ?_ _) | (refine Below.then ?_ (by with_reducible assumption)) | go_size)), by rw [← HE.out, Nat.gcd_comm n, ← Nat.gcd_rec, Nat.gcd_comm], hn, by omega⟩
      case measure => simp [intOf]; omega
theorem r2size_any (n : Nat) (w : World) : Calls Try.prog 145 #[.int .i64 n] w fun e w' => e = .returned (.int .i64 n) ∧ w = w' := by
  go_enter Try.func145, Try.ntmps145
  go_wp2
  go_ret
  exact ⟨rfl, rfl⟩
theorem r2gcd_val {a b : Nat} {g : Int} (w : World) (ha : a ≤ 4000000000000000000) (hb : b ≤ 4000000000000000000) (h : (Nat.gcd a b : Int) = g) : Calls Try.prog 144 #[.int .i64 a, .int .i64 b] w fun e w' => e = .returned (.int .i64 g) ∧ Below w.heap.size w w' := h ▸ r2gcd_any a b w ha hb
theorem r2ratioValid_any (x y : Nat) (w : World) (hx : x ≤ 4000000000000000000) (hy : y ≤ 4000000000000000000) (hy1 : 1 ≤ y) (hg : Nat.gcd x y = 1) : Calls Try.prog 127 #[.agg #[.int .i64 x, .int .i64 y]] w fun e w' => e = .returned (.bool (rval x y)) ∧ Below w.heap.size w w' := by
  have hg' : ((Nat.gcd x y : Nat) : Int) = 1 := by omega
  have HG := Lib.hid hg'; clear hg hg'
  have t1 : decide (1 ≤ (y : Int)) = true := by simp <;> omega
  have t2 : decide ((-1000000000 : Int) ≤ (x : Int)) = true := by simp <;> omega
  by_cases h1 : y ≤ 1000000000
  · have i1 : decide ((y : Int) ≤ 1000000000) = true := by simp <;> omega
    by_cases h2 : x ≤ 1000000000
    · have i2 : decide ((x : Int) ≤ 1000000000) = true := by simp <;> omega
      have hr : rval x y = true := by simp [rval, h1, h2]
      rw [hr]
      go_enter Try.func127, Try.ntmps127
      go_wp2_with (refine wp_region_later_lit (by kernel_rfl) (by kernel_rfl) ?_; (repeat (go_big_quiet_step ((first | (go_at_call 145; exact later_same (r2size_any _ _)) | (go_at_call 144; exact later_of (r2gcd_val _ hx hy HG.out)))))); refine wpQuiet_nil ?_; intro w1 hb1; obtain ⟨hc1, hf1, hz1, hr1⟩ := bfacts hb1; (try simp only [World.size_alloc, World.size_setCell, World.size_drew, World.size_drewN] at hz1 hr1); (try have hw0 : w.heap.size < w1.heap.size := by omega); (try have hw1 : w.heap.size + 1 < w1.heap.size := by omega); (try have hw2 : w.heap.size + 1 + 1 < w1.heap.size := by omega))
      go_ret
      exact ⟨rfl, by (repeat' (first | (with_reducible exact Below.refl _ _) | (with_reducible assumption) | (with_reducible refine Below.alloc ?_ ?_ _) | (with_reducible refine Below.drew ?_) | (with_reducible refine Below.draws ?_ _) | (with_reducible refine Below.setCell ?_ ?_ _) | (refine Below.then ?_ (by with_reducible assumption)) | go_size))⟩
    · have i2 : decide ((x : Int) ≤ 1000000000) = false := by simp; omega
      have hr : rval x y = false := by simp [rval, h2]
      rw [hr]
      go_enter Try.func127, Try.ntmps127
      go_wp2_with (refine wp_region_later_lit (by kernel_rfl) (by kernel_rfl) ?_; (repeat (go_big_quiet_step (fail))); refine wpQuiet_nil ?_; intro w1 hb1; obtain ⟨hc1, hf1, hz1, hr1⟩ := bfacts hb1; (try simp only [World.size_alloc, World.size_setCell, World.size_drew, World.size_drewN] at hz1 hr1); (try have hw0 : w.heap.size < w1.heap.size := by omega); (try have hw1 : w.heap.size + 1 < w1.heap.size := by omega); (try have hw2 : w.heap.size + 1 + 1 < w1.heap.size := by omega))
      go_ret
      exact ⟨rfl, by (repeat' (first | (with_reducible exact Below.refl _ _) | (with_reducible assumption) | (with_reducible refine Below.alloc ?_ ?_ _) | (with_reducible refine Below.drew ?_) | (with_reducible refine Below.draws ?_ _) | (with_reducible refine Below.setCell ?_ ?_ _) | (refine Below.then ?_ (by with_reducible assumption)) | go_size))⟩
  · have i1 : decide ((y : Int) ≤ 1000000000) = false := by simp; omega
    have hr : rval x y = false := by simp [rval, h1]
    rw [hr]
    go_enter Try.func127, Try.ntmps127
    go_wp2_with (refine wp_region_later_lit (by kernel_rfl) (by kernel_rfl) ?_; (repeat (go_big_quiet_step (fail))); refine wpQuiet_nil ?_; intro w1 hb1; obtain ⟨hc1, hf1, hz1, hr1⟩ := bfacts hb1; (try simp only [World.size_alloc, World.size_setCell, World.size_drew, World.size_drewN] at hz1 hr1); (try have hw0 : w.heap.size < w1.heap.size := by omega); (try have hw1 : w.heap.size + 1 < w1.heap.size := by omega); (try have hw2 : w.heap.size + 1 + 1 < w1.heap.size := by omega))
    go_ret
    exact ⟨rfl, by (repeat' (first | (with_reducible exact Below.refl _ _) | (with_reducible assumption) | (with_reducible refine Below.alloc ?_ ?_ _) | (with_reducible refine Below.drew ?_) | (with_reducible refine Below.draws ?_ _) | (with_reducible refine Below.setCell ?_ ?_ _) | (refine Below.then ?_ (by with_reducible assumption)) | go_size))⟩
theorem r2lowest_any (num den : Nat) (w : World) (h1 : num ≤ 4000000000000000000) (h2 : den ≤ 4000000000000000000) (h3 : 1 ≤ den) : Calls Try.prog 126 #[.int .i64 num, .int .i64 den] w fun e w' => e = rRat (lowR num den) ∧ Below w.heap.size w w' := by
  unfold lowR
  have hg0 : 0 < Nat.gcd num den := Nat.gcd_pos_of_pos_right _ (by omega)
  have hco : Nat.gcd (num / Nat.gcd num den) (den / Nat.gcd num den) = 1 := by rw [Nat.gcd_div (Nat.gcd_dvd_left _ _) (Nat.gcd_dvd_right _ _), Nat.div_self hg0]
  have hd1 : 1 ≤ den / Nat.gcd num den := Nat.div_pos (Nat.le_of_dvd (by omega) (Nat.gcd_dvd_right _ _)) hg0
  have hd2 : den / Nat.gcd num den ≤ den := Nat.div_le_self _ _
  have hd3 : num / Nat.gcd num den ≤ num := Nat.div_le_self _ _
  have hgl : Nat.gcd num den ≤ den := Nat.le_of_dvd (by omega) (Nat.gcd_dvd_right _ _)
  have hgc := fun w => r2gcd_any num den w h1 h2
  generalize Nat.gcd num den = g at *
  have HG := Lib.hid hgc; have HCO := Lib.hid hco; clear hgc hco
  have hv := fun w => r2ratioValid_any (num / g) (den / g) w (by omega) (by omega) hd1 HCO.out
  have d0 : decide ((den : Int) < 0) = false := by simp
  have q1 : 0 ≤ (num : Int) / (g : Int) ∧ (num : Int) / (g : Int) ≤ 4000000000000000000 := ⟨Int.ediv_nonneg (by omega) (by omega), Int.le_trans (Int.ediv_le_self _ (by omega)) (by omega)⟩
  have q2 : 0 ≤ (den : Int) / (g : Int) ∧ (den : Int) / (g : Int) ≤ 4000000000000000000 := ⟨Int.ediv_nonneg (by omega) (by omega), Int.le_trans (Int.ediv_le_self _ (by omega)) (by omega)⟩
  simp only [Int.natCast_ediv] at hv ⊢
  cases hr : rval (num / g) (den / g)
  all_goals
    rw [hr] at hv
    have HV := Lib.hid hv; clear hv
    clear hr
    simp only [Bool.false_eq_true, if_true, if_false]
    go_enter Try.func126, Try.ntmps126
    go_wp2_with (first | (go_at_call 145; refine (r2size_any _ _).mono ?_; rintro e w1 ⟨rfl, rfl⟩) | (go_at_call 144; refine (HG.out _).mono ?_; rintro e w1 ⟨rfl, hb1⟩; obtain ⟨hc1, hf1, hz1, hr1⟩ := bfacts hb1; (try simp only [World.size_alloc, World.size_setCell, World.size_drew, World.size_drewN] at hz1 hr1); (try have hw0 : w.heap.size < w1.heap.size := by omega); (try have hw1 : w.heap.size + 1 < w1.heap.size := by omega); (try have hw2 : w.heap.size + 1 + 1 < w1.heap.size := by omega)))
    go_region
    go_wp2_with (go_at_call 127; refine (HV.out _).mono ?_; rintro e w1 ⟨rfl, hb1⟩; obtain ⟨hc1, hf1, hz1, hr1⟩ := bfacts hb1; (try simp only [World.size_alloc, World.size_setCell, World.size_drew, World.size_drewN] at hz1 hr1); (try have hw0 : w.heap.size < w1.heap.size := by omega); (try have hw1 : w.heap.size + 1 < w1.heap.size := by omega); (try have hw2 : w.heap.size + 1 + 1 < w1.heap.size := by omega))
    have x0 : w1.cell? ⟨w.heap.size, 0, none⟩ = some (.int .i64 0) := by simp [go_sem, *]
    have x1 : w1.cell? ⟨w.heap.size, 1, none⟩ = some (.int .i64 0) := by simp [go_sem, *]
  · exact bodyPost_ret (v := .tuple #[.agg #[.int .i64 0, .int .i64 0], .int .i64 6]) (by simp [results, Try.results126, go_sem, x0, x1]) rfl ⟨rfl, by (repeat' (first | (with_reducible exact Below.refl _ _) | (with_reducible assumption) | (with_reducible refine Below.alloc ?_ ?_ _) | (with_reducible refine Below.drew ?_) | (with_reducible refine Below.draws ?_ _) | (with_reducible refine Below.setCell ?_ ?_ _) | (refine Below.then ?_ (by with_reducible assumption)) | go_size))⟩
  · exact bodyPost_ret (v := .tuple #[.agg #[.int .i64 (num / g), .int .i64 (den / g)], .int .i64 0]) (by simp [results, Try.results126, go_sem, x0, x1]) rfl ⟨rfl, by (repeat' (first | (with_reducible exact Below.refl _ _) | (with_reducible assumption) | (with_reducible refine Below.alloc ?_ ?_ _) | (with_reducible refine Below.drew ?_) | (with_reducible refine Below.draws ?_ _) | (with_reducible refine Below.setCell ?_ ?_ _) | (refine Below.then ?_ (by with_reducible assumption)) | go_size))⟩
theorem r2make_any (num den : Nat) (w : World) (h1 : num ≤ 1000000000000000000) (h2 : den ≤ 1000000000000000000) (h3 : 1 ≤ den) : Calls Try.prog 91 #[.int .i64 num, .int .i64 den] w fun e w' => e = rRat (lowR num den) ∧ Below w.heap.size w w' := by
  have d0 : ((den : Int) == 0) = false := by simp; omega
  have hl := fun w => r2lowest_any num den w (by omega) (by omega) h3
  generalize lowR num den = R at *
  obtain ⟨⟨a, b⟩, e⟩ := R
  have HL := Lib.hid hl; clear hl
  go_enter Try.func91, Try.ntmps91
  go_wp2_with (go_at_call 126; refine (HL.out _).mono ?_; rintro e w1 ⟨rfl, hb1⟩; obtain ⟨hc1, hf1, hz1, hr1⟩ := bfacts hb1; (try simp only [World.size_alloc, World.size_setCell, World.size_drew, World.size_drewN] at hz1 hr1); (try have hw0 : w.heap.size < w1.heap.size := by omega); (try have hw1 : w.heap.size + 1 < w1.heap.size := by omega); (try have hw2 : w.heap.size + 1 + 1 < w1.heap.size := by omega))
  have x0 : w1.cell? ⟨w.heap.size, 0, none⟩ = some (.int .i64 0) := by simp [go_sem, *]
  have x1 : w1.cell? ⟨w.heap.size, 1, none⟩ = some (.int .i64 0) := by simp [go_sem, *]
  exact bodyPost_ret (v := .tuple #[.agg #[.int .i64 a, .int .i64 b], .int .i64 e]) (by simp [results, Try.results91, go_sem, x0, x1]) rfl ⟨rfl, by (repeat' (first | (with_reducible exact Below.refl _ _) | (with_reducible assumption) | (with_reducible refine Below.alloc ?_ ?_ _) | (with_reducible refine Below.drew ?_) | (with_reducible refine Below.draws ?_ _) | (with_reducible refine Below.setCell ?_ ?_ _) | (refine Below.then ?_ (by with_reducible assumption)) | go_size))⟩
end Go.Proofs.Ytabbmnnohnfbeaa
