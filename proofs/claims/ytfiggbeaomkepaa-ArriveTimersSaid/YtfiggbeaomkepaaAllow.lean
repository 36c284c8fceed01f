/- Contracts of Allowed, of its reference, of pairs and of own. The conditions: the lists read as the lists named. -/
import Derived.Test.YtfiggbeaomkepaaChk
namespace Go.Proofs.Ytfiggbeaomkepaa
open Go.RowKit
set_option linter.unusedSimpArgs false
set_option linter.unusedVariables false
def allowGo (g j : Int) : Int → List P2 → Bool
  | _, [] => true
  | least, x :: xs => if x.1 < least ∨ j < x.2 then false else allowGo g j (x.1 + g) xs
def allowR (f g j : Int) (xs : List P2) : Bool × Int := if vpat f g j then (if listE xs = 0 then (allowGo g j f xs, 0) else (false, listE xs)) else (false, 1)
theorem listE_zero {xs : List P2} (h : listE xs = 0) : xs.any farB = false ∧ xs.length ≤ 40 := by
  unfold listE at h
  split at h
  · omega
  · split at h
    · omega
    · rename_i h1 h2; exact ⟨by simpa using h1, by omega⟩
theorem farB_false {x : P2} (h : farB x = false) : (0 ≤ x.1 ∧ x.1 ≤ 1000000) ∧ (0 ≤ x.2 ∧ x.2 ≤ 1000000) := by
  simp only [farB, Bool.or_eq_false_iff, Bool.not_eq_false', inB_iff] at h; exact h
theorem allowed_any (f g j : Int) (a : Option Addr) (n c : Nat) (w : World) (xs : List P2) (hR : Rd w a n 2 (xs.map enc2)) :
    Calls Try.prog 24 #[patV f g j, .slice a n c] w fun e w' => e = rBP (allowR f g j xs) ∧ Below w.heap.size w w' := by
  have HL := Lib.hid hR.length
  have hs := hR.small
  have HR := Lib.hid hR; clear hR
  by_cases hv : vpat f g j = true
  · rw [allowR, if_pos hv]
    by_cases he : listE xs = 0
    · rw [if_pos he]
      obtain ⟨h1, h2⟩ := listE_zero he
      obtain ⟨k1, k2, k3⟩ := vpat_iff.1 hv
      generalize hq : allowGo g j f xs = R
      have HQ := Lib.hid hq
      have HF := Lib.hid h1
      clear hq h1 h2
      go_enter Try.func24, Try.ntmps24
      go_wp2_with (first | (go_at_call 26; refine (valid_any _ _ _ _).mono ?_; rintro e w1 ⟨rfl, hb1⟩; obtain ⟨hc1, hf1, hz1, hr1⟩ := bfacts hb1; (try simp only [World.size_alloc, World.size_setCell, World.size_drew, World.size_drewN] at hz1 hr1); (try have hw0 : w.heap.size < w1.heap.size := by omega); (try have hw1 : w.heap.size + 1 < w1.heap.size := by omega); (try have hw2 : w.heap.size + 1 + 1 < w1.heap.size := by omega)) | (go_at_call 52; refine (check_one _ _ _ _ _ ((HR.out.ext (show Below w.heap.size w (w.alloc _) by (repeat' (first | (with_reducible exact Below.refl _ _) | (with_reducible assumption) | (with_reducible refine Below.alloc ?_ ?_ _) | (with_reducible refine Below.drew ?_) | (with_reducible refine Below.draws ?_ _) | (with_reducible refine Below.setCell ?_ ?_ _) | (refine Below.then ?_ (by with_reducible assumption)) | go_size)))).ext hb1)).mono ?_; rintro e w1 ⟨rfl, hb1⟩; obtain ⟨hc1, hf1, hz1, hr1⟩ := bfacts hb1; (try simp only [World.size_alloc, World.size_setCell, World.size_drew, World.size_drewN] at hz1 hr1); (try have hw0 : w.heap.size < w1.heap.size := by omega); (try have hw1 : w.heap.size + 1 < w1.heap.size := by omega); (try have hw2 : w.heap.size + 1 + 1 < w1.heap.size := by omega)))
      go_loopw [7, 23] (fun q i wr => ∃ (k : Nat) (least : Int), k ≤ n ∧ i = .int .i64 k ∧ q = .int .i64 least ∧ allowGo g j least (xs.drop k) = R ∧ (xs.drop k).any farB = false ∧ wr.cell? ⟨w.heap.size, 1, none⟩ = some (.int .i64 g) ∧ wr.cell? ⟨w.heap.size, 2, none⟩ = some (.int .i64 j) ∧ w.heap.size < wr.heap.size ∧ Below w.heap.size w wr) (fun _ i _ => n - (intOf i).toNat)
      case atStart => exact ⟨0, f, Nat.zero_le _, rfl, rfl, HQ.out, HF.out, by simp [go_sem, *], by simp [go_sem, *], by omega, by (repeat' (first | (with_reducible exact Below.refl _ _) | (with_reducible assumption) | (with_reducible refine Below.alloc ?_ ?_ _) | (with_reducible refine Below.drew ?_) | (with_reducible refine Below.draws ?_ _) | (with_reducible refine Below.setCell ?_ ?_ _) | (refine Below.then ?_ (by with_reducible assumption)) | go_size))⟩
      case round =>
        obtain ⟨k, least, hk, rfl, rfl, he, hf, hc1, hc2, hz, hB⟩ := hrel
        have HE := Lib.hid he; have HF2 := Lib.hid hf; clear he hf
        by_cases hlt : k < n
        · obtain ⟨⟨x1, x2⟩, b, off, rfl, hb, h1, h2, HD⟩ := (HR.out.ext hB).next2 k hlt
          simp only [] at h1 h2
          have HB := Lib.hid hB; clear hB
          have hf3 : farB (x1, x2) = false ∧ (xs.drop (k + 1)).any farB = false := by have := HF2.out; rw [HD.out] at this; simpa using this
          obtain ⟨⟨b1, b2⟩, b3, b4⟩ := farB_false hf3.1
          simp only [] at b1 b2 b3 b4
          have HF3 := Lib.hid hf3.2; clear hf3
          have HE2 : Hid ((if x1 < least ∨ j < x2 then false else allowGo g j (x1 + g) (xs.drop (k + 1))) = R) := by have := HE.out; rw [HD.out] at this; exact this
          by_cases ht : x1 < least ∨ j < x2
          · have hr : R = false := by rw [← HE2.out, if_pos ht]
            subst hr
            by_cases ht1 : x1 < least
            · go_wp2
              go_ret2
              exact ⟨rfl, HB.out.trans (by (repeat' (first | (with_reducible exact Below.refl _ _) | (with_reducible assumption) | (with_reducible refine Below.alloc ?_ ?_ _) | (with_reducible refine Below.drew ?_) | (with_reducible refine Below.draws ?_ _) | (with_reducible refine Below.setCell ?_ ?_ _) | (refine Below.then ?_ (by with_reducible assumption)) | go_size)))⟩
            · have ht2 : j < x2 := by omega
              go_wp2
              go_ret2
              exact ⟨rfl, HB.out.trans (by (repeat' (first | (with_reducible exact Below.refl _ _) | (with_reducible assumption) | (with_reducible refine Below.alloc ?_ ?_ _) | (with_reducible refine Below.drew ?_) | (with_reducible refine Below.draws ?_ _) | (with_reducible refine Below.setCell ?_ ?_ _) | (refine Below.then ?_ (by with_reducible assumption)) | go_size)))⟩
          · have HE3 : Hid (allowGo g j (x1 + g) (xs.drop (k + 1)) = R) := by have := HE2.out; rwa [if_neg ht] at this
            have t1 : ¬ x1 < least := fun h => ht (.inl h)
            have t2 : ¬ j < x2 := fun h => ht (.inr h)
            clear ht
            go_wp2
            go_roundw
            case rel => exact ⟨k + 1, x1 + g, by omega, by go_num, rfl, HE3.out, HF3.out, by simp [go_sem, *], by simp [go_sem, *], by simp; omega, HB.out.trans (by (repeat' (first | (with_reducible exact Below.refl _ _) | (with_reducible assumption) | (with_reducible refine Below.alloc ?_ ?_ _) | (with_reducible refine Below.drew ?_) | (with_reducible refine Below.draws ?_ _) | (with_reducible refine Below.setCell ?_ ?_ _) | (refine Below.then ?_ (by with_reducible assumption)) | go_size)))⟩
            case measure => simp [intOf]; omega
        · have hr : R = true := by rw [← HE.out, drop_end HL.out (by omega)]; rfl
          subst hr
          go_wp2
          go_ret2
          exact ⟨rfl, hB⟩
    · rw [if_neg he]
      have he' : (listE xs != 0) = true := by simpa using he
      go_enter Try.func24, Try.ntmps24
      go_wp2_with (first | (go_at_call 26; refine (valid_any _ _ _ _).mono ?_; rintro e w1 ⟨rfl, hb1⟩; obtain ⟨hc1, hf1, hz1, hr1⟩ := bfacts hb1; (try simp only [World.size_alloc, World.size_setCell, World.size_drew, World.size_drewN] at hz1 hr1); (try have hw0 : w.heap.size < w1.heap.size := by omega); (try have hw1 : w.heap.size + 1 < w1.heap.size := by omega); (try have hw2 : w.heap.size + 1 + 1 < w1.heap.size := by omega)) | (go_at_call 52; refine (check_one _ _ _ _ _ ((HR.out.ext (show Below w.heap.size w (w.alloc _) by (repeat' (first | (with_reducible exact Below.refl _ _) | (with_reducible assumption) | (with_reducible refine Below.alloc ?_ ?_ _) | (with_reducible refine Below.drew ?_) | (with_reducible refine Below.draws ?_ _) | (with_reducible refine Below.setCell ?_ ?_ _) | (refine Below.then ?_ (by with_reducible assumption)) | go_size)))).ext hb1)).mono ?_; rintro e w1 ⟨rfl, hb1⟩; obtain ⟨hc1, hf1, hz1, hr1⟩ := bfacts hb1; (try simp only [World.size_alloc, World.size_setCell, World.size_drew, World.size_drewN] at hz1 hr1); (try have hw0 : w.heap.size < w1.heap.size := by omega); (try have hw1 : w.heap.size + 1 < w1.heap.size := by omega); (try have hw2 : w.heap.size + 1 + 1 < w1.heap.size := by omega)))
      go_ret2
      exact ⟨rfl, by (repeat' (first | (with_reducible exact Below.refl _ _) | (with_reducible assumption) | (with_reducible refine Below.alloc ?_ ?_ _) | (with_reducible refine Below.drew ?_) | (with_reducible refine Below.draws ?_ _) | (with_reducible refine Below.setCell ?_ ?_ _) | (refine Below.then ?_ (by with_reducible assumption)) | go_size))⟩
  · rw [allowR, if_neg hv]
    go_enter Try.func24, Try.ntmps24
    go_wp2_with (first | (go_at_call 26; refine (valid_any _ _ _ _).mono ?_; rintro e w1 ⟨rfl, hb1⟩; obtain ⟨hc1, hf1, hz1, hr1⟩ := bfacts hb1; (try simp only [World.size_alloc, World.size_setCell, World.size_drew, World.size_drewN] at hz1 hr1); (try have hw0 : w.heap.size < w1.heap.size := by omega); (try have hw1 : w.heap.size + 1 < w1.heap.size := by omega); (try have hw2 : w.heap.size + 1 + 1 < w1.heap.size := by omega)) | (go_at_call 52; refine (check_one _ _ _ _ _ ((HR.out.ext (show Below w.heap.size w (w.alloc _) by (repeat' (first | (with_reducible exact Below.refl _ _) | (with_reducible assumption) | (with_reducible refine Below.alloc ?_ ?_ _) | (with_reducible refine Below.drew ?_) | (with_reducible refine Below.draws ?_ _) | (with_reducible refine Below.setCell ?_ ?_ _) | (refine Below.then ?_ (by with_reducible assumption)) | go_size)))).ext hb1)).mono ?_; rintro e w1 ⟨rfl, hb1⟩; obtain ⟨hc1, hf1, hz1, hr1⟩ := bfacts hb1; (try simp only [World.size_alloc, World.size_setCell, World.size_drew, World.size_drewN] at hz1 hr1); (try have hw0 : w.heap.size < w1.heap.size := by omega); (try have hw1 : w.heap.size + 1 < w1.heap.size := by omega); (try have hw2 : w.heap.size + 1 + 1 < w1.heap.size := by omega)))
    go_ret2
    exact ⟨rfl, by (repeat' (first | (with_reducible exact Below.refl _ _) | (with_reducible assumption) | (with_reducible refine Below.alloc ?_ ?_ _) | (with_reducible refine Below.drew ?_) | (with_reducible refine Below.draws ?_ _) | (with_reducible refine Below.setCell ?_ ?_ _) | (refine Below.then ?_ (by with_reducible assumption)) | go_size))⟩
theorem rallowed_any (f g j : Int) (a : Option Addr) (n c : Nat) (w : World) (xs : List P2) (hR : Rd w a n 2 (xs.map enc2)) :
    Calls Try.prog 25 #[patV f g j, .slice a n c] w fun e w' => e = rBP (allowR f g j xs) ∧ Below w.heap.size w w' := by
  have HL := Lib.hid hR.length
  have hs := hR.small
  have HR := Lib.hid hR; clear hR
  by_cases hv : vpat f g j = true
  · rw [allowR, if_pos hv]
    by_cases he : listE xs = 0
    · rw [if_pos he]
      obtain ⟨h1, h2⟩ := listE_zero he
      obtain ⟨k1, k2, k3⟩ := vpat_iff.1 hv
      generalize hq : allowGo g j f xs = R
      have HQ := Lib.hid hq
      have HF := Lib.hid h1
      clear hq h1 h2
      go_enter Try.func25, Try.ntmps25
      go_wp2_with (first | (go_at_call 27; refine (rvalid_any _ _ _ _).mono ?_; rintro e w1 ⟨rfl, hb1⟩; obtain ⟨hc1, hf1, hz1, hr1⟩ := bfacts hb1; (try simp only [World.size_alloc, World.size_setCell, World.size_drew, World.size_drewN] at hz1 hr1); (try have hw0 : w.heap.size < w1.heap.size := by omega); (try have hw1 : w.heap.size + 1 < w1.heap.size := by omega); (try have hw2 : w.heap.size + 1 + 1 < w1.heap.size := by omega)) | (go_at_call 53; refine (listed_any _ _ _ _ _ ((HR.out.ext (show Below w.heap.size w (w.alloc _) by (repeat' (first | (with_reducible exact Below.refl _ _) | (with_reducible assumption) | (with_reducible refine Below.alloc ?_ ?_ _) | (with_reducible refine Below.drew ?_) | (with_reducible refine Below.draws ?_ _) | (with_reducible refine Below.setCell ?_ ?_ _) | (refine Below.then ?_ (by with_reducible assumption)) | go_size)))).ext hb1)).mono ?_; rintro e w1 ⟨rfl, hb1⟩; obtain ⟨hc1, hf1, hz1, hr1⟩ := bfacts hb1; (try simp only [World.size_alloc, World.size_setCell, World.size_drew, World.size_drewN] at hz1 hr1); (try have hw0 : w.heap.size < w1.heap.size := by omega); (try have hw1 : w.heap.size + 1 < w1.heap.size := by omega); (try have hw2 : w.heap.size + 1 + 1 < w1.heap.size := by omega)))
      go_loopw [7] (fun i wr => ∃ (k : Nat) (least : Int), k ≤ n ∧ i = .int .i64 k ∧ f ≤ least ∧ (k = 0 ∧ least = f ∨ 0 < k ∧ ∃ y : P2, least = y.1 + g ∧ (0 ≤ y.1 ∧ y.1 ≤ 1000000) ∧ xs.drop (k - 1) = y :: xs.drop k) ∧ allowGo g j least (xs.drop k) = R ∧ (xs.drop k).any farB = false ∧ wr.cell? ⟨w.heap.size, 0, none⟩ = some (.int .i64 f) ∧ wr.cell? ⟨w.heap.size, 1, none⟩ = some (.int .i64 g) ∧ wr.cell? ⟨w.heap.size, 2, none⟩ = some (.int .i64 j) ∧ w.heap.size < wr.heap.size ∧ Below w.heap.size w wr) (fun i _ => n - (intOf i).toNat)
      case atStart => exact ⟨0, f, Nat.zero_le _, rfl, Int.le_refl _, .inl ⟨rfl, rfl⟩, HQ.out, HF.out, by simp [go_sem, *], by simp [go_sem, *], by simp [go_sem, *], by omega, by (repeat' (first | (with_reducible exact Below.refl _ _) | (with_reducible assumption) | (with_reducible refine Below.alloc ?_ ?_ _) | (with_reducible refine Below.drew ?_) | (with_reducible refine Below.draws ?_ _) | (with_reducible refine Below.setCell ?_ ?_ _) | (refine Below.then ?_ (by with_reducible assumption)) | go_size))⟩
      case round =>
        obtain ⟨k, least, hk, rfl, hfl, hpr, he, hf, hc0, hc1, hc2, hz, hB⟩ := hrel
        have HE := Lib.hid he; have HF2 := Lib.hid hf; have HP := Lib.hid hpr; clear he hf hpr
        by_cases hlt : k < n
        · obtain ⟨⟨x1, x2⟩, b, off, rfl, hb, h1, h2, HD⟩ := (HR.out.ext hB).next2 k hlt
          simp only [] at h1 h2
          have hRr := Lib.hid (HR.out.ext hB)
          have HB := Lib.hid hB; clear hB
          have hf3 : farB (x1, x2) = false ∧ (xs.drop (k + 1)).any farB = false := by have := HF2.out; rw [HD.out] at this; simpa using this
          obtain ⟨⟨b1, b2⟩, b3, b4⟩ := farB_false hf3.1
          simp only [] at b1 b2 b3 b4
          have HF3 := Lib.hid hf3.2; clear hf3
          have HE2 : Hid ((if x1 < least ∨ j < x2 then false else allowGo g j (x1 + g) (xs.drop (k + 1))) = R) := by have := HE.out; rw [HD.out] at this; exact this
          have HN : Hid (0 < k + 1 ∧ ∃ y : P2, x1 + g = y.1 + g ∧ (0 ≤ y.1 ∧ y.1 ≤ 1000000) ∧ xs.drop (k + 1 - 1) = y :: xs.drop (k + 1)) := ⟨by omega, (x1, x2), rfl, ⟨b1, b2⟩, HD.out⟩
          rcases HP.out with ⟨rfl, rfl⟩ | ⟨hk0, ⟨y1, y2⟩, hly, ⟨hy1, hy2⟩, hdy⟩
          · simp only [Nat.zero_mul, Nat.add_zero] at h1 h2
            by_cases t1 : x1 < least
            · have hr : R = false := by rw [← HE2.out, if_pos (.inl t1)]
              subst hr
              clear HP HE2 HN
              go_wp2_with (refine wp_region_later_lit (by kernel_rfl) (by kernel_rfl) ?_; (repeat (go_big_quiet_step (fail))); refine wpQuiet_nil ?_; intro w1 hb1; obtain ⟨hc1, hf1, hz1, hr1⟩ := bfacts hb1; (try simp only [World.size_alloc, World.size_setCell, World.size_drew, World.size_drewN] at hz1 hr1); (try have hw0 : w.heap.size < w1.heap.size := by omega); (try have hw1 : w.heap.size + 1 < w1.heap.size := by omega); (try have hw2 : w.heap.size + 1 + 1 < w1.heap.size := by omega))
              go_ret2
              exact ⟨rfl, (by have hB' := HB.out; (repeat' (first | (with_reducible exact Below.refl _ _) | (with_reducible assumption) | (with_reducible refine Below.alloc ?_ ?_ _) | (with_reducible refine Below.drew ?_) | (with_reducible refine Below.draws ?_ _) | (with_reducible refine Below.setCell ?_ ?_ _) | (refine Below.then ?_ (by with_reducible assumption)) | go_size)))⟩
            · have d1 : decide (x1 < least) = false := by simpa using t1
              by_cases t2 : j < x2
              · have hr : R = false := by rw [← HE2.out, if_pos (.inr t2)]
                subst hr
                clear HP HE2 HN
                go_wp2_with (refine wp_region_later_lit (by kernel_rfl) (by kernel_rfl) ?_; (repeat (go_big_quiet_step (fail))); refine wpQuiet_nil ?_; intro w1 hb1; obtain ⟨hc1, hf1, hz1, hr1⟩ := bfacts hb1; (try simp only [World.size_alloc, World.size_setCell, World.size_drew, World.size_drewN] at hz1 hr1); (try have hw0 : w.heap.size < w1.heap.size := by omega); (try have hw1 : w.heap.size + 1 < w1.heap.size := by omega); (try have hw2 : w.heap.size + 1 + 1 < w1.heap.size := by omega))
                go_ret2
                exact ⟨rfl, (by have hB' := HB.out; (repeat' (first | (with_reducible exact Below.refl _ _) | (with_reducible assumption) | (with_reducible refine Below.alloc ?_ ?_ _) | (with_reducible refine Below.drew ?_) | (with_reducible refine Below.draws ?_ _) | (with_reducible refine Below.setCell ?_ ?_ _) | (refine Below.then ?_ (by with_reducible assumption)) | go_size)))⟩
              · have d2 : decide (j < x2) = false := by simpa using t2
                have HE3 : Hid (allowGo g j (x1 + g) (xs.drop (0 + 1)) = R) := by have := HE2.out; rwa [if_neg (by omega)] at this
                clear HE2
                go_wp2_with (refine wp_region_later_lit (by kernel_rfl) (by kernel_rfl) ?_; (repeat (go_big_quiet_step (fail))); refine wpQuiet_nil ?_; intro w1 hb1; obtain ⟨hc1, hf1, hz1, hr1⟩ := bfacts hb1; (try simp only [World.size_alloc, World.size_setCell, World.size_drew, World.size_drewN] at hz1 hr1); (try have hw0 : w.heap.size < w1.heap.size := by omega); (try have hw1 : w.heap.size + 1 < w1.heap.size := by omega); (try have hw2 : w.heap.size + 1 + 1 < w1.heap.size := by omega))
                go_roundw
                case rel => exact ⟨0 + 1, x1 + g, by omega, by go_num, by omega, .inr HN.out, HE3.out, HF3.out, by simp [go_sem, *], by simp [go_sem, *], by simp [go_sem, *], by omega, (by have hB' := HB.out; (repeat' (first | (with_reducible exact Below.refl _ _) | (with_reducible assumption) | (with_reducible refine Below.alloc ?_ ?_ _) | (with_reducible refine Below.drew ?_) | (with_reducible refine Below.draws ?_ _) | (with_reducible refine Below.setCell ?_ ?_ _) | (refine Below.then ?_ (by with_reducible assumption)) | go_size)))⟩
                case measure => simp [intOf]; omega
          · obtain ⟨⟨z1, z2⟩, b', off', hab, hb', g1, g2, HD'⟩ := hRr.out.next2 (k - 1) (by omega)
            obtain ⟨rfl, rfl⟩ : b = b' ∧ off = off' := by simpa using hab
            have hz1 : (y1, y2) = (z1, z2) ∧ True := by have := HD'.out; rw [hdy] at this; exact ⟨(List.cons.inj this).1, trivial⟩
            have hz2 : y1 = z1 := congrArg Prod.fst hz1.1
            subst hz2
            simp only [] at g1 g2 hly hy1 hy2
            clear hy1 hdy HD' hab
            have hkk : ((k : Int) - 1).toNat = k - 1 := by omega
            have hmax : max f (y1 + g) = y1 + g := by omega
            subst hly
            by_cases t1 : x1 < (y1 + g)
            · have hr : R = false := by rw [← HE2.out, if_pos (.inl t1)]
              subst hr
              clear HP HE2 HN
              go_wp2_with (refine wp_region_later_lit (by kernel_rfl) (by kernel_rfl) ?_; (repeat (go_big_quiet_step (fail))); refine wpQuiet_nil ?_; intro w1 hb1; obtain ⟨hc1, hf1, hz1, hr1⟩ := bfacts hb1; (try simp only [World.size_alloc, World.size_setCell, World.size_drew, World.size_drewN] at hz1 hr1); (try have hw0 : w.heap.size < w1.heap.size := by omega); (try have hw1 : w.heap.size + 1 < w1.heap.size := by omega); (try have hw2 : w.heap.size + 1 + 1 < w1.heap.size := by omega))
              go_ret2
              exact ⟨rfl, (by have hB' := HB.out; (repeat' (first | (with_reducible exact Below.refl _ _) | (with_reducible assumption) | (with_reducible refine Below.alloc ?_ ?_ _) | (with_reducible refine Below.drew ?_) | (with_reducible refine Below.draws ?_ _) | (with_reducible refine Below.setCell ?_ ?_ _) | (refine Below.then ?_ (by with_reducible assumption)) | go_size)))⟩
            · have d1 : decide (x1 < (y1 + g)) = false := by simpa using t1
              by_cases t2 : j < x2
              · have hr : R = false := by rw [← HE2.out, if_pos (.inr t2)]
                subst hr
                clear HP HE2 HN
                go_wp2_with (refine wp_region_later_lit (by kernel_rfl) (by kernel_rfl) ?_; (repeat (go_big_quiet_step (fail))); refine wpQuiet_nil ?_; intro w1 hb1; obtain ⟨hc1, hf1, hz1, hr1⟩ := bfacts hb1; (try simp only [World.size_alloc, World.size_setCell, World.size_drew, World.size_drewN] at hz1 hr1); (try have hw0 : w.heap.size < w1.heap.size := by omega); (try have hw1 : w.heap.size + 1 < w1.heap.size := by omega); (try have hw2 : w.heap.size + 1 + 1 < w1.heap.size := by omega))
                go_ret2
                exact ⟨rfl, (by have hB' := HB.out; (repeat' (first | (with_reducible exact Below.refl _ _) | (with_reducible assumption) | (with_reducible refine Below.alloc ?_ ?_ _) | (with_reducible refine Below.drew ?_) | (with_reducible refine Below.draws ?_ _) | (with_reducible refine Below.setCell ?_ ?_ _) | (refine Below.then ?_ (by with_reducible assumption)) | go_size)))⟩
              · have d2 : decide (j < x2) = false := by simpa using t2
                have HE3 : Hid (allowGo g j (x1 + g) (xs.drop (k + 1)) = R) := by have := HE2.out; rwa [if_neg (by omega)] at this
                clear HE2
                go_wp2_with (refine wp_region_later_lit (by kernel_rfl) (by kernel_rfl) ?_; (repeat (go_big_quiet_step (fail))); refine wpQuiet_nil ?_; intro w1 hb1; obtain ⟨hc1, hf1, hz1, hr1⟩ := bfacts hb1; (try simp only [World.size_alloc, World.size_setCell, World.size_drew, World.size_drewN] at hz1 hr1); (try have hw0 : w.heap.size < w1.heap.size := by omega); (try have hw1 : w.heap.size + 1 < w1.heap.size := by omega); (try have hw2 : w.heap.size + 1 + 1 < w1.heap.size := by omega))
                go_roundw
                case rel => exact ⟨k + 1, x1 + g, by omega, by go_num, by omega, .inr HN.out, HE3.out, HF3.out, by simp [go_sem, *], by simp [go_sem, *], by simp [go_sem, *], by omega, (by have hB' := HB.out; (repeat' (first | (with_reducible exact Below.refl _ _) | (with_reducible assumption) | (with_reducible refine Below.alloc ?_ ?_ _) | (with_reducible refine Below.drew ?_) | (with_reducible refine Below.draws ?_ _) | (with_reducible refine Below.setCell ?_ ?_ _) | (refine Below.then ?_ (by with_reducible assumption)) | go_size)))⟩
                case measure => simp [intOf]; omega
        · have hr : R = true := by rw [← HE.out, drop_end HL.out (by omega)]; rfl
          subst hr
          go_wp2
          go_ret2
          exact ⟨rfl, hB⟩
    · rw [if_neg he]
      have he' : (listE xs != 0) = true := by simpa using he
      go_enter Try.func25, Try.ntmps25
      go_wp2_with (first | (go_at_call 27; refine (rvalid_any _ _ _ _).mono ?_; rintro e w1 ⟨rfl, hb1⟩; obtain ⟨hc1, hf1, hz1, hr1⟩ := bfacts hb1; (try simp only [World.size_alloc, World.size_setCell, World.size_drew, World.size_drewN] at hz1 hr1); (try have hw0 : w.heap.size < w1.heap.size := by omega); (try have hw1 : w.heap.size + 1 < w1.heap.size := by omega); (try have hw2 : w.heap.size + 1 + 1 < w1.heap.size := by omega)) | (go_at_call 53; refine (listed_any _ _ _ _ _ ((HR.out.ext (show Below w.heap.size w (w.alloc _) by (repeat' (first | (with_reducible exact Below.refl _ _) | (with_reducible assumption) | (with_reducible refine Below.alloc ?_ ?_ _) | (with_reducible refine Below.drew ?_) | (with_reducible refine Below.draws ?_ _) | (with_reducible refine Below.setCell ?_ ?_ _) | (refine Below.then ?_ (by with_reducible assumption)) | go_size)))).ext hb1)).mono ?_; rintro e w1 ⟨rfl, hb1⟩; obtain ⟨hc1, hf1, hz1, hr1⟩ := bfacts hb1; (try simp only [World.size_alloc, World.size_setCell, World.size_drew, World.size_drewN] at hz1 hr1); (try have hw0 : w.heap.size < w1.heap.size := by omega); (try have hw1 : w.heap.size + 1 < w1.heap.size := by omega); (try have hw2 : w.heap.size + 1 + 1 < w1.heap.size := by omega)))
      go_ret2
      exact ⟨rfl, by (repeat' (first | (with_reducible exact Below.refl _ _) | (with_reducible assumption) | (with_reducible refine Below.alloc ?_ ?_ _) | (with_reducible refine Below.drew ?_) | (with_reducible refine Below.draws ?_ _) | (with_reducible refine Below.setCell ?_ ?_ _) | (refine Below.then ?_ (by with_reducible assumption)) | go_size))⟩
  · rw [allowR, if_neg hv]
    go_enter Try.func25, Try.ntmps25
    go_wp2_with (first | (go_at_call 27; refine (rvalid_any _ _ _ _).mono ?_; rintro e w1 ⟨rfl, hb1⟩; obtain ⟨hc1, hf1, hz1, hr1⟩ := bfacts hb1; (try simp only [World.size_alloc, World.size_setCell, World.size_drew, World.size_drewN] at hz1 hr1); (try have hw0 : w.heap.size < w1.heap.size := by omega); (try have hw1 : w.heap.size + 1 < w1.heap.size := by omega); (try have hw2 : w.heap.size + 1 + 1 < w1.heap.size := by omega)) | (go_at_call 53; refine (listed_any _ _ _ _ _ ((HR.out.ext (show Below w.heap.size w (w.alloc _) by (repeat' (first | (with_reducible exact Below.refl _ _) | (with_reducible assumption) | (with_reducible refine Below.alloc ?_ ?_ _) | (with_reducible refine Below.drew ?_) | (with_reducible refine Below.draws ?_ _) | (with_reducible refine Below.setCell ?_ ?_ _) | (refine Below.then ?_ (by with_reducible assumption)) | go_size)))).ext hb1)).mono ?_; rintro e w1 ⟨rfl, hb1⟩; obtain ⟨hc1, hf1, hz1, hr1⟩ := bfacts hb1; (try simp only [World.size_alloc, World.size_setCell, World.size_drew, World.size_drewN] at hz1 hr1); (try have hw0 : w.heap.size < w1.heap.size := by omega); (try have hw1 : w.heap.size + 1 < w1.heap.size := by omega); (try have hw2 : w.heap.size + 1 + 1 < w1.heap.size := by omega)))
    go_ret2
    exact ⟨rfl, by (repeat' (first | (with_reducible exact Below.refl _ _) | (with_reducible assumption) | (with_reducible refine Below.alloc ?_ ?_ _) | (with_reducible refine Below.drew ?_) | (with_reducible refine Below.draws ?_ _) | (with_reducible refine Below.setCell ?_ ?_ _) | (refine Below.then ?_ (by with_reducible assumption)) | go_size))⟩
theorem enc2_one (x : P2) : ∀ u ∈ enc2 x, u.oneCell' = true := by intro u hu; simp [enc2] at hu; rcases hu with rfl | rfl <;> rfl
theorem own_any (a : Option Addr) (n c : Nat) (w : World) (xs : List P2) (hR : Rd w a n 2 (xs.map enc2)) (hnil : n = 0 → (a = none ∧ c = 0) ∨ ∃ ad, a = some ad) (hn : n ≤ 1000) :
    Calls Try.prog 23 #[.slice a n c] w fun e w' => (∃ a' c', e = .returned (.slice a' n c') ∧ Rd w' a' n 2 (xs.map enc2)) ∧ Below w.heap.size w w' := by
  have HR := Lib.hid hR; clear hR
  have HN := Lib.hid hnil; clear hnil
  have e2 := E2
  have hcap : (n : Int) + 2 = ((n + 2 : Nat) : Int) := by omega
  have HC := Lib.hid hcap; clear hcap
  go_enter Try.func23, Try.ntmps23
  go_wp2_with (first
    | (at_make; refine wpList_mk0 rfl _ _ _ rfl e2 (n + 2) rfl rfl HC.out (by omega) (by decide) (Nat.le_refl _) ?_; intro w1 hown1 hb1; have HO1 := Lib.hid hown1; have HB1 := Lib.hid hb1; clear hown1 hb1)
    | (at_builtin; refine wpList_pushAll rfl _ _ _ rfl e2 enc2_len enc2_one rfl HO1.out rfl (HR.out.ext HB1.out) HN.out (by omega) (by decide) HB1.out.size ?_; rintro v' w2 hown2 ⟨a', c', rfl⟩ hb2; have HO2 := Lib.hid hown2; have HB2 := Lib.hid hb2; clear hown2 hb2))
  go_ret
  exact ⟨⟨a', c', rfl, Rd.of_owns enc2_len (by decide) (by simpa using HO2.out)⟩, HB1.out.trans HB2.out⟩
theorem pairs_any (a b : Option Addr) (n m cn cm : Nat) (xs ys : List P2) (w : World) (ha : Rd w a n 2 (xs.map enc2)) (hb : Rd w b m 2 (ys.map enc2)) :
   Calls Try.prog 28 #[.slice a n cn, .slice b m cm] w fun e w' => e = .returned (.bool (decide (xs = ys))) ∧ Below w.heap.size w w' := by
  have hla := ha.length; have hlb := hb.length
  have HA := Lib.hid ha
  have HB := Lib.hid hb
  have hs := ha.small
  clear ha hb
  by_cases hnm : n = m
  · subst hnm
    have HLA := Lib.hid hla; have HLB := Lib.hid hlb; clear hla hlb
    have hq : ((n : Int) != n) = false := by simp
    have hEq := eqp
    generalize hR : decide (xs = ys) = R
    have HR := Lib.hid hR; clear hR
    go_enter Try.func28, Try.ntmps28
    go_wp2
    go_loopw [5] (fun i wr => ∃ k nq : Nat, k ≤ n ∧ i = .int .i64 k ∧ wr = w.drewN nq ∧ decide (xs.drop k = ys.drop k) = R) (fun i _ => n - (intOf i).toNat)
    case atStart => exact ⟨0, 0, Nat.zero_le _, rfl, rfl, by simpa using HR.out⟩
    case round =>
      obtain ⟨k, nq, hk, rfl, rfl, he⟩ := hrel
      have HE := Lib.hid he; clear he
      by_cases hlt : k < n
      · obtain ⟨⟨x1, x2⟩, ba, oa, rfl, hba, h1, h2, HDA⟩ := HA.out.next2 k hlt
        obtain ⟨⟨y1, y2⟩, bb, ob, rfl, hbb, h3, h4, HDB⟩ := HB.out.next2 k hlt
        have H5 : Hid (decide ((x1, x2) :: xs.drop (k+1) = (y1, y2) :: ys.drop (k+1)) = R) := by rw [← HDA.out, ← HDB.out]; exact HE.out
        clear HE HDA HDB
        simp only [] at h1 h2 h3 h4
        go_wp2
        go_quiet (fail)
        go_wp2
        all_goals first
          | (have hr : R = false := by
               rw [← H5.out, decide_eq_false_iff_not]
               intro he
               simp only [List.cons.injEq, Prod.mk.injEq] at he
               simp_all
             subst hr
             go_ret
             exact ⟨rfl, by (repeat' (first | (with_reducible exact Below.refl _ _) | (with_reducible assumption) | (with_reducible refine Below.alloc ?_ ?_ _) | (with_reducible refine Below.drew ?_) | (with_reducible refine Below.draws ?_ _) | (with_reducible refine Below.setCell ?_ ?_ _) | (refine Below.then ?_ (by with_reducible assumption)) | go_size))⟩)
          | exact ⟨⟨k + 1, _, by omega, by go_num, rfl, by have := H5.out; simp only [List.cons.injEq, Prod.mk.injEq] at this; simp_all⟩, by simp [intOf]; omega⟩
      · have : R = true := by rw [← HE.out, drop_end HLA.out (by omega), drop_end HLB.out (by omega)]; simp
        subst this
        go_wp2
        go_ret
        exact ⟨rfl, by (repeat' (first | (with_reducible exact Below.refl _ _) | (with_reducible assumption) | (with_reducible refine Below.alloc ?_ ?_ _) | (with_reducible refine Below.drew ?_) | (with_reducible refine Below.draws ?_ _) | (with_reducible refine Below.setCell ?_ ?_ _) | (refine Below.then ?_ (by with_reducible assumption)) | go_size))⟩
  · have hne : xs ≠ ys := by rintro rfl; omega
    have hq : ((n : Int) != m) = true := by simp; omega
    rw [decide_eq_false hne]
    clear hla hlb hne
    go_enter Try.func28, Try.ntmps28
    go_wp2
    go_ret
    exact ⟨rfl, Below.refl _ _⟩
end Go.Proofs.Ytfiggbeaomkepaa
