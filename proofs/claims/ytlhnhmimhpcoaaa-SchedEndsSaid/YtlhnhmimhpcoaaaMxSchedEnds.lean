/- The walk of SchedEnds: it returns true. The conditions: the run reads as named. -/
import Derived.Test.YtlhnhmimhpcoaaaMg13
import Derived.Test.YtlhnhmimhpcoaaaMg12
namespace Go.Proofs.Ytlhnhmimhpcoaaa
open Go.RowKit
set_option linter.unusedSimpArgs false
set_option linter.unusedVariables false
theorem meets_late {R : Rn} {t x y z : Int} (h : lateR R t = (x, y, z)) : (meetsR R t).1 = (z == 0) ∧ (meetsR R t).2 = (if z = 1 then 1 else 0) := by
  unfold lateR at h
  unfold meetsR
  split at h
  · rename_i hc
    rw [if_pos hc]
    split at h
    · rename_i h0
      obtain rfl : 15 = z := congrArg (fun p => p.2.2) h
      refine ⟨?_, rfl⟩
      show decide ((lateF R t).2.1 < 0) = _
      rw [decide_eq_false (by omega)]; rfl
    · rename_i h0
      obtain rfl : 0 = z := congrArg (fun p => p.2.2) h
      refine ⟨?_, rfl⟩
      show decide ((lateF R t).2.1 < 0) = _
      rw [decide_eq_true (by omega)]; rfl
  · rename_i hc
    rw [if_neg hc]
    obtain rfl : 1 = z := congrArg (fun p => p.2.2) h
    exact ⟨rfl, rfl⟩
theorem Late_is {H : RunH} {R : Rn} {t x y z : Int} {w : World} (hR : ReadRun w H R) (h : lateR R t = (x, y, z)) : Calls Try.prog 28 #[runV H R.fr R.sl, .int .i64 t] w fun e w' => e = rIII x y z ∧ Below w.heap.size w w' := by
  have := Late_any H R t w hR
  rw [h] at this; exact this
theorem rLate_is {H : RunH} {R : Rn} {t x y z : Int} {w : World} (hR : ReadRun w H R) (h : lateR R t = (x, y, z)) : Calls Try.prog 29 #[runV H R.fr R.sl, .int .i64 t] w fun e w' => e = rIII x y z ∧ Below w.heap.size w w' := by
  have := rLate_any H R t w hR
  rw [h] at this; exact this
theorem Meets_any (H : RunH) (R : Rn) (t : Int) (w : World) (hR : ReadRun w H R) : Calls Try.prog 30 #[runV H R.fr R.sl, .int .i64 t] w fun e w' => e = .returned (.tuple #[.bool (meetsR R t).1, .int .i64 (meetsR R t).2]) ∧ Below w.heap.size w w' := by
  obtain ⟨x, y, z, hL⟩ : ∃ x y z, lateR R t = (x, y, z) := ⟨_, _, _, rfl⟩
  obtain ⟨m1, m2⟩ := meets_late hL
  rw [m1, m2]
  have HL := Lib.hid (fun w1 (hb : Below w.heap.size w w1) => Late_is (hR.ext hb) hL)
  obtain ⟨fr, hfr⟩ : ∃ x, R.fr = x := ⟨_, rfl⟩
  obtain ⟨sl_, hsl⟩ : ∃ x, R.sl = x := ⟨_, rfl⟩
  rw [hfr, hsl] at HL ⊢
  obtain ⟨tA, tN, tC, eA, eN, eC, bA, bN, bC, sA, sN, sC⟩ := H
  unfold runV rIII at HL
  unfold runV
  simp only [] at HL ⊢
  clear hR hfr hsl hL m1 m2
  by_cases h1 : z = 1
  · subst h1
    go_enter Try.func30, Try.ntmps30
    go_wp2_with (go_at_call 28; (with_reducible refine (HL.out _ (by (repeat' (first | (with_reducible exact Below.refl _ _) | (with_reducible assumption) | (with_reducible refine Below.alloc ?_ ?_ _) | (with_reducible refine Below.drew ?_) | (with_reducible refine Below.draws ?_ _) | (with_reducible refine Below.setCell ?_ ?_ _) | (refine Below.then ?_ (by with_reducible assumption)) | go_size)))).mono ?_); rintro e w2 ⟨rfl, hb2⟩)
    go_ret2
    exact ⟨rfl, Below.trans (by (repeat' (first | (with_reducible exact Below.refl _ _) | (with_reducible assumption) | (with_reducible refine Below.alloc ?_ ?_ _) | (with_reducible refine Below.drew ?_) | (with_reducible refine Below.draws ?_ _) | (with_reducible refine Below.setCell ?_ ?_ _) | (refine Below.then ?_ (by with_reducible assumption)) | go_size))) (hb2.mono (by simp))⟩
  · have h1' : (z == 1) = false := by simpa using h1
    have e : (if z = 1 then (1 : Int) else 0) = 0 := if_neg h1
    rw [e]
    go_enter Try.func30, Try.ntmps30
    go_wp2_with (go_at_call 28; (with_reducible refine (HL.out _ (by (repeat' (first | (with_reducible exact Below.refl _ _) | (with_reducible assumption) | (with_reducible refine Below.alloc ?_ ?_ _) | (with_reducible refine Below.drew ?_) | (with_reducible refine Below.draws ?_ _) | (with_reducible refine Below.setCell ?_ ?_ _) | (refine Below.then ?_ (by with_reducible assumption)) | go_size)))).mono ?_); rintro e w2 ⟨rfl, hb2⟩)
    go_ret2
    exact ⟨rfl, Below.trans (by (repeat' (first | (with_reducible exact Below.refl _ _) | (with_reducible assumption) | (with_reducible refine Below.alloc ?_ ?_ _) | (with_reducible refine Below.drew ?_) | (with_reducible refine Below.draws ?_ _) | (with_reducible refine Below.setCell ?_ ?_ _) | (refine Below.then ?_ (by with_reducible assumption)) | go_size))) (hb2.mono (by simp))⟩
theorem rMeets_any (H : RunH) (R : Rn) (t : Int) (w : World) (hR : ReadRun w H R) : Calls Try.prog 31 #[runV H R.fr R.sl, .int .i64 t] w fun e w' => e = .returned (.tuple #[.bool (meetsR R t).1, .int .i64 (meetsR R t).2]) ∧ Below w.heap.size w w' := by
  obtain ⟨x, y, z, hL⟩ : ∃ x y z, lateR R t = (x, y, z) := ⟨_, _, _, rfl⟩
  obtain ⟨m1, m2⟩ := meets_late hL
  rw [m1, m2]
  have HL := Lib.hid (fun w1 (hb : Below w.heap.size w w1) => rLate_is (hR.ext hb) hL)
  obtain ⟨fr, hfr⟩ : ∃ x, R.fr = x := ⟨_, rfl⟩
  obtain ⟨sl_, hsl⟩ : ∃ x, R.sl = x := ⟨_, rfl⟩
  rw [hfr, hsl] at HL ⊢
  obtain ⟨tA, tN, tC, eA, eN, eC, bA, bN, bC, sA, sN, sC⟩ := H
  unfold runV rIII at HL
  unfold runV
  simp only [] at HL ⊢
  clear hR hfr hsl hL m1 m2
  by_cases h1 : z = 1
  · subst h1
    go_enter Try.func31, Try.ntmps31
    go_wp2_with (go_at_call 29; (with_reducible refine (HL.out _ (by (repeat' (first | (with_reducible exact Below.refl _ _) | (with_reducible assumption) | (with_reducible refine Below.alloc ?_ ?_ _) | (with_reducible refine Below.drew ?_) | (with_reducible refine Below.draws ?_ _) | (with_reducible refine Below.setCell ?_ ?_ _) | (refine Below.then ?_ (by with_reducible assumption)) | go_size)))).mono ?_); rintro e w2 ⟨rfl, hb2⟩)
    go_ret2
    exact ⟨rfl, Below.trans (by (repeat' (first | (with_reducible exact Below.refl _ _) | (with_reducible assumption) | (with_reducible refine Below.alloc ?_ ?_ _) | (with_reducible refine Below.drew ?_) | (with_reducible refine Below.draws ?_ _) | (with_reducible refine Below.setCell ?_ ?_ _) | (refine Below.then ?_ (by with_reducible assumption)) | go_size))) (hb2.mono (by simp))⟩
  · have h1' : (z == 1) = false := by simpa using h1
    have e : (if z = 1 then (1 : Int) else 0) = 0 := if_neg h1
    rw [e]
    go_enter Try.func31, Try.ntmps31
    go_wp2_with (go_at_call 29; (with_reducible refine (HL.out _ (by (repeat' (first | (with_reducible exact Below.refl _ _) | (with_reducible assumption) | (with_reducible refine Below.alloc ?_ ?_ _) | (with_reducible refine Below.drew ?_) | (with_reducible refine Below.draws ?_ _) | (with_reducible refine Below.setCell ?_ ?_ _) | (refine Below.then ?_ (by with_reducible assumption)) | go_size)))).mono ?_); rintro e w2 ⟨rfl, hb2⟩)
    go_ret2
    exact ⟨rfl, Below.trans (by (repeat' (first | (with_reducible exact Below.refl _ _) | (with_reducible assumption) | (with_reducible refine Below.alloc ?_ ?_ _) | (with_reducible refine Below.drew ?_) | (with_reducible refine Below.draws ?_ _) | (with_reducible refine Below.setCell ?_ ?_ _) | (refine Below.then ?_ (by with_reducible assumption)) | go_size))) (hb2.mono (by simp))⟩
theorem lints_eq (a b : Option Addr) (n m c d : Nat) (xs : List Int) (w : World) (hA : Rd w a n 1 (xs.map enc1)) (hB : Rd w b m 1 (xs.map enc1)) :
    Calls Try.prog 27 #[.slice a n c, .slice b m d] w fun e w' => e = .returned (.bool true) ∧ Below w.heap.size w w' := by
  obtain rfl : m = n := by rw [← hA.length, ← hB.length]
  have hs := hA.small
  have HA := Lib.hid hA; have HB := Lib.hid hB
  clear hA hB
  go_enter Try.func27, Try.ntmps27
  go_wp2
  go_loopw [5] (fun i wr => ∃ k : Nat, k ≤ m ∧ i = .int .i64 k ∧ Below w.heap.size w wr) (fun i _ => m - (intOf i).toNat)
  case atStart => exact ⟨0, Nat.zero_le _, rfl, by (repeat' (first | (with_reducible exact Below.refl _ _) | (with_reducible assumption) | (with_reducible refine Below.alloc ?_ ?_ _) | (with_reducible refine Below.drew ?_) | (with_reducible refine Below.draws ?_ _) | (with_reducible refine Below.setCell ?_ ?_ _) | (refine Below.then ?_ (by with_reducible assumption)) | go_size))⟩
  case round =>
    obtain ⟨k, hk, rfl, hb⟩ := hrel
    have HW := Lib.hid hb
    clear hb
    by_cases hlt : k < m
    · obtain ⟨x, b1, o1, rfl, hb1, hc1, hx⟩ := (HA.out.ext HW.out).idx k hlt
      obtain ⟨y, b2, o2, rfl, hb2, hc2, hy⟩ := (HB.out.ext HW.out).idx k hlt
      obtain rfl : x = y := by rw [hx] at hy; simpa using hy
      clear hx hy
      go_wp2_with (refine wp_region_later_lit (by kernel_rfl) (by kernel_rfl) ?_; (repeat (go_big_quiet_step (fail))); refine wpQuiet_nil ?_; intro w1 hb1)
      exact ⟨⟨k + 1, hlt, by go_num, Below.then HW.out hb1⟩, by simp [intOf]; omega⟩
    · go_wp2
      go_ret
      exact ⟨rfl, HW.out⟩
set_option maxRecDepth 100000 in
set_option maxHeartbeats 8000000 in
theorem ends_walk {w : World} (H : RunH) (R : Rn) (hR : ReadRun w H R) (hS : RunS H R) (t : Int) (ht : -9223372036854775808 ≤ t ∧ t ≤ 9223372036854775807) :
    Calls Try.prog 9 #[runV H R.fr R.sl, .int .i64 t] w fun e w' => e = .returned (.bool true) ∧ Below w.heap.size w w' := by
  have HH := Lib.hid (fun w1 (hb : Below w.heap.size w w1) => heavy_any H R w1 (hR.ext hb) hS)
  obtain ⟨x, y, z, hL⟩ : ∃ x y z, lateR R t = (x, y, z) := ⟨_, _, _, rfl⟩
  have HE := Lib.hid (fun w1 (hb : Below w.heap.size w w1) => Ends_any H R t w1 (hR.ext hb))
  have HRE := Lib.hid (fun w1 (hb : Below w.heap.size w w1) => rEnds_any H R t w1 (hR.ext hb))
  have HL := Lib.hid (fun w1 (hb : Below w.heap.size w w1) => Late_is (hR.ext hb) hL)
  have HRL := Lib.hid (fun w1 (hb : Below w.heap.size w w1) => rLate_is (hR.ext hb) hL)
  have HM := Lib.hid (fun w1 (hb : Below w.heap.size w w1) => Meets_any H R t w1 (hR.ext hb))
  have HRM := Lib.hid (fun w1 (hb : Below w.heap.size w w1) => rMeets_any H R t w1 (hR.ext hb))
  have HAS := Lib.hid (as_any H R.fr R.sl)
  obtain ⟨B, hB⟩ : ∃ B, heavyB R = B := ⟨_, rfl⟩
  rw [hB] at HH
  obtain ⟨n, hn⟩ : ∃ n, endN R t = n := ⟨_, rfl⟩
  obtain ⟨X, hX⟩ : ∃ n, endX R t = n := ⟨_, rfl⟩
  obtain ⟨er, her⟩ : ∃ n, endE R t = n := ⟨_, rfl⟩
  obtain ⟨m1, hm1⟩ : ∃ n, (meetsR R t).1 = n := ⟨_, rfl⟩
  obtain ⟨m2, hm2⟩ : ∃ n, (meetsR R t).2 = n := ⟨_, rfl⟩
  rw [hn, hX, her] at HE HRE
  rw [hm1, hm2] at HM HRM
  obtain ⟨fr, hfr⟩ : ∃ x, R.fr = x := ⟨_, rfl⟩
  obtain ⟨sl_, hsl⟩ : ∃ x, R.sl = x := ⟨_, rfl⟩
  rw [hfr, hsl] at HH HE HRE HL HRL HM HRM HAS ⊢
  obtain ⟨tA, tN, tC, eA, eN, eC, bA, bN, bC, sA, sN, sC⟩ := H
  unfold rIII at HL HRL
  unfold runV at HH HE HRE HL HRL HM HRM HAS ⊢
  simp only [] at HH HE HRE HL HRL HM HRM HAS ⊢
  clear hR hS hL hB hfr hsl hn hX her hm1 hm2
  cases B
  · go_enter Try.func9, Try.ntmps9
    go_wp2_with (first | (go_at_call 13; (with_reducible refine (HH.out _ (by (repeat' (first | (with_reducible exact Below.refl _ _) | (with_reducible assumption) | (with_reducible refine Below.alloc ?_ ?_ _) | (with_reducible refine Below.drew ?_) | (with_reducible refine Below.draws ?_ _) | (with_reducible refine Below.setCell ?_ ?_ _) | (refine Below.then ?_ (by with_reducible assumption)) | go_size)))).mono ?_); rintro e w1 ⟨rfl, hb1⟩; have B1 : Hid (Below w.heap.size w w1) := Lib.hid (Below.trans (by (repeat' (first | (with_reducible exact Below.refl _ _) | (with_reducible assumption) | (with_reducible refine Below.alloc ?_ ?_ _) | (with_reducible refine Below.drew ?_) | (with_reducible refine Below.draws ?_ _) | (with_reducible refine Below.setCell ?_ ?_ _) | (refine Below.then ?_ (by with_reducible assumption)) | go_size))) (hb1.mono (by simp))); have z1 : w.heap.size < w1.heap.size := Nat.lt_of_lt_of_le (by simp) hb1.size; have c1_0 := (hb1.cell (p := ⟨w.heap.size, 0, none⟩) (by simp)).trans (by simp [go_sem]; rfl); have c1_1 := (hb1.cell (p := ⟨w.heap.size, 1, none⟩) (by simp)).trans (by simp [go_sem]; rfl); have c1_2 := (hb1.cell (p := ⟨w.heap.size, 2, none⟩) (by simp)).trans (by simp [go_sem]; rfl); have c1_3 := (hb1.cell (p := ⟨w.heap.size, 3, none⟩) (by simp)).trans (by simp [go_sem]; rfl); have c1_4 := (hb1.cell (p := ⟨w.heap.size, 4, none⟩) (by simp)).trans (by simp [go_sem]; rfl); have c1_5 := (hb1.cell (p := ⟨w.heap.size, 5, none⟩) (by simp)).trans (by simp [go_sem]; rfl); clear hb1) | (go_at_call 26; (with_reducible refine (HRE.out _ B3.out).mono ?_); rintro e w4 ⟨a4, x4, rfl, h4, hb4⟩; have HX4 := Lib.hid h4; have HX5 := Lib.hid (HX3.out.ext hb4); clear h4; have B4 := Lib.hid (Below.then B3.out hb4); have z4 : w.heap.size < w4.heap.size := Nat.lt_of_lt_of_le z3 hb4.size; have c4_0 := (hb4.cell (p := ⟨w.heap.size, 0, none⟩) z3).trans c3_0; have c4_1 := (hb4.cell (p := ⟨w.heap.size, 1, none⟩) z3).trans c3_1; have c4_2 := (hb4.cell (p := ⟨w.heap.size, 2, none⟩) z3).trans c3_2; have c4_3 := (hb4.cell (p := ⟨w.heap.size, 3, none⟩) z3).trans c3_3; have c4_4 := (hb4.cell (p := ⟨w.heap.size, 4, none⟩) z3).trans c3_4; have c4_5 := (hb4.cell (p := ⟨w.heap.size, 5, none⟩) z3).trans c3_5; clear hb4 c3_0 c3_1 c3_2 c3_3 c3_4 c3_5) | (go_at_call 17; (with_reducible refine (HAS.out _).mono ?_); rintro e w3 ⟨rfl, hb3⟩; have HX3 := Lib.hid (HX2.out.ext hb3); have B3 := Lib.hid (Below.then B2.out hb3); have z3 : w.heap.size < w3.heap.size := Nat.lt_of_lt_of_le z2 hb3.size; have c3_0 := (hb3.cell (p := ⟨w.heap.size, 0, none⟩) z2).trans c2_0; have c3_1 := (hb3.cell (p := ⟨w.heap.size, 1, none⟩) z2).trans c2_1; have c3_2 := (hb3.cell (p := ⟨w.heap.size, 2, none⟩) z2).trans c2_2; have c3_3 := (hb3.cell (p := ⟨w.heap.size, 3, none⟩) z2).trans c2_3; have c3_4 := (hb3.cell (p := ⟨w.heap.size, 4, none⟩) z2).trans c2_4; have c3_5 := (hb3.cell (p := ⟨w.heap.size, 5, none⟩) z2).trans c2_5; clear hb3 c2_0 c2_1 c2_2 c2_3 c2_4 c2_5) | (go_at_call 23; (with_reducible refine (HE.out _ B1.out).mono ?_); rintro e w2 ⟨a2, x2, rfl, h2, hb2⟩; have HX2 := Lib.hid h2; clear h2; have B2 := Lib.hid (Below.then B1.out hb2); have z2 : w.heap.size < w2.heap.size := Nat.lt_of_lt_of_le z1 hb2.size; have c2_0 := (hb2.cell (p := ⟨w.heap.size, 0, none⟩) z1).trans c1_0; have c2_1 := (hb2.cell (p := ⟨w.heap.size, 1, none⟩) z1).trans c1_1; have c2_2 := (hb2.cell (p := ⟨w.heap.size, 2, none⟩) z1).trans c1_2; have c2_3 := (hb2.cell (p := ⟨w.heap.size, 3, none⟩) z1).trans c1_3; have c2_4 := (hb2.cell (p := ⟨w.heap.size, 4, none⟩) z1).trans c1_4; have c2_5 := (hb2.cell (p := ⟨w.heap.size, 5, none⟩) z1).trans c1_5; clear hb2 c1_0 c1_1 c1_2 c1_3 c1_4 c1_5))
    have hns := HX4.out.sm
    have HB4 : Hid (Below w4.heap.size w4 w4) := Lib.hid (Below.refl _ _)
    go_loopw [9] (fun i wr => ∃ k : Nat, k ≤ n ∧ i = .int .i64 k ∧ Below w4.heap.size w4 wr) (fun i _ => n - (intOf i).toNat)
    case atStart => exact ⟨0, Nat.zero_le _, rfl, Below.refl _ _⟩
    case round =>
      obtain ⟨k, hk, rfl, hb⟩ := hrel
      have HW := Lib.hid hb
      by_cases hlt : k < n
      · obtain ⟨b1, o1, a1', n1, c1', rfl, hb1, hc1, hr1⟩ := (HX5.out.ext hb).at_ k hlt
        obtain ⟨b2, o2, a2', n2, c2', rfl, hb2, hc2, hr2⟩ := (HX4.out.ext hb).at_ k hlt
        have HI := Lib.hid (fun (w5 : World) (hb5 : Below wr.heap.size wr w5) => lints_eq a1' a2' n1 n2 c1' c2' (X k) w5 (hr1.ext hb5) (hr2.ext hb5))
        clear hb hr1 hr2
        go_wp2_with (refine wp_region_later_lit (by kernel_rfl) (by kernel_rfl) ?_; (repeat (go_big_quiet_step (((go_at_call 27; exact later_of (HI.out _ (After.below _))))))); refine wpQuiet_nil ?_; intro w5 hb5)
        exact ⟨⟨k + 1, hlt, by go_num, Below.then HW.out (Below.then (by (repeat' (first | (with_reducible exact Below.refl _ _) | (with_reducible assumption) | (with_reducible refine Below.alloc ?_ ?_ _) | (with_reducible refine Below.drew ?_) | (with_reducible refine Below.draws ?_ _) | (with_reducible refine Below.setCell ?_ ?_ _) | (refine Below.then ?_ (by with_reducible assumption)) | go_size))) hb5)⟩, by simp [intOf]; omega⟩
      · have B5 := Lib.hid (Below.then B4.out HW.out)
        have z5 := Nat.lt_of_lt_of_le z4 HW.out.size
        have c5_0 := (HW.out.cell (p := ⟨w.heap.size, 0, none⟩) z4).trans c4_0
        have c5_1 := (HW.out.cell (p := ⟨w.heap.size, 1, none⟩) z4).trans c4_1
        have c5_2 := (HW.out.cell (p := ⟨w.heap.size, 2, none⟩) z4).trans c4_2
        have c5_3 := (HW.out.cell (p := ⟨w.heap.size, 3, none⟩) z4).trans c4_3
        have c5_4 := (HW.out.cell (p := ⟨w.heap.size, 4, none⟩) z4).trans c4_4
        have c5_5 := (HW.out.cell (p := ⟨w.heap.size, 5, none⟩) z4).trans c4_5
        clear hb c4_0 c4_1 c4_2 c4_3 c4_4 c4_5
        go_wp2_with (first | (go_at_call 31; (with_reducible refine (HRM.out _ B10.out).mono ?_); rintro e w11 ⟨rfl, hb11⟩; have B11 := Lib.hid (Below.then B10.out hb11); clear hb11) | (go_at_call 17; (with_reducible refine (HAS.out _).mono ?_); rintro e w10 ⟨rfl, hb10⟩; have B10 := Lib.hid (Below.then B9.out hb10); clear hb10) | (go_at_call 30; (with_reducible refine (HM.out _ B8.out).mono ?_); rintro e w9 ⟨rfl, hb9⟩; have B9 := Lib.hid (Below.then B8.out hb9); have z9 : w.heap.size < w9.heap.size := Nat.lt_of_lt_of_le z8 hb9.size; have c9_0 := (hb9.cell (p := ⟨w.heap.size, 0, none⟩) z8).trans c8_0; have c9_1 := (hb9.cell (p := ⟨w.heap.size, 1, none⟩) z8).trans c8_1; have c9_2 := (hb9.cell (p := ⟨w.heap.size, 2, none⟩) z8).trans c8_2; have c9_3 := (hb9.cell (p := ⟨w.heap.size, 3, none⟩) z8).trans c8_3; have c9_4 := (hb9.cell (p := ⟨w.heap.size, 4, none⟩) z8).trans c8_4; have c9_5 := (hb9.cell (p := ⟨w.heap.size, 5, none⟩) z8).trans c8_5; clear hb9 c8_0 c8_1 c8_2 c8_3 c8_4 c8_5) | (go_at_call 29; (with_reducible refine (HRL.out _ B7.out).mono ?_); rintro e w8 ⟨rfl, hb8⟩; have B8 := Lib.hid (Below.then B7.out hb8); have z8 : w.heap.size < w8.heap.size := Nat.lt_of_lt_of_le z7 hb8.size; have c8_0 := (hb8.cell (p := ⟨w.heap.size, 0, none⟩) z7).trans c7_0; have c8_1 := (hb8.cell (p := ⟨w.heap.size, 1, none⟩) z7).trans c7_1; have c8_2 := (hb8.cell (p := ⟨w.heap.size, 2, none⟩) z7).trans c7_2; have c8_3 := (hb8.cell (p := ⟨w.heap.size, 3, none⟩) z7).trans c7_3; have c8_4 := (hb8.cell (p := ⟨w.heap.size, 4, none⟩) z7).trans c7_4; have c8_5 := (hb8.cell (p := ⟨w.heap.size, 5, none⟩) z7).trans c7_5; clear hb8 c7_0 c7_1 c7_2 c7_3 c7_4 c7_5) | (go_at_call 17; (with_reducible refine (HAS.out _).mono ?_); rintro e w7 ⟨rfl, hb7⟩; have B7 := Lib.hid (Below.then B6.out hb7); have z7 : w.heap.size < w7.heap.size := Nat.lt_of_lt_of_le z6 hb7.size; have c7_0 := (hb7.cell (p := ⟨w.heap.size, 0, none⟩) z6).trans c6_0; have c7_1 := (hb7.cell (p := ⟨w.heap.size, 1, none⟩) z6).trans c6_1; have c7_2 := (hb7.cell (p := ⟨w.heap.size, 2, none⟩) z6).trans c6_2; have c7_3 := (hb7.cell (p := ⟨w.heap.size, 3, none⟩) z6).trans c6_3; have c7_4 := (hb7.cell (p := ⟨w.heap.size, 4, none⟩) z6).trans c6_4; have c7_5 := (hb7.cell (p := ⟨w.heap.size, 5, none⟩) z6).trans c6_5; clear hb7 c6_0 c6_1 c6_2 c6_3 c6_4 c6_5) | (go_at_call 28; (with_reducible refine (HL.out _ B5.out).mono ?_); rintro e w6 ⟨rfl, hb6⟩; have B6 := Lib.hid (Below.then B5.out hb6); have z6 : w.heap.size < w6.heap.size := Nat.lt_of_lt_of_le z5 hb6.size; have c6_0 := (hb6.cell (p := ⟨w.heap.size, 0, none⟩) z5).trans c5_0; have c6_1 := (hb6.cell (p := ⟨w.heap.size, 1, none⟩) z5).trans c5_1; have c6_2 := (hb6.cell (p := ⟨w.heap.size, 2, none⟩) z5).trans c5_2; have c6_3 := (hb6.cell (p := ⟨w.heap.size, 3, none⟩) z5).trans c5_3; have c6_4 := (hb6.cell (p := ⟨w.heap.size, 4, none⟩) z5).trans c5_4; have c6_5 := (hb6.cell (p := ⟨w.heap.size, 5, none⟩) z5).trans c5_5; clear hb6 c5_0 c5_1 c5_2 c5_3 c5_4 c5_5) | (go_at_call 14; (with_reducible refine (sane_any _).mono ?_); rintro e w12 ⟨rfl, hb12⟩))
        go_ret
        exact ⟨rfl, Below.then B11.out hb12⟩
  · go_enter Try.func9, Try.ntmps9
    go_wp2_with (first | (go_at_call 13; (with_reducible refine (HH.out _ (by (repeat' (first | (with_reducible exact Below.refl _ _) | (with_reducible assumption) | (with_reducible refine Below.alloc ?_ ?_ _) | (with_reducible refine Below.drew ?_) | (with_reducible refine Below.draws ?_ _) | (with_reducible refine Below.setCell ?_ ?_ _) | (refine Below.then ?_ (by with_reducible assumption)) | go_size)))).mono ?_); rintro e w1 ⟨rfl, hb1⟩; have B1 : Hid (Below w.heap.size w w1) := Lib.hid (Below.trans (by (repeat' (first | (with_reducible exact Below.refl _ _) | (with_reducible assumption) | (with_reducible refine Below.alloc ?_ ?_ _) | (with_reducible refine Below.drew ?_) | (with_reducible refine Below.draws ?_ _) | (with_reducible refine Below.setCell ?_ ?_ _) | (refine Below.then ?_ (by with_reducible assumption)) | go_size))) (hb1.mono (by simp))); have z1 : w.heap.size < w1.heap.size := Nat.lt_of_lt_of_le (by simp) hb1.size; have c1_0 := (hb1.cell (p := ⟨w.heap.size, 0, none⟩) (by simp)).trans (by simp [go_sem]; rfl); have c1_1 := (hb1.cell (p := ⟨w.heap.size, 1, none⟩) (by simp)).trans (by simp [go_sem]; rfl); have c1_2 := (hb1.cell (p := ⟨w.heap.size, 2, none⟩) (by simp)).trans (by simp [go_sem]; rfl); have c1_3 := (hb1.cell (p := ⟨w.heap.size, 3, none⟩) (by simp)).trans (by simp [go_sem]; rfl); have c1_4 := (hb1.cell (p := ⟨w.heap.size, 4, none⟩) (by simp)).trans (by simp [go_sem]; rfl); have c1_5 := (hb1.cell (p := ⟨w.heap.size, 5, none⟩) (by simp)).trans (by simp [go_sem]; rfl); clear hb1) | (go_at_call 14; (with_reducible refine (sane_any _).mono ?_); rintro e w12 ⟨rfl, hb12⟩))
    go_ret
    exact ⟨rfl, Below.then B1.out hb12⟩
end Go.Proofs.Ytlhnhmimhpcoaaa
