/- The walk of BusTells: it returns true. The conditions: the slots read as named. -/
import Derived.Test.YtgldgomjlcojaaaBsTell
namespace Go.Proofs.Ytgldgomjlcojaaa
open Go.RowKit
set_option linter.unusedSimpArgs false
set_option linter.unusedVariables false
set_option maxRecDepth 100000 in
set_option maxHeartbeats 8000000 in
theorem busTells_walk {w : World} (a : Option Addr) (n c : Nat) (l : List P2) (hR : Rd w a n 2 (l.map enc2)) (hN : n = 0 → (a = none ∧ c = 0) ∨ ∃ ad, a = some ad) (m : Int) (bm : -9223372036854775808 ≤ m ∧ m ≤ 9223372036854775807) (t0 t1 : Int) :
    Calls Try.prog 6 #[.slice a n c, .int .i64 m, .agg #[.int .i64 t0, .int .i64 t1]] w fun e w' => e = .returned (.bool true) ∧ Below w.heap.size w w' := by
  have HR := Lib.hid hR
  have HNN := Lib.hid hN
  have hs := hR.small
  clear hR hN bm
  by_cases h60 : n ≤ 60
  · have HF : Hid (∀ w', Calls Try.prog 11 #[.slice a n c, .slice none 0 0] w' fun e w'' => e = .returned (.bool true) ∧ w' = w'') := Lib.hid (fun w' => few_yes h60 (by omega))
    obtain ⟨PR, h1⟩ : ∃ R, perR l = R := ⟨_, rfl⟩
    obtain ⟨OR, h2⟩ : ∃ R, ownR l t0 = R := ⟨_, rfl⟩
    obtain ⟨SR, h3⟩ : ∃ R, shrR l m = R := ⟨_, rfl⟩
    obtain ⟨WR, h4⟩ : ∃ R, owdR l m t0 t1 = R := ⟨_, rfl⟩
    obtain ⟨V, h5⟩ : ∃ R, validS l = R := ⟨_, rfl⟩
    have H1 := Lib.hid h1; have H2 := Lib.hid h2; have H3 := Lib.hid h3; have H4 := Lib.hid h4; have H5 := Lib.hid h5
    clear h1 h2 h3 h4 h5
    have e1 := ES
    have HOW : Hid (((w.alloc (.cells #[.int .i64 t0, .int .i64 t1] 41)).alloc (.cells #[] 27)).ownsRow (w.heap.size + 1) 27 2 (.slice (some ⟨w.heap.size + 1, 0, none⟩) 0 0) 0 []) := Lib.hid (by
      have h := World.ownsRow_lit (base := w.heap.size + 1) (e := 27) (size := 2) (w.alloc (.cells #[.int .i64 t0, .int .i64 t1] 41)) #[] 0 (by simp) (by decide) rfl
      rw [World.size_alloc] at h; exact h)
    go_enter Try.func6, Try.ntmps6
    go_upto_region 4 with (first
      | (go_at_call 11; (with_reducible refine (HF.out _).mono ?_); rintro e w2 ⟨rfl, rfl⟩)
      | (at_builtin; refine wpList_pushAll (B := w.heap.size + 1) (n := 0) (xs := []) rfl _ _ _ rfl e1 enc2_len enc2_one rfl HOW.out rfl (HR.out.ext (by (repeat' (first | (with_reducible exact Below.refl _ _) | (with_reducible assumption) | (with_reducible refine Below.alloc ?_ ?_ _) | (with_reducible refine Below.drew ?_) | (with_reducible refine Below.draws ?_ _) | (with_reducible refine Below.setCell ?_ ?_ _) | (refine Below.then ?_ (by with_reducible assumption)) | go_size)))) HNN.out (by omega) (by decide) (by simp only [World.size_alloc]; omega) ?_; intro v2 w2 hown2 hv2 hb2))
    rw [Nat.zero_add, List.nil_append] at hown2
    obtain ⟨a', c', rfl⟩ := hv2
    rw [Nat.zero_add] at hown2
    have HW0 := Rd.of_owns enc2_len (by decide) hown2
    obtain ⟨w3, rfl⟩ : ∃ w3, w3 = w2 := ⟨_, rfl⟩
    have HW := Lib.hid HW0
    have hbb : Below (w.alloc (.cells #[.int .i64 t0, .int .i64 t1] 41)).heap.size (w.alloc (.cells #[.int .i64 t0, .int .i64 t1] 41)) w3 := Below.trans (by (repeat' (first | (with_reducible exact Below.refl _ _) | (with_reducible assumption) | (with_reducible refine Below.alloc ?_ ?_ _) | (with_reducible refine Below.drew ?_) | (with_reducible refine Below.draws ?_ _) | (with_reducible refine Below.setCell ?_ ?_ _) | (refine Below.then ?_ (by with_reducible assumption)) | go_size))) (hb2.mono (by simp))
    have hx0 : w3.cell? ⟨w.heap.size, 0, none⟩ = some (.int .i64 t0) := (hbb.cell (p := ⟨w.heap.size, 0, none⟩) (by simp)).trans (by simp [go_sem])
    have hx1 : w3.cell? ⟨w.heap.size, 1, none⟩ = some (.int .i64 t1) := (hbb.cell (p := ⟨w.heap.size, 1, none⟩) (by simp)).trans (by simp [go_sem])
    have hw3 : w.heap.size < w3.heap.size := by have := hbb.size; simp at this; omega
    have W3 : Hid (Below w.heap.size w w3) := Lib.hid (Below.then (by (repeat' (first | (with_reducible exact Below.refl _ _) | (with_reducible assumption) | (with_reducible refine Below.alloc ?_ ?_ _) | (with_reducible refine Below.drew ?_) | (with_reducible refine Below.draws ?_ _) | (with_reducible refine Below.setCell ?_ ?_ _) | (refine Below.then ?_ (by with_reducible assumption)) | go_size))) hbb)
    have V3 : Hid (Below w3.heap.size w3 w3) := Lib.hid (Below.refl _ _)
    clear HW0 hown2 hb2 hbb
    rw [Nat.zero_add]
    go_wp2_with (first
      | (go_at_call 26; (with_reducible refine (Period_val (HR.out.ext (Below.then W3.out V3.out)) H1.out).mono ?_); rintro e w4 ⟨rfl, hb4⟩; obtain ⟨hc4, hf4, hz4, hr4⟩ := bfacts hb4; (try simp only [World.size_alloc, World.size_setCell, World.size_drew, World.size_drewN] at hz4 hr4); (try have hs4_w_0 : w.heap.size < w4.heap.size := by omega); (try have hs4_w3_0 : w3.heap.size < w4.heap.size := by omega); have V4 := Lib.hid (Below.then V3.out hb4))
      | (go_at_call 24; (with_reducible refine (rPeriod_val (HW.out.ext V4.out) H1.out).mono ?_); rintro e w5 ⟨rfl, hb5⟩; obtain ⟨hc5, hf5, hz5, hr5⟩ := bfacts hb5; (try simp only [World.size_alloc, World.size_setCell, World.size_drew, World.size_drewN] at hz5 hr5); (try have hs5_w_0 : w.heap.size < w5.heap.size := by omega); (try have hs5_w4_0 : w4.heap.size < w5.heap.size := by omega); have V5 := Lib.hid (Below.then V4.out hb5))
      | (go_at_call 27; (with_reducible refine (Owner_val (HR.out.ext (Below.then W3.out V5.out)) H2.out).mono ?_); rintro e w6 ⟨rfl, hb6⟩; obtain ⟨hc6, hf6, hz6, hr6⟩ := bfacts hb6; (try simp only [World.size_alloc, World.size_setCell, World.size_drew, World.size_drewN] at hz6 hr6); (try have hs6_w_0 : w.heap.size < w6.heap.size := by omega); (try have hs6_w5_0 : w5.heap.size < w6.heap.size := by omega); have V6 := Lib.hid (Below.then V5.out hb6))
      | (go_at_call 28; (with_reducible refine (rOwner_val (HW.out.ext V6.out) H2.out).mono ?_); rintro e w7 ⟨rfl, hb7⟩; obtain ⟨hc7, hf7, hz7, hr7⟩ := bfacts hb7; (try simp only [World.size_alloc, World.size_setCell, World.size_drew, World.size_drewN] at hz7 hr7); (try have hs7_w_0 : w.heap.size < w7.heap.size := by omega); (try have hs7_w6_0 : w6.heap.size < w7.heap.size := by omega); have V7 := Lib.hid (Below.then V6.out hb7))
      | (go_at_call 29; (with_reducible refine (Share_val (HR.out.ext (Below.then W3.out V7.out)) H3.out).mono ?_); rintro e w8 ⟨rfl, hb8⟩; obtain ⟨hc8, hf8, hz8, hr8⟩ := bfacts hb8; (try simp only [World.size_alloc, World.size_setCell, World.size_drew, World.size_drewN] at hz8 hr8); (try have hs8_w_0 : w.heap.size < w8.heap.size := by omega); (try have hs8_w7_0 : w7.heap.size < w8.heap.size := by omega); have V8 := Lib.hid (Below.then V7.out hb8))
      | (go_at_call 25; (with_reducible refine (rShare_val (HW.out.ext V8.out) H3.out).mono ?_); rintro e w9 ⟨rfl, hb9⟩; obtain ⟨hc9, hf9, hz9, hr9⟩ := bfacts hb9; (try simp only [World.size_alloc, World.size_setCell, World.size_drew, World.size_drewN] at hz9 hr9); (try have hs9_w_0 : w.heap.size < w9.heap.size := by omega); (try have hs9_w8_0 : w8.heap.size < w9.heap.size := by omega); have V9 := Lib.hid (Below.then V8.out hb9))
      | (go_at_call 30; (with_reducible refine (Owned_val (HR.out.ext (Below.then W3.out V9.out)) H4.out).mono ?_); rintro e w10 ⟨rfl, hb10⟩; obtain ⟨hc10, hf10, hz10, hr10⟩ := bfacts hb10; (try simp only [World.size_alloc, World.size_setCell, World.size_drew, World.size_drewN] at hz10 hr10); (try have hs10_w_0 : w.heap.size < w10.heap.size := by omega); (try have hs10_w9_0 : w9.heap.size < w10.heap.size := by omega); have V10 := Lib.hid (Below.then V9.out hb10))
      | (go_at_call 31; (with_reducible refine (rOwned_val (HW.out.ext V10.out) H4.out).mono ?_); rintro e w11 ⟨rfl, hb11⟩; obtain ⟨hc11, hf11, hz11, hr11⟩ := bfacts hb11; (try simp only [World.size_alloc, World.size_setCell, World.size_drew, World.size_drewN] at hz11 hr11); (try have hs11_w_0 : w.heap.size < w11.heap.size := by omega); (try have hs11_w10_0 : w10.heap.size < w11.heap.size := by omega); have V11 := Lib.hid (Below.then V10.out hb11))
      | (go_at_call 32; (with_reducible refine (valid_val (HR.out.ext (Below.then W3.out V11.out)) H5.out).mono ?_); rintro e w12 ⟨rfl, hb12⟩; obtain ⟨hc12, hf12, hz12, hr12⟩ := bfacts hb12; (try simp only [World.size_alloc, World.size_setCell, World.size_drew, World.size_drewN] at hz12 hr12); (try have hs12_w_0 : w.heap.size < w12.heap.size := by omega); (try have hs12_w11_0 : w11.heap.size < w12.heap.size := by omega); have V12 := Lib.hid (Below.then V11.out hb12))
      | (go_at_call 12; refine (rvalid_val (HW.out.ext V12.out) H5.out).mono ?_; rintro e w1 ⟨rfl, rfl⟩)
      | (go_at_call 33; (with_reducible refine (sameS_eq _ _ _ _ _ _ l _ (HR.out.ext (Below.then W3.out V12.out)) (HW.out.ext V12.out)).mono ?_); rintro e w20 ⟨rfl, hb20⟩; have V20 := Lib.hid (Below.then V12.out hb20))
      | (go_at_call 13; (with_reducible refine (sane_any _).mono ?_); rintro e w21 ⟨rfl, hb21⟩))
    go_ret
    exact ⟨rfl, Below.then (Below.then W3.out V20.out) hb21⟩
  · have HF : Hid (∀ w', Calls Try.prog 11 #[.slice a n c, .slice none 0 0] w' fun e w'' => e = .returned (.bool false) ∧ w' = w'') := Lib.hid (fun w' => few_no hs (by omega) (by omega))
    go_enter Try.func6, Try.ntmps6
    go_wp2_with (first
      | (go_at_call 11; (with_reducible refine (HF.out _).mono ?_); rintro e w2 ⟨rfl, rfl⟩)
      | (go_at_call 13; refine (sane_any _).mono ?_; rintro e w1 ⟨rfl, hb1⟩; obtain ⟨hc1, hf1, hz1, hr1⟩ := bfacts hb1; (try simp only [World.size_alloc, World.size_setCell, World.size_drew, World.size_drewN] at hz1 hr1); (try have hw0 : w.heap.size < w1.heap.size := by omega); (try have hw1 : w.heap.size + 1 < w1.heap.size := by omega); (try have hw2 : w.heap.size + 1 + 1 < w1.heap.size := by omega)))
    go_ret
    exact ⟨rfl, by (repeat' (first | (with_reducible exact Below.refl _ _) | (with_reducible assumption) | (with_reducible refine Below.alloc ?_ ?_ _) | (with_reducible refine Below.drew ?_) | (with_reducible refine Below.draws ?_ _) | (with_reducible refine Below.setCell ?_ ?_ _) | (refine Below.then ?_ (by with_reducible assumption)) | go_size))⟩
end Go.Proofs.Ytgldgomjlcojaaa
