/- The walk of BusDelays: it returns true. The conditions: the slots read as named. -/
import Derived.Test.YtgldgomjlcojaaaBsRef
import Derived.Test.YtgldgomjlcojaaaBsDel
namespace Go.Proofs.Ytgldgomjlcojaaa
open Go.RowKit
set_option linter.unusedSimpArgs false
set_option linter.unusedVariables false
set_option maxRecDepth 10000 in
set_option maxHeartbeats 8000000 in
theorem busDelays_walk {w : World} (a : Option Addr) (n c : Nat) (l : List P2) (hR : Rd w a n 2 (l.map enc2)) (hN : n = 0 → (a = none ∧ c = 0) ∨ ∃ ad, a = some ad) (m o k : Int) :
    Calls Try.prog 4 #[.slice a n c, .agg #[.int .i64 m, .int .i64 o, .int .i64 k]] w fun e w' => e = .returned (.bool true) ∧ Below w.heap.size w w' := by
  have HR := Lib.hid hR
  have hs := hR.small
  clear hR hN
  by_cases h60 : n ≤ 60
  · have HF : Hid (∀ w', Calls Try.prog 11 #[.slice a n c, .slice none 0 0] w' fun e w'' => e = .returned (.bool true) ∧ w' = w'') := Lib.hid (fun w' => few_yes h60 (by omega))
    obtain ⟨ER, hE⟩ : ∃ R, endR l m o k = R := ⟨_, rfl⟩
    obtain ⟨WR, hW⟩ : ∃ R, farR true l m k = R := ⟨_, rfl⟩
    obtain ⟨BR, hB⟩ : ∃ R, farR false l m k = R := ⟨_, rfl⟩
    obtain ⟨n1, e1⟩ := ER
    obtain ⟨w1, a1, g1⟩ := WR
    obtain ⟨b1, c1, i1⟩ := BR
    have HE := Lib.hid hE; have HW := Lib.hid hW; have HB := Lib.hid hB
    clear hE hW hB
    have HX := Lib.hid (World.cell?_alloc_new w #[.int .i64 m, .int .i64 o, .int .i64 k] 35)
    go_enter Try.func4, Try.ntmps4
    go_upto_region 9 with (first
      | (go_at_call 11; (with_reducible refine (HF.out _).mono ?_); rintro e w2 ⟨rfl, rfl⟩)
      | (go_at_call 16; (with_reducible refine (End_val (HR.out.ext (by (repeat' (first | (with_reducible exact Below.refl _ _) | (with_reducible assumption) | (with_reducible refine Below.alloc ?_ ?_ _) | (with_reducible refine Below.drew ?_) | (with_reducible refine Below.draws ?_ _) | (with_reducible refine Below.setCell ?_ ?_ _) | (refine Below.then ?_ (by with_reducible assumption)) | go_size)))) HE.out).mono ?_); rintro e w3 ⟨rfl, hb3⟩; obtain ⟨hc3, hf3, hz3, hr3⟩ := bfacts hb3; (try simp only [World.size_alloc, World.size_setCell, World.size_drew, World.size_drewN] at hz3 hr3); (try have hs3_w_0 : w.heap.size < w3.heap.size := by omega); (try have hs3_w_1 : w.heap.size + 1 < w3.heap.size := by omega); have V3 := Lib.hid hb3; have W3 : Hid (Below w.heap.size w w3) := Lib.hid (Below.trans (by (repeat' (first | (with_reducible exact Below.refl _ _) | (with_reducible assumption) | (with_reducible refine Below.alloc ?_ ?_ _) | (with_reducible refine Below.drew ?_) | (with_reducible refine Below.draws ?_ _) | (with_reducible refine Below.setCell ?_ ?_ _) | (refine Below.then ?_ (by with_reducible assumption)) | go_size))) (hb3.mono (by simp))))
      | (go_at_call 17; (with_reducible refine (rEnd_val (HR.out.ext W3.out) HE.out).mono ?_); rintro e w4 ⟨rfl, hb4⟩; obtain ⟨hc4, hf4, hz4, hr4⟩ := bfacts hb4; (try simp only [World.size_alloc, World.size_setCell, World.size_drew, World.size_drewN] at hz4 hr4); (try have hs4_w_0 : w.heap.size < w4.heap.size := by omega); (try have hs4_w3_0 : w3.heap.size < w4.heap.size := by omega); have W4 := Lib.hid (Below.then W3.out hb4))
      | (go_at_call 15; (with_reducible refine (Worst_val (HR.out.ext W4.out) HW.out).mono ?_); rintro e w5 ⟨rfl, hb5⟩; obtain ⟨hc5, hf5, hz5, hr5⟩ := bfacts hb5; (try simp only [World.size_alloc, World.size_setCell, World.size_drew, World.size_drewN] at hz5 hr5); (try have hs5_w_0 : w.heap.size < w5.heap.size := by omega); (try have hs5_w3_0 : w3.heap.size < w5.heap.size := by omega); (try have hs5_w4_0 : w4.heap.size < w5.heap.size := by omega); have W5 := Lib.hid (Below.then W4.out hb5))
      | (go_at_call 18; (with_reducible refine (rWorst_val (HR.out.ext W5.out) HW.out).mono ?_); rintro e w6 ⟨rfl, hb6⟩; obtain ⟨hc6, hf6, hz6, hr6⟩ := bfacts hb6; (try simp only [World.size_alloc, World.size_setCell, World.size_drew, World.size_drewN] at hz6 hr6); (try have hs6_w_0 : w.heap.size < w6.heap.size := by omega); (try have hs6_w3_0 : w3.heap.size < w6.heap.size := by omega); (try have hs6_w4_0 : w4.heap.size < w6.heap.size := by omega); (try have hs6_w5_0 : w5.heap.size < w6.heap.size := by omega); have W6 := Lib.hid (Below.then W5.out hb6))
      | (go_at_call 19; (with_reducible refine (Best_val (HR.out.ext W6.out) HB.out).mono ?_); rintro e w7 ⟨rfl, hb7⟩; obtain ⟨hc7, hf7, hz7, hr7⟩ := bfacts hb7; (try simp only [World.size_alloc, World.size_setCell, World.size_drew, World.size_drewN] at hz7 hr7); (try have hs7_w_0 : w.heap.size < w7.heap.size := by omega); (try have hs7_w3_0 : w3.heap.size < w7.heap.size := by omega); (try have hs7_w4_0 : w4.heap.size < w7.heap.size := by omega); (try have hs7_w5_0 : w5.heap.size < w7.heap.size := by omega); (try have hs7_w6_0 : w6.heap.size < w7.heap.size := by omega); have W7 := Lib.hid (Below.then W6.out hb7))
      | (go_at_call 20; (with_reducible refine (rBest_val (HR.out.ext W7.out) HB.out).mono ?_); rintro e w8 ⟨rfl, hb8⟩; obtain ⟨hc8, hf8, hz8, hr8⟩ := bfacts hb8; (try simp only [World.size_alloc, World.size_setCell, World.size_drew, World.size_drewN] at hz8 hr8); (try have hs8_w_0 : w.heap.size < w8.heap.size := by omega); (try have hs8_w3_0 : w3.heap.size < w8.heap.size := by omega); (try have hs8_w4_0 : w4.heap.size < w8.heap.size := by omega); (try have hs8_w5_0 : w5.heap.size < w8.heap.size := by omega); (try have hs8_w6_0 : w6.heap.size < w8.heap.size := by omega); (try have hs8_w7_0 : w7.heap.size < w8.heap.size := by omega); have W8 := Lib.hid (Below.then W7.out hb8)))
    have hx : ∀ j u, (w.alloc (.cells #[.int .i64 m, .int .i64 o, .int .i64 k] 35)).cell? ⟨w.heap.size, j, none⟩ = some u → w8.cell? ⟨w.heap.size, j, none⟩ = some u := fun j u hu =>
      (hb8.cell (p := ⟨w.heap.size, j, none⟩) hs7_w_0).trans ((hb7.cell (p := ⟨w.heap.size, j, none⟩) hs6_w_0).trans ((hb6.cell (p := ⟨w.heap.size, j, none⟩) hs5_w_0).trans ((hb5.cell (p := ⟨w.heap.size, j, none⟩) hs4_w_0).trans ((hb4.cell (p := ⟨w.heap.size, j, none⟩) hs3_w_0).trans ((V3.out.cell (p := ⟨w.heap.size, j, none⟩) (by simp)).trans hu)))))
    have x0 := hx 0 (.int .i64 m) (HX.out 0)
    have x1 := hx 1 (.int .i64 o) (HX.out 1)
    have x2 := hx 2 (.int .i64 k) (HX.out 2)
    clear hx hc3 hf3 hz3 hr3 hc4 hf4 hz4 hr4 hc5 hf5 hz5 hr5 hc6 hf6 hz6 hr6 hc7 hf7 hz7 hr7 hc8 hf8 hz8 hr8 hb3 hb4 hb5 hb6 hb7 hb8 V3 W3 W4 W5 W6 W7 HX HF hs3_w_0 hs4_w_0 hs5_w_0 hs6_w_0 hs7_w_0
    by_cases he : e1 = 0
    · obtain ⟨ho, hn1, h1, h2⟩ := delays_end HE.out he HW.out HB.out
      subst he
      have q1 : decide (w1 < n1 - o) = false := decide_eq_false (by omega)
      have q2 : decide (n1 - o < b1) = false := decide_eq_false (by omega)
      by_cases hg : g1 = 0
      · subst hg
        by_cases hw : w1 ≤ 10000
        · obtain ⟨hw0, hkk, ⟨d1, hL1⟩, ⟨d2, hL2⟩⟩ := delays_worst HW.out hw
          have HL1 := Lib.hid hL1; have HL2 := Lib.hid hL2
          clear hL1 hL2
          go_wp2_with (first
            | (go_at_call 14; (with_reducible refine (Least_val (HR.out.ext W8.out) HL1.out).mono ?_); rintro e w9 ⟨rfl, hb9⟩; obtain ⟨hc9, hf9, hz9, hr9⟩ := bfacts hb9; (try simp only [World.size_alloc, World.size_setCell, World.size_drew, World.size_drewN] at hz9 hr9); (try have hs9_w_0 : w.heap.size < w9.heap.size := by omega); (try have hs9_w8_0 : w8.heap.size < w9.heap.size := by omega); have V9 := Lib.hid hb9)
            | (go_at_call 14; (with_reducible refine (Least_val (HR.out.ext (Below.then W8.out V9.out)) HL2.out).mono ?_); rintro e w10 ⟨rfl, hb10⟩; obtain ⟨hc10, hf10, hz10, hr10⟩ := bfacts hb10; (try simp only [World.size_alloc, World.size_setCell, World.size_drew, World.size_drewN] at hz10 hr10); (try have hs10_w_0 : w.heap.size < w10.heap.size := by omega); (try have hs10_w8_0 : w8.heap.size < w10.heap.size := by omega); (try have hs10_w9_0 : w9.heap.size < w10.heap.size := by omega); have V10 := Lib.hid (Below.then V9.out hb10))
            | (go_at_call 13; (with_reducible refine (sane_any _).mono ?_); rintro e w11 ⟨rfl, hb11⟩))
          go_ret
          exact ⟨rfl, Below.then (Below.then W8.out V10.out) hb11⟩
        · go_wp2_with (go_at_call 13; (with_reducible refine (sane_any _).mono ?_); rintro e w11 ⟨rfl, hb11⟩)
          go_ret
          exact ⟨rfl, Below.then W8.out hb11⟩
      · have qg : (g1 != 0) = true := by simpa using hg
        clear hg
        go_wp2_with (go_at_call 13; (with_reducible refine (sane_any _).mono ?_); rintro e w11 ⟨rfl, hb11⟩)
        go_ret
        exact ⟨rfl, Below.then W8.out hb11⟩
    · have qe : (e1 == 0) = false := by simpa using he
      clear he
      by_cases hg : g1 = 0
      · subst hg
        by_cases hw : w1 ≤ 10000
        · obtain ⟨hw0, hkk, ⟨d1, hL1⟩, ⟨d2, hL2⟩⟩ := delays_worst HW.out hw
          have HL1 := Lib.hid hL1; have HL2 := Lib.hid hL2
          clear hL1 hL2
          go_wp2_with (first
            | (go_at_call 14; (with_reducible refine (Least_val (HR.out.ext W8.out) HL1.out).mono ?_); rintro e w9 ⟨rfl, hb9⟩; obtain ⟨hc9, hf9, hz9, hr9⟩ := bfacts hb9; (try simp only [World.size_alloc, World.size_setCell, World.size_drew, World.size_drewN] at hz9 hr9); (try have hs9_w_0 : w.heap.size < w9.heap.size := by omega); (try have hs9_w8_0 : w8.heap.size < w9.heap.size := by omega); have V9 := Lib.hid hb9)
            | (go_at_call 14; (with_reducible refine (Least_val (HR.out.ext (Below.then W8.out V9.out)) HL2.out).mono ?_); rintro e w10 ⟨rfl, hb10⟩; obtain ⟨hc10, hf10, hz10, hr10⟩ := bfacts hb10; (try simp only [World.size_alloc, World.size_setCell, World.size_drew, World.size_drewN] at hz10 hr10); (try have hs10_w_0 : w.heap.size < w10.heap.size := by omega); (try have hs10_w8_0 : w8.heap.size < w10.heap.size := by omega); (try have hs10_w9_0 : w9.heap.size < w10.heap.size := by omega); have V10 := Lib.hid (Below.then V9.out hb10))
            | (go_at_call 13; (with_reducible refine (sane_any _).mono ?_); rintro e w11 ⟨rfl, hb11⟩))
          go_ret
          exact ⟨rfl, Below.then (Below.then W8.out V10.out) hb11⟩
        · go_wp2_with (go_at_call 13; (with_reducible refine (sane_any _).mono ?_); rintro e w11 ⟨rfl, hb11⟩)
          go_ret
          exact ⟨rfl, Below.then W8.out hb11⟩
      · have qg : (g1 != 0) = true := by simpa using hg
        clear hg
        go_wp2_with (go_at_call 13; (with_reducible refine (sane_any _).mono ?_); rintro e w11 ⟨rfl, hb11⟩)
        go_ret
        exact ⟨rfl, Below.then W8.out hb11⟩
  · have HF : Hid (∀ w', Calls Try.prog 11 #[.slice a n c, .slice none 0 0] w' fun e w'' => e = .returned (.bool false) ∧ w' = w'') := Lib.hid (fun w' => few_no hs (by omega) (by omega))
    go_enter Try.func4, Try.ntmps4
    go_wp2_with (first
      | (go_at_call 11; (with_reducible refine (HF.out _).mono ?_); rintro e w2 ⟨rfl, rfl⟩)
      | (go_at_call 13; refine (sane_any _).mono ?_; rintro e w1 ⟨rfl, hb1⟩; obtain ⟨hc1, hf1, hz1, hr1⟩ := bfacts hb1; (try simp only [World.size_alloc, World.size_setCell, World.size_drew, World.size_drewN] at hz1 hr1); (try have hw0 : w.heap.size < w1.heap.size := by omega); (try have hw1 : w.heap.size + 1 < w1.heap.size := by omega); (try have hw2 : w.heap.size + 1 + 1 < w1.heap.size := by omega)))
    go_ret
    exact ⟨rfl, by (repeat' (first | (with_reducible exact Below.refl _ _) | (with_reducible assumption) | (with_reducible refine Below.alloc ?_ ?_ _) | (with_reducible refine Below.drew ?_) | (with_reducible refine Below.draws ?_ _) | (with_reducible refine Below.setCell ?_ ?_ _) | (refine Below.then ?_ (by with_reducible assumption)) | go_size))⟩
end Go.Proofs.Ytgldgomjlcojaaa
