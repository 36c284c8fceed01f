/- The walk of BusJoins: it returns true. The conditions: the slots read as named. -/
import Derived.Test.YtgldgomjlcojaaaBsSane
import Derived.Test.YtgldgomjlcojaaaBsJoin
namespace Go.Proofs.Ytgldgomjlcojaaa
open Go.RowKit
set_option linter.unusedSimpArgs false
set_option linter.unusedVariables false
theorem flat2_set (m : Int) : ∀ (xs : List P2) (i : Nat), i < xs.length → (xs.flatMap enc2).set (i * 2) (.int .i64 m) = (joinS xs i m).flatMap enc2
  | x :: xs, 0, _ => by rw [joinS_zero]; simp [enc2]
  | x :: xs, i + 1, h => by
    have := flat2_set m xs i (by simpa using h)
    rw [joinS_succ, List.flatMap_cons, List.flatMap_cons, ← this, show (i + 1) * 2 = i * 2 + 1 + 1 by omega]
    simp [enc2]
theorem owns2_join {w : World} {B q n c : Nat} {xs : List P2} (h : w.ownsRow B 27 2 (.slice (some ⟨q, 0, none⟩) n c) n (xs.flatMap enc2)) (i : Nat) (hi : i < xs.length) (m : Int) :
    (w.setCell ⟨q, i * 2, none⟩ (.int .i64 m)).ownsRow B 27 2 (.slice (some ⟨q, 0, none⟩) n c) n ((joinS xs i m).flatMap enc2) := by
  have := (h.stored (i * 2) (.int .i64 m)).1
  rw [flat2_set m xs i hi] at this
  exact this
set_option maxRecDepth 10000 in
set_option maxHeartbeats 4000000 in
theorem busJoins_walk {w : World} (a : Option Addr) (n c : Nat) (l : List P2) (hR : Rd w a n 2 (l.map enc2)) (hN : n = 0 → (a = none ∧ c = 0) ∨ ∃ ad, a = some ad) (m : Int) (bm : -9223372036854775808 ≤ m ∧ m ≤ 9223372036854775807) (at_ : Int) (ba : -9223372036854775808 ≤ at_ ∧ at_ ≤ 9223372036854775807) (wd : Int) (bw : -9223372036854775808 ≤ wd ∧ wd ≤ 9223372036854775807) (k : Int) (bk : -9223372036854775808 ≤ k ∧ k ≤ 9223372036854775807) :
    Calls Try.prog 3 #[.slice a n c, .int .i64 m, .int .i64 at_, .int .i64 wd, .int .i64 k] w fun e w' => e = .returned (.bool true) ∧ Below w.heap.size w w' := by
  have HR := Lib.hid hR
  have HNN := Lib.hid hN
  have hs := hR.small
  have hl := hR.length
  clear hR hN
  by_cases h60 : n ≤ 60
  · have HF := Lib.hid (few_yes (a := a) (b := none) (n := n) (c := c) (k := 0) (d := 0) (w := w) h60 (by omega))
    cases hv : validS l
    · go_enter Try.func3, Try.ntmps3
      go_wp2_with (first | (go_at_call 11; refine (HF.out).mono ?_; rintro e w1 ⟨rfl, rfl⟩) | (go_at_call 12; refine (rvalid_val HR.out hv).mono ?_; rintro e w1 ⟨rfl, rfl⟩) | (go_at_call 13; refine (sane_any _).mono ?_; rintro e w1 ⟨rfl, hb1⟩; obtain ⟨hc1, hf1, hz1, hr1⟩ := bfacts hb1; (try simp only [World.size_alloc, World.size_setCell, World.size_drew, World.size_drewN] at hz1 hr1); (try have hw0 : w.heap.size < w1.heap.size := by omega); (try have hw1 : w.heap.size + 1 < w1.heap.size := by omega); (try have hw2 : w.heap.size + 1 + 1 < w1.heap.size := by omega)))
      go_ret
      exact ⟨rfl, by (repeat' (first | (with_reducible exact Below.refl _ _) | (with_reducible assumption) | (with_reducible refine Below.alloc ?_ ?_ _) | (with_reducible refine Below.drew ?_) | (with_reducible refine Below.draws ?_ _) | (with_reducible refine Below.setCell ?_ ?_ _) | (refine Below.then ?_ (by with_reducible assumption)) | go_size))⟩
    · have HV := Lib.hid hv
      by_cases hok : (0 ≤ at_ ∧ at_ < n) ∧ (0 ≤ m ∧ m ≤ 3) ∧ (0 ≤ wd ∧ wd ≤ 10000)
      · obtain ⟨⟨h1, h2⟩, ⟨h3, h4⟩, h5, h6⟩ := hok
        obtain ⟨i, rfl⟩ := Int.eq_ofNat_of_zero_le h1
        have hil : i < l.length := by omega
        obtain ⟨A, B, C, D, hA, hB, hle⟩ := joins_least hv hil (m := m) (wd := wd) ⟨h3, h4⟩ ⟨h5, h6⟩
        have HA := Lib.hid hA; have HB := Lib.hid hB
        have HL := Lib.hid hl
        have hil2 : i < n := by omega
        have hn8 : n ≤ 8 := by have := (validS_iff.1 hv).2.1; omega
        have hq : decide (B < A) = false := decide_eq_false (by omega)
        have HIL := Lib.hid hil
        have i0 : (0 : Int) ≤ (i : Int) := by omega
        clear hA hB hl hv
        have e1 := ES
        go_enter Try.func3, Try.ntmps3
        go_upto_region 4 with (first
          | (go_at_call 11; refine (HF.out).mono ?_; rintro e w1 ⟨rfl, rfl⟩)
          | (go_at_call 12; refine (rvalid_val HR.out HV.out).mono ?_; rintro e w1 ⟨rfl, rfl⟩)
          | (at_builtin; refine wpList_pushAll (B := w.heap.size) (n := 0) (xs := []) rfl _ _ _ rfl e1 enc2_len enc2_one rfl (World.ownsRow_lit w #[] 0 (Nat.le_refl _) (by decide) rfl) rfl (HR.out.ext (by (repeat' (first | (with_reducible exact Below.refl _ _) | (with_reducible assumption) | (with_reducible refine Below.alloc ?_ ?_ _) | (with_reducible refine Below.drew ?_) | (with_reducible refine Below.draws ?_ _) | (with_reducible refine Below.setCell ?_ ?_ _) | (refine Below.then ?_ (by with_reducible assumption)) | go_size)))) HNN.out (by omega) (by decide) (by simp) ?_; intro v2 w2 hown2 hv2 hb2))
        rw [Nat.zero_add, List.nil_append] at hown2
        obtain ⟨g, c', rfl⟩ : ∃ g c', v2 = .slice (some ⟨g, 0, none⟩) n c' := by
          rcases hown2.2 with ⟨_, h8⟩ | ⟨g, cap, cur, rfl, h9⟩
          · omega
          · exact ⟨_, _, rfl⟩
        have hl2 : i * 2 < (l.flatMap enc2).length := by rw [flat_len enc2_len]; omega
        have hcell : w2.cell? ⟨g, i * 2, none⟩ = some (.int .i64 (l[i]'hil).1) := by
          rw [hown2.cellAt (i * 2) (by omega)]
          have := flat_get enc2_len l i 0 hil (by omega)
          rw [Nat.add_zero] at this
          simpa [enc2] using this
        have hfz := hown2.frozenAt (i * 2)
        have hgl : g < w2.heap.size := by
          rcases hown2.2 with ⟨h', _⟩ | ⟨g', cap', cur, h', _, hg, _⟩
          · simp at h'
          · simp at h'; rw [h'.1]; exact (Array.getElem?_eq_some_iff.1 hg).1
        have hgB : w.heap.size ≤ g := (hown2.lt g rfl).1
        have hj := owns2_join hown2 i hil m
        obtain ⟨w3, hw3⟩ : ∃ w3, w3 = w2.setCell ⟨g, i * 2, none⟩ (.int .i64 m) := ⟨_, rfl⟩
        have HJ := Lib.hid (Rd.of_owns enc2_len (by decide) (hw3 ▸ hj))
        have HB3 : Hid (Below w.heap.size w w3) := Lib.hid (by rw [hw3]; exact Below.setCell (Below.trans (by (repeat' (first | (with_reducible exact Below.refl _ _) | (with_reducible assumption) | (with_reducible refine Below.alloc ?_ ?_ _) | (with_reducible refine Below.drew ?_) | (with_reducible refine Below.draws ?_ _) | (with_reducible refine Below.setCell ?_ ?_ _) | (refine Below.then ?_ (by with_reducible assumption)) | go_size))) hb2) hgB _)
        have HW3 := Lib.hid hw3
        clear hj hl2 hown2 hb2 hw3
        generalize (l[i]'hil).1 = o at *
        clear hil
        go_upto_region 5 with fail
        rw [← HW3.out]
        clear hcell hfz hgl hgB hv2
        by_cases hkk : 1 ≤ k ∧ k ≤ 100
        · obtain ⟨c1, d1, e2, f1, g1, hWA, hWB, hor⟩ := joins_worst HV.out HIL.out (m := m) ⟨h3, h4⟩ hkk
          obtain ⟨hk1, hk2⟩ := hkk
          have HWA := Lib.hid hWA; have HWB := Lib.hid hWB
          clear hWA hWB
          by_cases hg3 : g1 = 3
          · subst hg3
            clear hor
            go_wp2_with (first
            | (go_at_call 14; (with_reducible refine (Least_val (HR.out.ext HB3.out) HA.out).mono ?_); rintro e w4 ⟨rfl, hb4⟩; have V4 := Lib.hid hb4; clear hb4)
            | (go_at_call 14; (with_reducible refine (Least_val (HJ.out.ext V4.out) HB.out).mono ?_); rintro e w5 ⟨rfl, hb5⟩; have V5 := Lib.hid (Below.then V4.out hb5); clear hb5)
            | (go_at_call 15; (with_reducible refine (Worst_val (HR.out.ext (Below.then HB3.out V5.out)) HWA.out).mono ?_); rintro e w6 ⟨rfl, hb6⟩; have V6 := Lib.hid (Below.then V5.out hb6); clear hb6)
            | (go_at_call 15; (with_reducible refine (Worst_val (HJ.out.ext V6.out) HWB.out).mono ?_); rintro e w7 ⟨rfl, hb7⟩; have V7 := Lib.hid (Below.then V6.out hb7); clear hb7)
            | (go_at_call 13; (with_reducible refine (sane_any _).mono ?_); rintro e w8 ⟨rfl, hb8⟩; have V8 := Lib.hid (Below.then V7.out hb8); clear hb8))
            go_ret
            exact ⟨rfl, Below.then HB3.out V8.out⟩
          · have hec : e2 ≤ c1 := hor.resolve_left hg3
            have q3 : (g1 == 3) = false := by simpa using hg3
            clear hor hg3
            go_wp2_with (first
            | (go_at_call 14; (with_reducible refine (Least_val (HR.out.ext HB3.out) HA.out).mono ?_); rintro e w4 ⟨rfl, hb4⟩; have V4 := Lib.hid hb4; clear hb4)
            | (go_at_call 14; (with_reducible refine (Least_val (HJ.out.ext V4.out) HB.out).mono ?_); rintro e w5 ⟨rfl, hb5⟩; have V5 := Lib.hid (Below.then V4.out hb5); clear hb5)
            | (go_at_call 15; (with_reducible refine (Worst_val (HR.out.ext (Below.then HB3.out V5.out)) HWA.out).mono ?_); rintro e w6 ⟨rfl, hb6⟩; have V6 := Lib.hid (Below.then V5.out hb6); clear hb6)
            | (go_at_call 15; (with_reducible refine (Worst_val (HJ.out.ext V6.out) HWB.out).mono ?_); rintro e w7 ⟨rfl, hb7⟩; have V7 := Lib.hid (Below.then V6.out hb7); clear hb7)
            | (go_at_call 13; (with_reducible refine (sane_any _).mono ?_); rintro e w8 ⟨rfl, hb8⟩; have V8 := Lib.hid (Below.then V7.out hb8); clear hb8))
            go_ret
            exact ⟨rfl, Below.then HB3.out V8.out⟩
        · have HWA := Lib.hid (joins_bad (l := l) (m := m) hkk)
          have HWB := Lib.hid (joins_bad (l := joinS l i m) (m := m) hkk)
          by_cases hk1 : k < 1
          · clear hkk
            go_wp2_with (first
            | (go_at_call 14; (with_reducible refine (Least_val (HR.out.ext HB3.out) HA.out).mono ?_); rintro e w4 ⟨rfl, hb4⟩; have V4 := Lib.hid hb4; clear hb4)
            | (go_at_call 14; (with_reducible refine (Least_val (HJ.out.ext V4.out) HB.out).mono ?_); rintro e w5 ⟨rfl, hb5⟩; have V5 := Lib.hid (Below.then V4.out hb5); clear hb5)
            | (go_at_call 15; (with_reducible refine (Worst_val (HR.out.ext (Below.then HB3.out V5.out)) HWA.out).mono ?_); rintro e w6 ⟨rfl, hb6⟩; have V6 := Lib.hid (Below.then V5.out hb6); clear hb6)
            | (go_at_call 15; (with_reducible refine (Worst_val (HJ.out.ext V6.out) HWB.out).mono ?_); rintro e w7 ⟨rfl, hb7⟩; have V7 := Lib.hid (Below.then V6.out hb7); clear hb7)
            | (go_at_call 13; (with_reducible refine (sane_any _).mono ?_); rintro e w8 ⟨rfl, hb8⟩; have V8 := Lib.hid (Below.then V7.out hb8); clear hb8))
            go_ret
            exact ⟨rfl, Below.then HB3.out V8.out⟩
          · have hk2 : 100 < k := by omega
            clear hkk
            go_wp2_with (first
            | (go_at_call 14; (with_reducible refine (Least_val (HR.out.ext HB3.out) HA.out).mono ?_); rintro e w4 ⟨rfl, hb4⟩; have V4 := Lib.hid hb4; clear hb4)
            | (go_at_call 14; (with_reducible refine (Least_val (HJ.out.ext V4.out) HB.out).mono ?_); rintro e w5 ⟨rfl, hb5⟩; have V5 := Lib.hid (Below.then V4.out hb5); clear hb5)
            | (go_at_call 15; (with_reducible refine (Worst_val (HR.out.ext (Below.then HB3.out V5.out)) HWA.out).mono ?_); rintro e w6 ⟨rfl, hb6⟩; have V6 := Lib.hid (Below.then V5.out hb6); clear hb6)
            | (go_at_call 15; (with_reducible refine (Worst_val (HJ.out.ext V6.out) HWB.out).mono ?_); rintro e w7 ⟨rfl, hb7⟩; have V7 := Lib.hid (Below.then V6.out hb7); clear hb7)
            | (go_at_call 13; (with_reducible refine (sane_any _).mono ?_); rintro e w8 ⟨rfl, hb8⟩; have V8 := Lib.hid (Below.then V7.out hb8); clear hb8))
            go_ret
            exact ⟨rfl, Below.then HB3.out V8.out⟩
      · clear hv
        have hbad : (decide (at_ < 0) || decide ((n : Int) ≤ at_) || decide (m < 0) || decide (3 < m) || decide (wd < 0) || decide (10000 < wd)) = true := by simp; omega
        go_enter Try.func3, Try.ntmps3
        go_wp2_with (first | (go_at_call 11; refine (HF.out).mono ?_; rintro e w1 ⟨rfl, rfl⟩) | (go_at_call 12; refine (rvalid_val HR.out HV.out).mono ?_; rintro e w1 ⟨rfl, rfl⟩) | (go_at_call 13; refine (sane_any _).mono ?_; rintro e w1 ⟨rfl, hb1⟩; obtain ⟨hc1, hf1, hz1, hr1⟩ := bfacts hb1; (try simp only [World.size_alloc, World.size_setCell, World.size_drew, World.size_drewN] at hz1 hr1); (try have hw0 : w.heap.size < w1.heap.size := by omega); (try have hw1 : w.heap.size + 1 < w1.heap.size := by omega); (try have hw2 : w.heap.size + 1 + 1 < w1.heap.size := by omega)))
        all_goals first
          | (go_ret; exact ⟨rfl, hb1⟩)
          | (exfalso; omega)
  · have HF := Lib.hid (few_no (a := a) (b := none) (n := n) (c := c) (k := 0) (d := 0) (w := w) hs (by omega) (by omega))
    go_enter Try.func3, Try.ntmps3
    go_wp2_with (first | (go_at_call 11; refine (HF.out).mono ?_; rintro e w1 ⟨rfl, rfl⟩) | (go_at_call 13; refine (sane_any _).mono ?_; rintro e w1 ⟨rfl, hb1⟩; obtain ⟨hc1, hf1, hz1, hr1⟩ := bfacts hb1; (try simp only [World.size_alloc, World.size_setCell, World.size_drew, World.size_drewN] at hz1 hr1); (try have hw0 : w.heap.size < w1.heap.size := by omega); (try have hw1 : w.heap.size + 1 < w1.heap.size := by omega); (try have hw2 : w.heap.size + 1 + 1 < w1.heap.size := by omega)))
    go_ret
    exact ⟨rfl, by (repeat' (first | (with_reducible exact Below.refl _ _) | (with_reducible assumption) | (with_reducible refine Below.alloc ?_ ?_ _) | (with_reducible refine Below.drew ?_) | (with_reducible refine Below.draws ?_ _) | (with_reducible refine Below.setCell ?_ ?_ _) | (refine Below.then ?_ (by with_reducible assumption)) | go_size))⟩
end Go.Proofs.Ytgldgomjlcojaaa
