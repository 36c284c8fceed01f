/- The walk of BusTurned: it returns true. The conditions: the slots read as named. -/
import Derived.Test.YtgldgomjlcojaaaBsRturn
namespace Go.Proofs.Ytgldgomjlcojaaa
open Go.RowKit
set_option linter.unusedSimpArgs false
set_option linter.unusedVariables false
theorem Turned_val {a : Option Addr} {n c : Nat} {l : List P2} {b : Int} {w : World} {R : List P2 × Int} (hR : Rd w a n 2 (l.map enc2)) (hc : n ≤ c ∧ c ≤ 9223372036854775807) (h : turnR l b = R) :
    Calls Try.prog 34 #[.slice a n c, .int .i64 b] w (OutSE w.heap.size w R.1 R.2) := h ▸ Turned_any a n c l b w hR hc
theorem rTurned_val {a : Option Addr} {n c : Nat} {l : List P2} {b : Int} {w : World} {R : List P2 × Int} (hR : Rd w a n 2 (l.map enc2)) (h : turnR l b = R) :
    Calls Try.prog 35 #[.slice a n c, .int .i64 b] w (OutSE w.heap.size w R.1 R.2) := h ▸ rTurned_any a n c l b w hR
set_option maxRecDepth 100000 in
set_option maxHeartbeats 8000000 in
theorem busTurned_walk {w : World} (a : Option Addr) (n c : Nat) (l : List P2) (hR : Rd w a n 2 (l.map enc2)) (hN : n = 0 → (a = none ∧ c = 0) ∨ ∃ ad, a = some ad) (hC : n ≤ c ∧ c ≤ 9223372036854775807) (b : Int) (bb : -9223372036854775808 ≤ b ∧ b ≤ 9223372036854775807) (t : Int) (bt : -9223372036854775808 ≤ t ∧ t ≤ 9223372036854775807) :
    Calls Try.prog 7 #[.slice a n c, .int .i64 b, .int .i64 t] w fun e w' => e = .returned (.bool true) ∧ Below w.heap.size w w' := by
  have HR := Lib.hid hR
  have hs := hR.small
  clear hR hN bb bt
  by_cases h60 : n ≤ 60
  · have HF := Lib.hid (few_yes (a := a) (b := none) (n := n) (c := c) (k := 0) (d := 0) (w := w) h60 (by omega))
    obtain ⟨TR, hT⟩ : ∃ R, turnR l b = R := ⟨_, rfl⟩
    obtain ⟨TL, te⟩ := TR
    have HT := Lib.hid hT
    clear hT
    by_cases he : te = 0
    · subst he
      by_cases ht : 0 ≤ t ∧ t ≤ 1000000 ∧ b + t ≤ 1000000
      · obtain ⟨hb, x, hO1, hO2⟩ := turned_owner HT.out ⟨ht.1, ht.2.1⟩ ht.2.2
        obtain ⟨h1, h2, h3⟩ := ht
        have HO1 := Lib.hid hO1; have HO2 := Lib.hid hO2
        clear hO1 hO2
        go_enter Try.func7, Try.ntmps7
        go_wp2_with (first
          | (go_at_call 11; (with_reducible refine (HF.out).mono ?_); rintro e w2 ⟨rfl, rfl⟩)
          | (go_at_call 34; (with_reducible refine (Turned_val HR.out hC HT.out).mono ?_); rintro e w3 ⟨a3, n3, c3, rfl, ho3, hb3⟩; have R3 := Lib.hid (Rd.of_owns enc2_len (by decide) ho3); have V3 := Lib.hid hb3; have W3 := Lib.hid hb3; clear ho3 hb3)
          | (go_at_call 35; (with_reducible refine (rTurned_val (HR.out.ext W3.out) HT.out).mono ?_); rintro e w4 ⟨a4, n4, c4, rfl, ho4, hb4⟩; have R4 := Lib.hid (Rd.of_owns enc2_len (by decide) ho4); have V4 := Lib.hid hb4; have W4 := Lib.hid (Below.then W3.out hb4); clear ho4 hb4)
          | (go_at_call 33; (with_reducible refine (sameS_eq _ _ _ _ _ _ TL _ (R3.out.ext V4.out) R4.out).mono ?_); rintro e w5 ⟨rfl, hb5⟩; have V5 := Lib.hid (Below.then V4.out hb5); have W5 := Lib.hid (Below.then W4.out hb5); clear hb5)
          | (go_at_call 27; (with_reducible refine (Owner_val (R3.out.ext V5.out) HO1.out).mono ?_); rintro e w6 ⟨rfl, hb6⟩; have W6 := Lib.hid (Below.then W5.out hb6); clear hb6)
          | (go_at_call 27; (with_reducible refine (Owner_val (HR.out.ext W6.out) HO2.out).mono ?_); rintro e w7 ⟨rfl, hb7⟩; have W7 := Lib.hid (Below.then W6.out hb7); clear hb7)
          | (go_at_call 13; (with_reducible refine (sane_any _).mono ?_); rintro e w9 ⟨rfl, hb9⟩))
        go_ret
        exact ⟨rfl, Below.then W7.out hb9⟩
      · have hb : 0 ≤ b ∧ b ≤ 1000000 := by
          have := HT.out
          unfold turnR at this
          split at this
          · rename_i hc2
            rw [Bool.and_eq_true] at hc2
            exact inB_iff.1 hc2.2
          · simp at this
        by_cases h1 : t < 0
        · clear ht
          go_enter Try.func7, Try.ntmps7
          go_wp2_with (first | (go_at_call 11; (with_reducible refine (HF.out).mono ?_); rintro e w2 ⟨rfl, rfl⟩) | (go_at_call 34; (with_reducible refine (Turned_val HR.out hC HT.out).mono ?_); rintro e w3 ⟨a3, n3, c3, rfl, ho3, hb3⟩; have R3 := Lib.hid (Rd.of_owns enc2_len (by decide) ho3); have V3 := Lib.hid hb3; have W3 := Lib.hid hb3; clear ho3 hb3) | (go_at_call 35; (with_reducible refine (rTurned_val (HR.out.ext W3.out) HT.out).mono ?_); rintro e w4 ⟨a4, n4, c4, rfl, ho4, hb4⟩; have R4 := Lib.hid (Rd.of_owns enc2_len (by decide) ho4); have V4 := Lib.hid hb4; have W4 := Lib.hid (Below.then W3.out hb4); clear ho4 hb4) | (go_at_call 33; (with_reducible refine (sameS_eq _ _ _ _ _ _ TL _ (R3.out.ext V4.out) R4.out).mono ?_); rintro e w5 ⟨rfl, hb5⟩; have V5 := Lib.hid (Below.then V4.out hb5); have W5 := Lib.hid (Below.then W4.out hb5); clear hb5) | (go_at_call 13; (with_reducible refine (sane_any _).mono ?_); rintro e w9 ⟨rfl, hb9⟩))
          go_ret
          exact ⟨rfl, Below.then W5.out hb9⟩
        · by_cases h2 : 1000000 < t
          · clear ht
            go_enter Try.func7, Try.ntmps7
            go_wp2_with (first | (go_at_call 11; (with_reducible refine (HF.out).mono ?_); rintro e w2 ⟨rfl, rfl⟩) | (go_at_call 34; (with_reducible refine (Turned_val HR.out hC HT.out).mono ?_); rintro e w3 ⟨a3, n3, c3, rfl, ho3, hb3⟩; have R3 := Lib.hid (Rd.of_owns enc2_len (by decide) ho3); have V3 := Lib.hid hb3; have W3 := Lib.hid hb3; clear ho3 hb3) | (go_at_call 35; (with_reducible refine (rTurned_val (HR.out.ext W3.out) HT.out).mono ?_); rintro e w4 ⟨a4, n4, c4, rfl, ho4, hb4⟩; have R4 := Lib.hid (Rd.of_owns enc2_len (by decide) ho4); have V4 := Lib.hid hb4; have W4 := Lib.hid (Below.then W3.out hb4); clear ho4 hb4) | (go_at_call 33; (with_reducible refine (sameS_eq _ _ _ _ _ _ TL _ (R3.out.ext V4.out) R4.out).mono ?_); rintro e w5 ⟨rfl, hb5⟩; have V5 := Lib.hid (Below.then V4.out hb5); have W5 := Lib.hid (Below.then W4.out hb5); clear hb5) | (go_at_call 13; (with_reducible refine (sane_any _).mono ?_); rintro e w9 ⟨rfl, hb9⟩))
            go_ret
            exact ⟨rfl, Below.then W5.out hb9⟩
          · have h3 : 1000000 < b + t := by omega
            clear ht
            go_enter Try.func7, Try.ntmps7
            go_wp2_with (first | (go_at_call 11; (with_reducible refine (HF.out).mono ?_); rintro e w2 ⟨rfl, rfl⟩) | (go_at_call 34; (with_reducible refine (Turned_val HR.out hC HT.out).mono ?_); rintro e w3 ⟨a3, n3, c3, rfl, ho3, hb3⟩; have R3 := Lib.hid (Rd.of_owns enc2_len (by decide) ho3); have V3 := Lib.hid hb3; have W3 := Lib.hid hb3; clear ho3 hb3) | (go_at_call 35; (with_reducible refine (rTurned_val (HR.out.ext W3.out) HT.out).mono ?_); rintro e w4 ⟨a4, n4, c4, rfl, ho4, hb4⟩; have R4 := Lib.hid (Rd.of_owns enc2_len (by decide) ho4); have V4 := Lib.hid hb4; have W4 := Lib.hid (Below.then W3.out hb4); clear ho4 hb4) | (go_at_call 33; (with_reducible refine (sameS_eq _ _ _ _ _ _ TL _ (R3.out.ext V4.out) R4.out).mono ?_); rintro e w5 ⟨rfl, hb5⟩; have V5 := Lib.hid (Below.then V4.out hb5); have W5 := Lib.hid (Below.then W4.out hb5); clear hb5) | (go_at_call 13; (with_reducible refine (sane_any _).mono ?_); rintro e w9 ⟨rfl, hb9⟩))
            go_ret
            exact ⟨rfl, Below.then W5.out hb9⟩
    · have qe : (te != 0) = true := by simpa using he
      clear he
      go_enter Try.func7, Try.ntmps7
      go_wp2_with (first | (go_at_call 11; (with_reducible refine (HF.out).mono ?_); rintro e w2 ⟨rfl, rfl⟩) | (go_at_call 34; (with_reducible refine (Turned_val HR.out hC HT.out).mono ?_); rintro e w3 ⟨a3, n3, c3, rfl, ho3, hb3⟩; have R3 := Lib.hid (Rd.of_owns enc2_len (by decide) ho3); have V3 := Lib.hid hb3; have W3 := Lib.hid hb3; clear ho3 hb3) | (go_at_call 35; (with_reducible refine (rTurned_val (HR.out.ext W3.out) HT.out).mono ?_); rintro e w4 ⟨a4, n4, c4, rfl, ho4, hb4⟩; have R4 := Lib.hid (Rd.of_owns enc2_len (by decide) ho4); have V4 := Lib.hid hb4; have W4 := Lib.hid (Below.then W3.out hb4); clear ho4 hb4) | (go_at_call 33; (with_reducible refine (sameS_eq _ _ _ _ _ _ TL _ (R3.out.ext V4.out) R4.out).mono ?_); rintro e w5 ⟨rfl, hb5⟩; have V5 := Lib.hid (Below.then V4.out hb5); have W5 := Lib.hid (Below.then W4.out hb5); clear hb5) | (go_at_call 13; (with_reducible refine (sane_any _).mono ?_); rintro e w9 ⟨rfl, hb9⟩))
      go_ret
      exact ⟨rfl, Below.then W5.out hb9⟩
  · have HF := Lib.hid (few_no (a := a) (b := none) (n := n) (c := c) (k := 0) (d := 0) (w := w) hs (by omega) (by omega))
    go_enter Try.func7, Try.ntmps7
    go_wp2_with (first | (go_at_call 11; (with_reducible refine (HF.out).mono ?_); rintro e w2 ⟨rfl, rfl⟩) | (go_at_call 13; refine (sane_any _).mono ?_; rintro e w1 ⟨rfl, hb1⟩; obtain ⟨hc1, hf1, hz1, hr1⟩ := bfacts hb1; (try simp only [World.size_alloc, World.size_setCell, World.size_drew, World.size_drewN] at hz1 hr1); (try have hw0 : w.heap.size < w1.heap.size := by omega); (try have hw1 : w.heap.size + 1 < w1.heap.size := by omega); (try have hw2 : w.heap.size + 1 + 1 < w1.heap.size := by omega)))
    go_ret
    exact ⟨rfl, by (repeat' (first | (with_reducible exact Below.refl _ _) | (with_reducible assumption) | (with_reducible refine Below.alloc ?_ ?_ _) | (with_reducible refine Below.drew ?_) | (with_reducible refine Below.draws ?_ _) | (with_reducible refine Below.setCell ?_ ?_ _) | (refine Below.then ?_ (by with_reducible assumption)) | go_size))⟩
end Go.Proofs.Ytgldgomjlcojaaa
