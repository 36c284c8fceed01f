/- The walk of ArriveDense: it returns true. No condition. -/
import Derived.Test.YtfiggbeaomkepaaWLets
namespace Go.Proofs.Ytfiggbeaomkepaa
open Go.RowKit
set_option linter.unusedSimpArgs false
set_option linter.unusedVariables false
theorem allowGo_range (g j : Int) (hj : 0 ≤ j) (F : Nat → Int) (hF : ∀ i : Nat, F i ≤ j) : ∀ (m : Nat) (k : Nat) (first l : Int), l ≤ first + k * g →
    allowGo g j l ((List.range' k m).map fun (i : Nat) => ((first + i * g, F i) : P2)) = true
  | 0, _, _, _, _ => rfl
  | m + 1, k, first, l, hl => by
    rw [List.range'_succ, List.map_cons, allowGo, if_neg (by have := hF k; omega)]
    refine allowGo_range g j hj F hF m (k + 1) first _ ?_
    rw [Int.natCast_add, Int.add_mul]; omega
theorem listE_of {xs : List P2} (h : ∀ x ∈ xs, (0 ≤ x.1 ∧ x.1 ≤ 1000000) ∧ (0 ≤ x.2 ∧ x.2 ≤ 1000000)) (hl : xs.length ≤ 40) : listE xs = 0 := by
  have h1 : xs.any farB = false := by
    rw [List.any_eq_false]
    intro x hx
    obtain ⟨q1, q2⟩ := h x hx
    simp [farB, inB_iff.2 q1, inB_iff.2 q2]
  rw [listE, h1, if_neg (by simp), if_neg (by omega)]
theorem dense_ok {f g j : Int} {m : Nat} (hv : vpat f g j = true) (hm : m ≤ 40) : allowR f g j (denseL f g m) = (true, 0) := by
  obtain ⟨k1, k2, k3⟩ := vpat_iff.1 hv
  have h1 : listE (denseL f g m) = 0 := by
    refine listE_of (fun x hx => ?_) (by simp [denseL]; omega)
    simp only [denseL, List.mem_map, List.mem_range] at hx
    obtain ⟨i, hi, rfl⟩ := hx
    obtain ⟨q1, q2⟩ := mul_bd (a := (i : Int)) (m := 40) (by omega) (by omega) (b := g) (k := 10000) (by omega) (by omega)
    exact ⟨⟨by simp only []; omega, by simp only []; omega⟩, by simp⟩
  rw [allowR, if_pos hv, if_pos h1]
  have := allowGo_range g j (by omega) (fun _ => 0) (fun _ => by omega) m 0 f f (by simp)
  rw [denseL, List.range_eq_range']
  exact congrArg (fun b => (b, (0 : Int))) this
theorem OutP.rd {B : Nat} {w' : World} {xs : List P2} {a : Option Addr} {n c : Nat} (h : w'.ownsRow B 61 2 (.slice a n c) n (xs.flatMap enc2)) : Rd w' a n 2 (xs.map enc2) := Rd.of_owns enc2_len (by decide) h
theorem arriveDense_walk {w : World} (f g j : Int) (m : Int) (bm : -9223372036854775808 ≤ m ∧ m ≤ 9223372036854775807) :
    Calls Try.prog 8 #[patV f g j, .int .i64 m] w fun e w' => e = .returned (.bool true) ∧ Below w.heap.size w w' := by
  have ht : ∀ xs : List P2, decide (xs = xs) = true := by simp
  by_cases hc : denseC f g j m = true
  · simp only [denseC, Bool.and_eq_true, inB_iff] at hc
    obtain ⟨hv, h2, h3⟩ := hc
    obtain ⟨k, rfl⟩ := Int.eq_ofNat_of_zero_le h2
    have e1 : denseC f g j k = true := by simp only [denseC, Bool.and_eq_true, inB_iff]; exact ⟨hv, h2, h3⟩
    have e2 := dense_ok (m := k) hv (by omega)
    clear hv
    go_enter Try.func8, Try.ntmps8
    go_wp2_with (first
      | (go_at_call 33; refine (densest_any _ _ _ _ _).mono ?_; rintro e w1 ⟨a1, n1, c1, rfl, hO1, hb1⟩; have HO1 := Lib.hid (OutP.rd hO1); clear hO1; obtain ⟨hc1, hf1, hz1, hr1⟩ := bfacts hb1; (try simp only [World.size_alloc, World.size_setCell, World.size_drew, World.size_drewN] at hz1 hr1); (try have hw0 : w.heap.size < w1.heap.size := by omega); (try have hw1 : w.heap.size + 1 < w1.heap.size := by omega); (try have hw2 : w.heap.size + 1 + 1 < w1.heap.size := by omega))
      | (go_at_call 34; refine (rdensest_any _ _ _ _ _).mono ?_; rintro e w1 ⟨a2, n2, c2, rfl, hO2, hb1⟩; have HO2 := Lib.hid (OutP.rd hO2); clear hO2; obtain ⟨hc1, hf1, hz1, hr1⟩ := bfacts hb1; (try simp only [World.size_alloc, World.size_setCell, World.size_drew, World.size_drewN] at hz1 hr1); (try have hw0 : w.heap.size < w1.heap.size := by omega); (try have hw1 : w.heap.size + 1 < w1.heap.size := by omega); (try have hw2 : w.heap.size + 1 + 1 < w1.heap.size := by omega))
      | (go_at_call 28; refine (pairs_any _ _ _ _ _ _ _ _ _ (HO1.out.ext (by (repeat' (first | (with_reducible exact Below.refl _ _) | (with_reducible assumption) | (with_reducible refine Below.alloc ?_ ?_ _) | (with_reducible refine Below.drew ?_) | (with_reducible refine Below.draws ?_ _) | (with_reducible refine Below.setCell ?_ ?_ _) | (refine Below.then ?_ (by with_reducible assumption)) | go_size)))) HO2.out).mono ?_; rintro e w1 ⟨rfl, hb1⟩; obtain ⟨hc1, hf1, hz1, hr1⟩ := bfacts hb1; (try simp only [World.size_alloc, World.size_setCell, World.size_drew, World.size_drewN] at hz1 hr1); (try have hw0 : w.heap.size < w1.heap.size := by omega); (try have hw1 : w.heap.size + 1 < w1.heap.size := by omega); (try have hw2 : w.heap.size + 1 + 1 < w1.heap.size := by omega))
      | (go_at_call 24; refine (allowed_any _ _ _ _ _ _ _ _ (HO1.out.ext (by (repeat' (first | (with_reducible exact Below.refl _ _) | (with_reducible assumption) | (with_reducible refine Below.alloc ?_ ?_ _) | (with_reducible refine Below.drew ?_) | (with_reducible refine Below.draws ?_ _) | (with_reducible refine Below.setCell ?_ ?_ _) | (refine Below.then ?_ (by with_reducible assumption)) | go_size))))).mono ?_; rintro e w1 ⟨rfl, hb1⟩; obtain ⟨hc1, hf1, hz1, hr1⟩ := bfacts hb1; (try simp only [World.size_alloc, World.size_setCell, World.size_drew, World.size_drewN] at hz1 hr1); (try have hw0 : w.heap.size < w1.heap.size := by omega); (try have hw1 : w.heap.size + 1 < w1.heap.size := by omega); (try have hw2 : w.heap.size + 1 + 1 < w1.heap.size := by omega))
      | (go_at_call 16; refine (sane_any _).mono ?_; rintro e w1 ⟨rfl, hb1⟩; obtain ⟨hc1, hf1, hz1, hr1⟩ := bfacts hb1; (try simp only [World.size_alloc, World.size_setCell, World.size_drew, World.size_drewN] at hz1 hr1); (try have hw0 : w.heap.size < w1.heap.size := by omega); (try have hw1 : w.heap.size + 1 < w1.heap.size := by omega); (try have hw2 : w.heap.size + 1 + 1 < w1.heap.size := by omega)))
    go_ret
    exact ⟨rfl, by (repeat' (first | (with_reducible exact Below.refl _ _) | (with_reducible assumption) | (with_reducible refine Below.alloc ?_ ?_ _) | (with_reducible refine Below.drew ?_) | (with_reducible refine Below.draws ?_ _) | (with_reducible refine Below.setCell ?_ ?_ _) | (refine Below.then ?_ (by with_reducible assumption)) | go_size))⟩
  · have e1 : denseC f g j m = false := by simpa using hc
    clear hc
    go_enter Try.func8, Try.ntmps8
    go_wp2_with (first
      | (go_at_call 33; refine (densest_any _ _ _ _ _).mono ?_; rintro e w1 ⟨a1, n1, c1, rfl, hO1, hb1⟩; have HO1 := Lib.hid (OutP.rd hO1); clear hO1; obtain ⟨hc1, hf1, hz1, hr1⟩ := bfacts hb1; (try simp only [World.size_alloc, World.size_setCell, World.size_drew, World.size_drewN] at hz1 hr1); (try have hw0 : w.heap.size < w1.heap.size := by omega); (try have hw1 : w.heap.size + 1 < w1.heap.size := by omega); (try have hw2 : w.heap.size + 1 + 1 < w1.heap.size := by omega))
      | (go_at_call 34; refine (rdensest_any _ _ _ _ _).mono ?_; rintro e w1 ⟨a2, n2, c2, rfl, hO2, hb1⟩; have HO2 := Lib.hid (OutP.rd hO2); clear hO2; obtain ⟨hc1, hf1, hz1, hr1⟩ := bfacts hb1; (try simp only [World.size_alloc, World.size_setCell, World.size_drew, World.size_drewN] at hz1 hr1); (try have hw0 : w.heap.size < w1.heap.size := by omega); (try have hw1 : w.heap.size + 1 < w1.heap.size := by omega); (try have hw2 : w.heap.size + 1 + 1 < w1.heap.size := by omega))
      | (go_at_call 28; refine (pairs_any _ _ _ _ _ _ _ _ _ (HO1.out.ext (by (repeat' (first | (with_reducible exact Below.refl _ _) | (with_reducible assumption) | (with_reducible refine Below.alloc ?_ ?_ _) | (with_reducible refine Below.drew ?_) | (with_reducible refine Below.draws ?_ _) | (with_reducible refine Below.setCell ?_ ?_ _) | (refine Below.then ?_ (by with_reducible assumption)) | go_size)))) HO2.out).mono ?_; rintro e w1 ⟨rfl, hb1⟩; obtain ⟨hc1, hf1, hz1, hr1⟩ := bfacts hb1; (try simp only [World.size_alloc, World.size_setCell, World.size_drew, World.size_drewN] at hz1 hr1); (try have hw0 : w.heap.size < w1.heap.size := by omega); (try have hw1 : w.heap.size + 1 < w1.heap.size := by omega); (try have hw2 : w.heap.size + 1 + 1 < w1.heap.size := by omega))
      | (go_at_call 24; refine (allowed_any _ _ _ _ _ _ _ _ (HO1.out.ext (by (repeat' (first | (with_reducible exact Below.refl _ _) | (with_reducible assumption) | (with_reducible refine Below.alloc ?_ ?_ _) | (with_reducible refine Below.drew ?_) | (with_reducible refine Below.draws ?_ _) | (with_reducible refine Below.setCell ?_ ?_ _) | (refine Below.then ?_ (by with_reducible assumption)) | go_size))))).mono ?_; rintro e w1 ⟨rfl, hb1⟩; obtain ⟨hc1, hf1, hz1, hr1⟩ := bfacts hb1; (try simp only [World.size_alloc, World.size_setCell, World.size_drew, World.size_drewN] at hz1 hr1); (try have hw0 : w.heap.size < w1.heap.size := by omega); (try have hw1 : w.heap.size + 1 < w1.heap.size := by omega); (try have hw2 : w.heap.size + 1 + 1 < w1.heap.size := by omega))
      | (go_at_call 16; refine (sane_any _).mono ?_; rintro e w1 ⟨rfl, hb1⟩; obtain ⟨hc1, hf1, hz1, hr1⟩ := bfacts hb1; (try simp only [World.size_alloc, World.size_setCell, World.size_drew, World.size_drewN] at hz1 hr1); (try have hw0 : w.heap.size < w1.heap.size := by omega); (try have hw1 : w.heap.size + 1 < w1.heap.size := by omega); (try have hw2 : w.heap.size + 1 + 1 < w1.heap.size := by omega)))
    go_ret
    exact ⟨rfl, by (repeat' (first | (with_reducible exact Below.refl _ _) | (with_reducible assumption) | (with_reducible refine Below.alloc ?_ ?_ _) | (with_reducible refine Below.drew ?_) | (with_reducible refine Below.draws ?_ _) | (with_reducible refine Below.setCell ?_ ?_ _) | (refine Below.then ?_ (by with_reducible assumption)) | go_size))⟩
end Go.Proofs.Ytfiggbeaomkepaa
