/- Contracts of the functions that make lists of events (Densest, Bunch and their references). The conditions are the ones that each contract names. -/
import Derived.Test.YtfiggbeaomkepaaClk
namespace Go.Proofs.Ytfiggbeaomkepaa
open Go.RowKit
set_option linter.unusedSimpArgs false
set_option linter.unusedVariables false
theorem E2 : Elt Try.prog 34 61 2 16 := Elt.mk' (z := .agg #[.int .i64 0, .int .i64 0]) Try.underlying34 (by kernel_rfl) rfl (by decide)
theorem enc2_len (x : P2) : (enc2 x).length = 2 := rfl
/-- n events of a bunch -/
def bunchL (first g at_ : Int) (n : Nat) : List P2 := (List.range n).map fun (i : Nat) => ((first + i * g, max (at_ - (first + i * g)) 0) : P2)
theorem bunchL_succ (first g at_ : Int) (n : Nat) : bunchL first g at_ (n + 1) = bunchL first g at_ n ++ [(first + n * g, max (at_ - (first + n * g)) 0)] := by
  simp [bunchL, List.range_succ]
theorem bunchL_len (first g at_ : Int) (n : Nat) : (bunchL first g at_ n).length = n := by simp [bunchL]
/-- what a function that makes a list of events leaves -/
def OutP (B : Nat) (w : World) (xs : List P2) (err : Int) (e : Ending) (w' : World) : Prop :=
  ∃ a n c, e = .returned (.tuple #[.slice a n c, .int .i64 err]) ∧ w'.ownsRow B 61 2 (.slice a n c) n (xs.flatMap enc2) ∧ Below B w w'
theorem bunch_step {w : World} {B n : Nat} {v : Value} {first g at_ x : Int} (h : w.ownsRow B 61 2 v (n + 1) ((bunchL first g at_ n).flatMap enc2 ++ [.int .i64 (first + n * g), .int .i64 x])) (hx : x = max (at_ - (first + n * g)) 0) :
    w.ownsRow B 61 2 v (n + 1) ((bunchL first g at_ (n + 1)).flatMap enc2) := by
  subst hx; rw [bunchL_succ, List.flatMap_append]; exact h
theorem bunch_ok (f g j at_ : Int) (m : Nat) (w : World) (hv : vpat f g j = true) (hm : m ≤ 40) (h1 : f ≤ at_) (h2 : at_ ≤ 500000) :
    Calls Try.prog 35 #[patV f g j, .int .i64 at_, .int .i64 m] w (OutP w.heap.size w (bunchL (max f (at_ - j)) g at_ m) 0) := by
  obtain ⟨k1, k2, k3⟩ := vpat_iff.1 hv
  have hin : inB (m : Int) 0 40 = true := inB_iff.2 (by omega)
  have d1 : decide (at_ < f) = false := by simpa using h1
  have d2 : decide (500000 < at_) = false := by simpa using h2
  obtain ⟨first, hf⟩ : ∃ x, x = max f (at_ - j) := ⟨_, rfl⟩
  have hfb : 0 ≤ first ∧ first ≤ 500000 := by omega
  rw [← hf]
  have HF := Lib.hid hf
  have e2 := E2
  have hcase : (first = f ∧ at_ - j ≤ first) ∨ (j = at_ - first ∧ f < first) := by omega
  clear hf
  rcases hcase with ⟨rfl, hmx⟩ | ⟨rfl, hmx⟩
  all_goals
    have hss : at_ - (at_ - first) = first := by omega
    go_enter Try.func35, Try.ntmps35
    go_wp2_with (first | (go_at_call 48; refine (within_any _ _ _ _).mono ?_; rintro e w1 ⟨rfl, rfl⟩) | (go_at_call 26; refine (valid_any _ _ _ _).mono ?_; rintro e w1 ⟨rfl, hb1⟩; obtain ⟨hc1, hf1, hz1, hr1⟩ := bfacts hb1; (try simp only [World.size_alloc, World.size_setCell, World.size_drew, World.size_drewN] at hz1 hr1); (try have hw0 : w.heap.size < w1.heap.size := by omega); (try have hw1 : w.heap.size + 1 < w1.heap.size := by omega); (try have hw2 : w.heap.size + 1 + 1 < w1.heap.size := by omega)))
    go_loopw [8, 38] (fun v i wr => ∃ (n : Nat) (a : Option Addr) (c : Nat), n ≤ m ∧ i = .int .i64 n ∧ v = .slice a n c ∧ wr.ownsRow (w.heap.size + 1) 61 2 (.slice a n c) n ((bunchL first g at_ n).flatMap enc2) ∧ wr.cell? ⟨w.heap.size, 1, none⟩ = some (.int .i64 g) ∧ w.heap.size + 1 ≤ wr.heap.size ∧ Below w.heap.size w wr) (fun _ i _ => m - (intOf i).toNat)
    case atStart => exact ⟨0, none, 0, Nat.zero_le _, rfl, rfl, World.ownsRow_nil _ _ _ _, by rw [hc1 _ _ (by simp)]; simp [go_sem], hw0, by (repeat' (first | (with_reducible exact Below.refl _ _) | (with_reducible assumption) | (with_reducible refine Below.alloc ?_ ?_ _) | (with_reducible refine Below.drew ?_) | (with_reducible refine Below.draws ?_ _) | (with_reducible refine Below.setCell ?_ ?_ _) | (refine Below.then ?_ (by with_reducible assumption)) | go_size))⟩
    case round =>
      obtain ⟨n, a, c, hn, rfl, rfl, hown, hg, hz, hB⟩ := hrel
      have HO := Lib.hid hown; clear hown
      have HB := Lib.hid hB; clear hB
      by_cases hlt : n < m
      · obtain ⟨q1, q2⟩ := mul_bd (a := (n : Int)) (m := 40) (by omega) (by omega) (b := g) (k := 10000) (by omega) (by omega)
        go_wp2_with (at_builtin; refine wpList_push rfl _ _ _ rfl e2 rfl HO.out rfl rfl (by intro u hu; simp at hu; rcases hu with rfl | rfl <;> rfl) (by omega) (by decide) (by omega) ?_; intro a' c' w2 hown' hb1; have HO' := Lib.hid hown'; have HB' := Lib.hid hb1; have hg2 := (hb1.cell (p := ⟨w.heap.size, 1, none⟩) (by simp)).trans hg; have hz2 := hb1.size; clear hown' hb1)
        all_goals
          go_roundw
          case rel => exact ⟨n + 1, a', c', by omega, by go_num, rfl, bunch_step HO'.out (by omega), hg2, by omega, HB.out.trans (HB'.out.mono (by omega))⟩
          case measure => simp [intOf]; omega
      · obtain rfl : n = m := by omega
        go_wp2
        go_ret2
        exact ⟨a, n, c, rfl, owns_mono HO.out (Nat.le_succ _), HB.out⟩
theorem rbunch_ok (f g j at_ : Int) (m : Nat) (w : World) (hv : vpat f g j = true) (hm : m ≤ 40) (h1 : f ≤ at_) (h2 : at_ ≤ 500000) :
    Calls Try.prog 36 #[patV f g j, .int .i64 at_, .int .i64 m] w (OutP w.heap.size w (bunchL (max f (at_ - j)) g at_ m) 0) := by
  obtain ⟨k1, k2, k3⟩ := vpat_iff.1 hv
  have hin : inB (m : Int) 0 40 = true := inB_iff.2 (by omega)
  have hin2 : inB at_ f 500000 = true := inB_iff.2 ⟨h1, h2⟩
  obtain ⟨first, hf⟩ : ∃ x, x = max f (at_ - j) := ⟨_, rfl⟩
  have hfb : 0 ≤ first ∧ first ≤ 500000 := by omega
  rw [← hf]
  have HF := Lib.hid hf
  have e2 := E2
  have hcase : (first = f ∧ at_ - j ≤ first) ∨ (j = at_ - first ∧ f < first) := by omega
  clear hf
  rcases hcase with ⟨rfl, hmx⟩ | ⟨rfl, hmx⟩
  all_goals
    have hss : at_ - (at_ - first) = first := by omega
    go_enter Try.func36, Try.ntmps36
    go_wp2_with (first | (go_at_call 49; refine (in_any _ _ _ _).mono ?_; rintro e w1 ⟨rfl, rfl⟩) | (go_at_call 27; refine (rvalid_any _ _ _ _).mono ?_; rintro e w1 ⟨rfl, hb1⟩; obtain ⟨hc1, hf1, hz1, hr1⟩ := bfacts hb1; (try simp only [World.size_alloc, World.size_setCell, World.size_drew, World.size_drewN] at hz1 hr1); (try have hw0 : w.heap.size < w1.heap.size := by omega); (try have hw1 : w.heap.size + 1 < w1.heap.size := by omega); (try have hw2 : w.heap.size + 1 + 1 < w1.heap.size := by omega)))
    go_loopw [8, 9, 10] (fun v r i wr => ∃ (n : Nat) (a : Option Addr) (c : Nat), n ≤ m ∧ i = .int .i64 n ∧ r = .int .i64 (first + n * g) ∧ v = .slice a n c ∧ wr.ownsRow (w.heap.size + 1) 61 2 (.slice a n c) n ((bunchL first g at_ n).flatMap enc2) ∧ wr.cell? ⟨w.heap.size, 1, none⟩ = some (.int .i64 g) ∧ w.heap.size + 1 ≤ wr.heap.size ∧ Below w.heap.size w wr) (fun _ _ i _ => m - (intOf i).toNat)
    case atStart => exact ⟨0, none, 0, Nat.zero_le _, rfl, by simp, rfl, World.ownsRow_nil _ _ _ _, by rw [hc1 _ _ (by simp)]; simp [go_sem], hw0, by (repeat' (first | (with_reducible exact Below.refl _ _) | (with_reducible assumption) | (with_reducible refine Below.alloc ?_ ?_ _) | (with_reducible refine Below.drew ?_) | (with_reducible refine Below.draws ?_ _) | (with_reducible refine Below.setCell ?_ ?_ _) | (refine Below.then ?_ (by with_reducible assumption)) | go_size))⟩
    case round =>
      obtain ⟨n, a, c, hn, rfl, rfl, rfl, hown, hg, hz, hB⟩ := hrel
      have HO := Lib.hid hown; clear hown
      have HB := Lib.hid hB; clear hB
      by_cases hlt : n < m
      · obtain ⟨q1, q2⟩ := mul_bd (a := (n : Int)) (m := 40) (by omega) (by omega) (b := g) (k := 10000) (by omega) (by omega)
        go_wp2_with (at_builtin; refine wpList_push rfl _ _ _ rfl e2 rfl HO.out rfl rfl (by intro u hu; simp at hu; rcases hu with rfl | rfl <;> rfl) (by omega) (by decide) (by omega) ?_; intro a' c' w2 hown' hb1; have HO' := Lib.hid hown'; have HB' := Lib.hid hb1; have hg2 := (hb1.cell (p := ⟨w.heap.size, 1, none⟩) (by simp)).trans hg; have hz2 := hb1.size; clear hown' hb1)
        all_goals
          go_roundw
          case rel => exact ⟨n + 1, a', c', by omega, by go_num, by rw [Int.natCast_add, Int.add_mul]; simp [Int.add_assoc], rfl, bunch_step HO'.out (by omega), hg2, by omega, HB.out.trans (HB'.out.mono (by omega))⟩
          case measure => simp [intOf]; omega
      · obtain rfl : n = m := by omega
        go_wp2
        go_ret2
        exact ⟨a, n, c, rfl, owns_mono HO.out (Nat.le_succ _), HB.out⟩
def bunchC (f g j at_ n : Int) : Bool := vpat f g j && inB n 0 40 && inB at_ f 500000
theorem bunch_any (f g j at_ n : Int) (w : World) : Calls Try.prog 35 #[patV f g j, .int .i64 at_, .int .i64 n] w (OutP w.heap.size w (if bunchC f g j at_ n then bunchL (max f (at_ - j)) g at_ n.toNat else []) (if bunchC f g j at_ n then 0 else 1)) := by
  by_cases h : bunchC f g j at_ n = true
  · rw [if_pos h, if_pos h]
    simp only [bunchC, Bool.and_eq_true, inB_iff] at h
    obtain ⟨⟨h1, h2, h3⟩, h4, h5⟩ := h
    obtain ⟨m, rfl⟩ := Int.eq_ofNat_of_zero_le h2
    exact bunch_ok f g j at_ m w h1 (by omega) h4 h5
  · rw [if_neg h, if_neg h]
    have H := Lib.hid h; clear h
    go_enter Try.func35, Try.ntmps35
    go_wp2_with (first | (go_at_call 48; refine (within_any _ _ _ _).mono ?_; rintro e w1 ⟨rfl, rfl⟩) | (go_at_call 26; refine (valid_any _ _ _ _).mono ?_; rintro e w1 ⟨rfl, hb1⟩; obtain ⟨hc1, hf1, hz1, hr1⟩ := bfacts hb1; (try simp only [World.size_alloc, World.size_setCell, World.size_drew, World.size_drewN] at hz1 hr1); (try have hw0 : w.heap.size < w1.heap.size := by omega); (try have hw1 : w.heap.size + 1 < w1.heap.size := by omega); (try have hw2 : w.heap.size + 1 + 1 < w1.heap.size := by omega)) | (go_prune; fail))
    all_goals first | (exfalso; apply H.out; simp only [bunchC, inB_eq, Bool.and_eq_true, decide_eq_true_eq]; simp_all [inB_eq]; done) | (go_ret2; exact ⟨none, 0, 0, rfl, World.ownsRow_nil _ _ _ _, by (repeat' (first | (with_reducible exact Below.refl _ _) | (with_reducible assumption) | (with_reducible refine Below.alloc ?_ ?_ _) | (with_reducible refine Below.drew ?_) | (with_reducible refine Below.draws ?_ _) | (with_reducible refine Below.setCell ?_ ?_ _) | (refine Below.then ?_ (by with_reducible assumption)) | go_size))⟩)
theorem rbunch_any (f g j at_ n : Int) (w : World) : Calls Try.prog 36 #[patV f g j, .int .i64 at_, .int .i64 n] w (OutP w.heap.size w (if bunchC f g j at_ n then bunchL (max f (at_ - j)) g at_ n.toNat else []) (if bunchC f g j at_ n then 0 else 1)) := by
  by_cases h : bunchC f g j at_ n = true
  · rw [if_pos h, if_pos h]
    simp only [bunchC, Bool.and_eq_true, inB_iff] at h
    obtain ⟨⟨h1, h2, h3⟩, h4, h5⟩ := h
    obtain ⟨m, rfl⟩ := Int.eq_ofNat_of_zero_le h2
    exact rbunch_ok f g j at_ m w h1 (by omega) h4 h5
  · rw [if_neg h, if_neg h]
    have H := Lib.hid h; clear h
    go_enter Try.func36, Try.ntmps36
    go_wp2_with (first | (go_at_call 49; refine (in_any _ _ _ _).mono ?_; rintro e w1 ⟨rfl, rfl⟩) | (go_at_call 27; refine (rvalid_any _ _ _ _).mono ?_; rintro e w1 ⟨rfl, hb1⟩; obtain ⟨hc1, hf1, hz1, hr1⟩ := bfacts hb1; (try simp only [World.size_alloc, World.size_setCell, World.size_drew, World.size_drewN] at hz1 hr1); (try have hw0 : w.heap.size < w1.heap.size := by omega); (try have hw1 : w.heap.size + 1 < w1.heap.size := by omega); (try have hw2 : w.heap.size + 1 + 1 < w1.heap.size := by omega)) | (go_prune; fail))
    all_goals first | (exfalso; apply H.out; simp only [bunchC, inB_eq, Bool.and_eq_true, decide_eq_true_eq]; simp_all [inB_eq]; done) | (go_ret2; exact ⟨none, 0, 0, rfl, World.ownsRow_nil _ _ _ _, by (repeat' (first | (with_reducible exact Below.refl _ _) | (with_reducible assumption) | (with_reducible refine Below.alloc ?_ ?_ _) | (with_reducible refine Below.drew ?_) | (with_reducible refine Below.draws ?_ _) | (with_reducible refine Below.setCell ?_ ?_ _) | (refine Below.then ?_ (by with_reducible assumption)) | go_size))⟩)
def denseL (first g : Int) (n : Nat) : List P2 := (List.range n).map fun (i : Nat) => ((first + i * g, 0) : P2)
theorem dense_step {w : World} {B n : Nat} {v : Value} {first g : Int} (h : w.ownsRow B 61 2 v (n + 1) ((denseL first g n).flatMap enc2 ++ [.int .i64 (first + n * g), .int .i64 0])) :
    w.ownsRow B 61 2 v (n + 1) ((denseL first g (n + 1)).flatMap enc2) := by
  have : denseL first g (n + 1) = denseL first g n ++ [(first + n * g, 0)] := by simp [denseL, List.range_succ]
  rw [this, List.flatMap_append]; exact h
def denseC (f g j n : Int) : Bool := vpat f g j && inB n 0 40
theorem densest_any (f g j n : Int) (w : World) : Calls Try.prog 33 #[patV f g j, .int .i64 n] w (OutP w.heap.size w (if denseC f g j n then denseL f g n.toNat else []) (if denseC f g j n then 0 else 1)) := by
  by_cases h : denseC f g j n = true
  · rw [if_pos h, if_pos h]
    simp only [denseC, Bool.and_eq_true, inB_iff] at h
    obtain ⟨h1, h2, h3⟩ := h
    obtain ⟨m, rfl⟩ := Int.eq_ofNat_of_zero_le h2
    rw [Int.toNat_natCast]
    obtain ⟨k1, k2, k3⟩ := vpat_iff.1 h1
    have hin : inB (m : Int) 0 40 = true := inB_iff.2 (by omega)
    have e2 := E2
    go_enter Try.func33, Try.ntmps33
    go_wp2_with (first | (go_at_call 48; refine (within_any _ _ _ _).mono ?_; rintro e w1 ⟨rfl, rfl⟩) | (go_at_call 26; refine (valid_any _ _ _ _).mono ?_; rintro e w1 ⟨rfl, hb1⟩; obtain ⟨hc1, hf1, hz1, hr1⟩ := bfacts hb1; (try simp only [World.size_alloc, World.size_setCell, World.size_drew, World.size_drewN] at hz1 hr1); (try have hw0 : w.heap.size < w1.heap.size := by omega); (try have hw1 : w.heap.size + 1 < w1.heap.size := by omega); (try have hw2 : w.heap.size + 1 + 1 < w1.heap.size := by omega)))
    go_loopw [6, 17] (fun v i wr => ∃ (n : Nat) (a : Option Addr) (c : Nat), n ≤ m ∧ i = .int .i64 n ∧ v = .slice a n c ∧ wr.ownsRow (w.heap.size + 1) 61 2 (.slice a n c) n ((denseL f g n).flatMap enc2) ∧ wr.cell? ⟨w.heap.size, 0, none⟩ = some (.int .i64 f) ∧ wr.cell? ⟨w.heap.size, 1, none⟩ = some (.int .i64 g) ∧ w.heap.size + 1 ≤ wr.heap.size ∧ Below w.heap.size w wr) (fun _ i _ => m - (intOf i).toNat)
    case atStart => exact ⟨0, none, 0, Nat.zero_le _, rfl, rfl, World.ownsRow_nil _ _ _ _, by rw [hc1 _ _ (by simp)]; simp [go_sem], by rw [hc1 _ _ (by simp)]; simp [go_sem], hw0, by (repeat' (first | (with_reducible exact Below.refl _ _) | (with_reducible assumption) | (with_reducible refine Below.alloc ?_ ?_ _) | (with_reducible refine Below.drew ?_) | (with_reducible refine Below.draws ?_ _) | (with_reducible refine Below.setCell ?_ ?_ _) | (refine Below.then ?_ (by with_reducible assumption)) | go_size))⟩
    case round =>
      obtain ⟨n, a, c, hn, rfl, rfl, hown, hg0, hg, hz, hB⟩ := hrel
      have HO := Lib.hid hown; clear hown
      have HB := Lib.hid hB; clear hB
      by_cases hlt : n < m
      · obtain ⟨q1, q2⟩ := mul_bd (a := (n : Int)) (m := 40) (by omega) (by omega) (b := g) (k := 10000) (by omega) (by omega)
        go_wp2_with (at_builtin; refine wpList_push rfl _ _ _ rfl e2 rfl HO.out rfl rfl (by intro u hu; simp at hu; rcases hu with rfl | rfl <;> rfl) (by omega) (by decide) (by omega) ?_; intro a' c' w2 hown' hb1; have HO' := Lib.hid hown'; have HB' := Lib.hid hb1; have hg3 := (hb1.cell (p := ⟨w.heap.size, 0, none⟩) (by simp)).trans hg0; have hg2 := (hb1.cell (p := ⟨w.heap.size, 1, none⟩) (by simp)).trans hg; have hz2 := hb1.size; clear hown' hb1)
        go_roundw
        case rel => exact ⟨n + 1, a', c', by omega, by go_num, rfl, dense_step HO'.out, hg3, hg2, by omega, HB.out.trans (HB'.out.mono (by omega))⟩
        case measure => simp [intOf]; omega
      · obtain rfl : n = m := by omega
        go_wp2
        go_ret2
        exact ⟨a, n, c, rfl, owns_mono HO.out (Nat.le_succ _), HB.out⟩
  · rw [if_neg h, if_neg h]
    have H := Lib.hid h; clear h
    go_enter Try.func33, Try.ntmps33
    go_wp2_with (first | (go_at_call 48; refine (within_any _ _ _ _).mono ?_; rintro e w1 ⟨rfl, rfl⟩) | (go_at_call 26; refine (valid_any _ _ _ _).mono ?_; rintro e w1 ⟨rfl, hb1⟩; obtain ⟨hc1, hf1, hz1, hr1⟩ := bfacts hb1; (try simp only [World.size_alloc, World.size_setCell, World.size_drew, World.size_drewN] at hz1 hr1); (try have hw0 : w.heap.size < w1.heap.size := by omega); (try have hw1 : w.heap.size + 1 < w1.heap.size := by omega); (try have hw2 : w.heap.size + 1 + 1 < w1.heap.size := by omega)) | (go_prune; fail))
    all_goals first | (exfalso; apply H.out; simp only [denseC, Bool.and_eq_true]; simp_all; done) | (go_ret2; exact ⟨none, 0, 0, rfl, World.ownsRow_nil _ _ _ _, by (repeat' (first | (with_reducible exact Below.refl _ _) | (with_reducible assumption) | (with_reducible refine Below.alloc ?_ ?_ _) | (with_reducible refine Below.drew ?_) | (with_reducible refine Below.draws ?_ _) | (with_reducible refine Below.setCell ?_ ?_ _) | (refine Below.then ?_ (by with_reducible assumption)) | go_size))⟩)
theorem rdensest_any (f g j n : Int) (w : World) : Calls Try.prog 34 #[patV f g j, .int .i64 n] w (OutP w.heap.size w (if denseC f g j n then denseL f g n.toNat else []) (if denseC f g j n then 0 else 1)) := by
  by_cases h : denseC f g j n = true
  · rw [if_pos h, if_pos h]
    simp only [denseC, Bool.and_eq_true, inB_iff] at h
    obtain ⟨h1, h2, h3⟩ := h
    obtain ⟨m, rfl⟩ := Int.eq_ofNat_of_zero_le h2
    rw [Int.toNat_natCast]
    obtain ⟨k1, k2, k3⟩ := vpat_iff.1 h1
    have hin : inB (m : Int) 0 40 = true := inB_iff.2 (by omega)
    have e2 := E2
    go_enter Try.func34, Try.ntmps34
    go_wp2_with (first | (go_at_call 49; refine (in_any _ _ _ _).mono ?_; rintro e w1 ⟨rfl, rfl⟩) | (go_at_call 27; refine (rvalid_any _ _ _ _).mono ?_; rintro e w1 ⟨rfl, hb1⟩; obtain ⟨hc1, hf1, hz1, hr1⟩ := bfacts hb1; (try simp only [World.size_alloc, World.size_setCell, World.size_drew, World.size_drewN] at hz1 hr1); (try have hw0 : w.heap.size < w1.heap.size := by omega); (try have hw1 : w.heap.size + 1 < w1.heap.size := by omega); (try have hw2 : w.heap.size + 1 + 1 < w1.heap.size := by omega)))
    go_loopw [6, 7] (fun v i wr => ∃ (n : Nat) (a : Option Addr) (c : Nat), n ≤ m ∧ i = .int .i64 n ∧ v = .slice a n c ∧ wr.ownsRow (w.heap.size + 1) 61 2 (.slice a n c) n ((denseL f g n).flatMap enc2) ∧ wr.cell? ⟨w.heap.size, 0, none⟩ = some (.int .i64 f) ∧ wr.cell? ⟨w.heap.size, 1, none⟩ = some (.int .i64 g) ∧ w.heap.size + 1 ≤ wr.heap.size ∧ Below w.heap.size w wr) (fun _ i _ => m - (intOf i).toNat)
    case atStart => exact ⟨0, none, 0, Nat.zero_le _, rfl, rfl, World.ownsRow_nil _ _ _ _, by rw [hc1 _ _ (by simp)]; simp [go_sem], by rw [hc1 _ _ (by simp)]; simp [go_sem], hw0, by (repeat' (first | (with_reducible exact Below.refl _ _) | (with_reducible assumption) | (with_reducible refine Below.alloc ?_ ?_ _) | (with_reducible refine Below.drew ?_) | (with_reducible refine Below.draws ?_ _) | (with_reducible refine Below.setCell ?_ ?_ _) | (refine Below.then ?_ (by with_reducible assumption)) | go_size))⟩
    case round =>
      obtain ⟨n, a, c, hn, rfl, rfl, hown, hg0, hg, hz, hB⟩ := hrel
      have HO := Lib.hid hown; clear hown
      have HB := Lib.hid hB; clear hB
      by_cases hlt : n < m
      · obtain ⟨q1, q2⟩ := mul_bd (a := (n : Int)) (m := 40) (by omega) (by omega) (b := g) (k := 10000) (by omega) (by omega)
        go_wp2_with (at_builtin; refine wpList_push rfl _ _ _ rfl e2 rfl HO.out rfl rfl (by intro u hu; simp at hu; rcases hu with rfl | rfl <;> rfl) (by omega) (by decide) (by omega) ?_; intro a' c' w2 hown' hb1; have HO' := Lib.hid hown'; have HB' := Lib.hid hb1; have hg3 := (hb1.cell (p := ⟨w.heap.size, 0, none⟩) (by simp)).trans hg0; have hg2 := (hb1.cell (p := ⟨w.heap.size, 1, none⟩) (by simp)).trans hg; have hz2 := hb1.size; clear hown' hb1)
        go_roundw
        case rel => exact ⟨n + 1, a', c', by omega, by go_num, rfl, dense_step HO'.out, hg3, hg2, by omega, HB.out.trans (HB'.out.mono (by omega))⟩
        case measure => simp [intOf]; omega
      · obtain rfl : n = m := by omega
        go_wp2
        go_ret2
        exact ⟨a, n, c, rfl, owns_mono HO.out (Nat.le_succ _), HB.out⟩
  · rw [if_neg h, if_neg h]
    have H := Lib.hid h; clear h
    go_enter Try.func34, Try.ntmps34
    go_wp2_with (first | (go_at_call 49; refine (in_any _ _ _ _).mono ?_; rintro e w1 ⟨rfl, rfl⟩) | (go_at_call 27; refine (rvalid_any _ _ _ _).mono ?_; rintro e w1 ⟨rfl, hb1⟩; obtain ⟨hc1, hf1, hz1, hr1⟩ := bfacts hb1; (try simp only [World.size_alloc, World.size_setCell, World.size_drew, World.size_drewN] at hz1 hr1); (try have hw0 : w.heap.size < w1.heap.size := by omega); (try have hw1 : w.heap.size + 1 < w1.heap.size := by omega); (try have hw2 : w.heap.size + 1 + 1 < w1.heap.size := by omega)) | (go_prune; fail))
    all_goals first | (exfalso; apply H.out; simp only [denseC, Bool.and_eq_true]; simp_all; done) | (go_ret2; exact ⟨none, 0, 0, rfl, World.ownsRow_nil _ _ _ _, by (repeat' (first | (with_reducible exact Below.refl _ _) | (with_reducible assumption) | (with_reducible refine Below.alloc ?_ ?_ _) | (with_reducible refine Below.drew ?_) | (with_reducible refine Below.draws ?_ _) | (with_reducible refine Below.setCell ?_ ?_ _) | (refine Below.then ?_ (by with_reducible assumption)) | go_size))⟩)
end Go.Proofs.Ytfiggbeaomkepaa
