/- The contracts of Valid and Least of supply and of its reference. The conditions: numbers in range where named. -/
import Derived.Test.YtabbmnnohnfbeaaRsPure
import Derived.Test.YtabbmnnohnfbeaaIrow
import Derived.Deep.RegionHeld3
namespace Go.Proofs.Ytabbmnnohnfbeaa
open Go.RowKit
set_option linter.unusedSimpArgs false
set_option linter.unusedVariables false
theorem swithin_any (n a b : Int) (w : World) : Calls Try.prog 63 #[.int .i64 n, .int .i64 a, .int .i64 b] w fun e w' => e = .returned (.bool (inB n a b)) ∧ w = w' := by
  go_enter Try.func63, Try.ntmps63
  go_wp2
  all_goals (go_ret; exact ⟨ret_bool (by rw [inB_eq]; simp [*]; try omega), rfl⟩)
theorem sin_any (n a b : Int) (w : World) : Calls Try.prog 82 #[.int .i64 n, .int .i64 a, .int .i64 b] w fun e w' => e = .returned (.bool (inB n a b)) ∧ w = w' := by
  go_enter Try.func82, Try.ntmps82
  go_wp2
  all_goals (go_ret; exact ⟨ret_bool (by rw [inB_eq]; simp [*]; try omega), rfl⟩)
theorem swithin_is {n a b : Int} {x : Bool} {w : World} (h : inB n a b = x) : Calls Try.prog 63 #[.int .i64 n, .int .i64 a, .int .i64 b] w fun e w' => e = .returned (.bool x) ∧ w = w' := by subst h; exact swithin_any n a b w
theorem sin_is {n a b : Int} {x : Bool} {w : World} (h : inB n a b = x) : Calls Try.prog 82 #[.int .i64 n, .int .i64 a, .int .i64 b] w fun e w' => e = .returned (.bool x) ∧ w = w' := by subst h; exact sin_any n a b w
theorem supB_iff {F S : Int} : supB F S = true ↔ (1 ≤ F ∧ F ≤ 60) ∧ (0 ≤ S ∧ S ≤ F - 1) := by unfold supB; rw [Bool.and_eq_true, inB_iff, inB_iff]
theorem supV_any (F S : Int) (w : World) : Calls Try.prog 62 #[.agg #[.int .i64 F, .int .i64 S]] w fun e w' => e = .returned (.bool (supB F S)) ∧ Below w.heap.size w w' := by
  obtain ⟨x, hx⟩ : ∃ x, inB F 1 60 = x := ⟨_, rfl⟩
  have HX := Lib.hid hx
  unfold supB
  rw [hx]
  cases x
  · clear hx
    go_enter Try.func62, Try.ntmps62
    go_wp2_with (go_at_call 63; refine (swithin_is HX.out).mono ?_; rintro e w1 ⟨rfl, rfl⟩)
    go_ret
    exact ⟨rfl, by (repeat' (first | (with_reducible exact Below.refl _ _) | (with_reducible assumption) | (with_reducible refine Below.alloc ?_ ?_ _) | (with_reducible refine Below.drew ?_) | (with_reducible refine Below.draws ?_ _) | (with_reducible refine Below.setCell ?_ ?_ _) | (refine Below.then ?_ (by with_reducible assumption)) | go_size))⟩
  · obtain ⟨y, hy⟩ : ∃ y, inB S 0 (F - 1) = y := ⟨_, rfl⟩
    have HY := Lib.hid hy
    rw [hy]
    have hF := inB_iff.1 hx
    clear hx hy
    go_enter Try.func62, Try.ntmps62
    go_wp2_with (first | (go_at_call 63; (with_reducible refine (swithin_is HX.out).mono ?_); rintro e w1 ⟨rfl, rfl⟩) | (go_at_call 63; (with_reducible refine (swithin_is HY.out).mono ?_); rintro e w1 ⟨rfl, rfl⟩))
    go_ret
    exact ⟨rfl, by (repeat' (first | (with_reducible exact Below.refl _ _) | (with_reducible assumption) | (with_reducible refine Below.alloc ?_ ?_ _) | (with_reducible refine Below.drew ?_) | (with_reducible refine Below.draws ?_ _) | (with_reducible refine Below.setCell ?_ ?_ _) | (refine Below.then ?_ (by with_reducible assumption)) | go_size))⟩
theorem rsupV_any (F S : Int) (w : World) : Calls Try.prog 42 #[.agg #[.int .i64 F, .int .i64 S]] w fun e w' => e = .returned (.bool (supB F S)) ∧ Below w.heap.size w w' := by
  obtain ⟨x, hx⟩ : ∃ x, inB F 1 60 = x := ⟨_, rfl⟩
  have HX := Lib.hid hx
  unfold supB
  rw [hx]
  cases x
  · clear hx
    go_enter Try.func42, Try.ntmps42
    go_wp2_with (go_at_call 82; refine (sin_is HX.out).mono ?_; rintro e w1 ⟨rfl, rfl⟩)
    go_ret
    exact ⟨rfl, by (repeat' (first | (with_reducible exact Below.refl _ _) | (with_reducible assumption) | (with_reducible refine Below.alloc ?_ ?_ _) | (with_reducible refine Below.drew ?_) | (with_reducible refine Below.draws ?_ _) | (with_reducible refine Below.setCell ?_ ?_ _) | (refine Below.then ?_ (by with_reducible assumption)) | go_size))⟩
  · obtain ⟨y, hy⟩ : ∃ y, inB S 0 (F - 1) = y := ⟨_, rfl⟩
    have HY := Lib.hid hy
    rw [hy]
    have hF := inB_iff.1 hx
    clear hx hy
    go_enter Try.func42, Try.ntmps42
    go_wp2_with (first | (go_at_call 82; (with_reducible refine (sin_is HX.out).mono ?_); rintro e w1 ⟨rfl, rfl⟩) | (go_at_call 82; (with_reducible refine (sin_is HY.out).mono ?_); rintro e w1 ⟨rfl, rfl⟩))
    go_ret
    exact ⟨rfl, by (repeat' (first | (with_reducible exact Below.refl _ _) | (with_reducible assumption) | (with_reducible refine Below.alloc ?_ ?_ _) | (with_reducible refine Below.drew ?_) | (with_reducible refine Below.draws ?_ _) | (with_reducible refine Below.setCell ?_ ?_ _) | (refine Below.then ?_ (by with_reducible assumption)) | go_size))⟩
theorem supV_is {F S : Int} {b : Bool} {w : World} (h : supB F S = b) : Calls Try.prog 62 #[.agg #[.int .i64 F, .int .i64 S]] w fun e w' => e = .returned (.bool b) ∧ Below w.heap.size w w' := by subst h; exact supV_any F S w
theorem rsupV_is {F S : Int} {b : Bool} {w : World} (h : supB F S = b) : Calls Try.prog 42 #[.agg #[.int .i64 F, .int .i64 S]] w fun e w' => e = .returned (.bool b) ∧ Below w.heap.size w w' := by subst h; exact rsupV_any F S w
theorem aheadS_parts {F S : Int} (h1 : 1 ≤ F) (h2 : 0 ≤ S ∧ S ≤ F - 1) {t : Int} (h0 : 0 ≤ t) : 0 ≤ t / F ∧ t / F ≤ t ∧ 0 ≤ t / F * (F - S) ∧ t / F * (F - S) ≤ t ∧ 0 ≤ t % F ∧ t % F < F := by
  have e := Int.emod_add_mul_ediv t F
  have a := Int.ediv_nonneg (a := t) (b := F) h0 (by omega)
  have b := Int.ediv_le_self F h0
  have c := Int.emod_nonneg t (show F ≠ 0 by omega)
  have d := Int.emod_lt_of_pos t (show 0 < F by omega)
  have f := Int.mul_nonneg a (show 0 ≤ F - S by omega)
  have g : t / F * (F - S) ≤ t / F * F := Int.mul_le_mul_of_nonneg_left (by omega) a
  rw [Int.mul_comm (t / F) F] at g
  omega
theorem sahead_any (F S t : Int) (w : World) (h1 : 1 ≤ F ∧ F ≤ 60) (h2 : 0 ≤ S ∧ S ≤ F - 1) (h3 : 0 ≤ t ∧ t ≤ 2000000) :
    Calls Try.prog 106 #[.agg #[.int .i64 F, .int .i64 S, .int .i64 (F - S)], .int .i64 t] w fun e w' => e = .returned (.int .i64 (aheadS F S t)) ∧ Below w.heap.size w w' := by
  obtain ⟨q1, q2, q3, q4, q5, q6⟩ := aheadS_parts (F := F) (S := S) h1.1 h2 h3.1
  have hF0 : (F == 0) = false := by simp; omega
  go_enter Try.func106, Try.ntmps106
  go_wp2_with (refine wp_region_later_lit (by kernel_rfl) (by kernel_rfl) ?_; (repeat (go_big_quiet_step (fail))); refine wpQuiet_nil ?_; intro w3 hb3)
  go_ret
  exact ⟨ret_int (by unfold aheadS; omega), Below.then (Below.alloc (Below.refl _ _) (Nat.le_refl _) _) hb3⟩
theorem rahd_any (F S t : Int) (w : World) (h1 : 1 ≤ F ∧ F ≤ 60) (h2 : 0 ≤ S ∧ S ≤ F - 1) (h3 : 0 ≤ t ∧ t ≤ 2000000) :
    Calls Try.prog 118 #[.agg #[.int .i64 F, .int .i64 S], .int .i64 t] w fun e w' => e = .returned (.int .i64 (aheadS F S t)) ∧ Below w.heap.size w w' := by
  obtain ⟨q1, q2, q3, q4, q5, q6⟩ := aheadS_parts (F := F) (S := S) h1.1 h2 h3.1
  have hF0 : (F == 0) = false := by simp; omega
  go_enter Try.func118, Try.ntmps118
  go_wp2_with (refine wp_region_later_lit (by kernel_rfl) (by kernel_rfl) ?_; (repeat (go_big_quiet_step (fail))); refine wpQuiet_nil ?_; intro w3 hb3)
  go_ret
  exact ⟨ret_int (by unfold aheadS; omega), Below.then (Below.alloc (Below.refl _ _) (Nat.le_refl _) _) hb3⟩
theorem rahd_is {F S t x : Int} {w : World} (h1 : 1 ≤ F ∧ F ≤ 60) (h2 : 0 ≤ S ∧ S ≤ F - 1) (h3 : 0 ≤ t ∧ t ≤ 2000000) (h : aheadS F S t = x) :
    Calls Try.prog 118 #[.agg #[.int .i64 F, .int .i64 S], .int .i64 t] w fun e w' => e = .returned (.int .i64 x) ∧ Below w.heap.size w w' := by subst h; exact rahd_any F S t w h1 h2 h3
theorem program_any (F S : Int) (w : World) (h1 : 1 ≤ F ∧ F ≤ 60) (h2 : 0 ≤ S ∧ S ≤ F - 1) :
    Calls Try.prog 64 #[.agg #[.int .i64 F, .int .i64 S]] w fun e w' => e = .returned (.agg #[.int .i64 F, .int .i64 S, .int .i64 (F - S)]) ∧ Below w.heap.size w w' := by
  go_enter Try.func64, Try.ntmps64
  go_wp2
  refine bodyPost_ret (v := .agg #[.int .i64 F, .int .i64 S, .int .i64 (F - S)]) (by simp [results, Try.results64, go_sem]) rfl ⟨rfl, by (repeat' (first | (with_reducible exact Below.refl _ _) | (with_reducible assumption) | (with_reducible refine Below.alloc ?_ ?_ _) | (with_reducible refine Below.drew ?_) | (with_reducible refine Below.draws ?_ _) | (with_reducible refine Below.setCell ?_ ?_ _) | (refine Below.then ?_ (by with_reducible assumption)) | go_size))⟩
theorem diff_parts {F S : Int} (h1 : 1 ≤ F ∧ F ≤ 60) (h2 : 0 ≤ S ∧ S ≤ F - 1) {t : Int} (h0 : 0 ≤ t) : 0 ≤ aheadS F S t ∧ aheadS F S t ≤ t := by
  obtain ⟨k, rfl⟩ := Int.eq_ofNat_of_zero_le h0
  exact aheadS_bd h2.1 (by omega) k
/-- the closure that tells how much lies in a window from a tick on -/
theorem winf_any (F S v : Int) (k : Nat) (p q : Nat) (w : World) (h1 : 1 ≤ F ∧ F ≤ 60) (h2 : 0 ≤ S ∧ S ≤ F - 1) (h3 : 0 ≤ v ∧ v ≤ 1000000) (hk : k ≤ 60)
    (hp : w.cell? ⟨p, 0, none⟩ = some (.int .i64 F) ∧ w.cell? ⟨p, 1, none⟩ = some (.int .i64 S) ∧ w.cell? ⟨p, 2, none⟩ = some (.int .i64 (F - S))) (hq : w.cell? ⟨q, 0, none⟩ = some (.int .i64 v)) (hpw : p < w.heap.size) (hqw : q < w.heap.size) :
    Calls Try.prog 105 #[.int .i64 (k : Int), .pointer (some ⟨p, 0, none⟩), .pointer (some ⟨q, 0, none⟩)] w fun e w' => e = .returned (.int .i64 (diffS F S v k)) ∧ Below w.heap.size w w' := by
  obtain ⟨p0, p1, p2⟩ := hp
  have a1 := diff_parts h1 h2 (t := (k : Int)) (by omega)
  have a2 := diff_parts h1 h2 (t := (k : Int) + v) (by omega)
  unfold diffS
  go_enter Try.func105, Try.ntmps105
  go_wp2_with (refine wp_region_later_lit (by kernel_rfl) (by kernel_rfl) ?_; (repeat (go_big_quiet_step ((go_at_call 106; first | (with_reducible exact later_of (sahead_any F S ((k : Int) + v) _ h1 h2 (by omega))) | (with_reducible exact later_of (sahead_any F S (k : Int) _ h1 h2 (by omega))))))); refine wpQuiet_nil ?_; intro w3 hb3)
  go_ret
  exact ⟨rfl, hb3⟩
/-- what the closure has captured -/
structure WinC (F S v : Int) (p q : Nat) (w : World) : Prop where
  c0 : w.cell? ⟨p, 0, none⟩ = some (.int .i64 F)
  c1 : w.cell? ⟨p, 1, none⟩ = some (.int .i64 S)
  c2 : w.cell? ⟨p, 2, none⟩ = some (.int .i64 (F - S))
  cq : w.cell? ⟨q, 0, none⟩ = some (.int .i64 v)
  hp : p < w.heap.size
  hq : q < w.heap.size
theorem WinC.ext {F S v : Int} {p q : Nat} {w w' : World} (h : WinC F S v p q w) (hb : Below w.heap.size w w') : WinC F S v p q w' :=
  ⟨(hb.cell (p := ⟨p, 0, none⟩) h.hp).trans h.c0, (hb.cell (p := ⟨p, 1, none⟩) h.hp).trans h.c1, (hb.cell (p := ⟨p, 2, none⟩) h.hp).trans h.c2, (hb.cell (p := ⟨q, 0, none⟩) h.hq).trans h.cq, Nat.lt_of_lt_of_le h.hp hb.size, Nat.lt_of_lt_of_le h.hq hb.size⟩
theorem z0 : (0 : Int) = ((0 : Nat) : Int) := rfl
theorem winf_is {F S v x kv : Int} {k p q : Nat} {w : World} (hkv : kv = (k : Int)) (h1 : 1 ≤ F ∧ F ≤ 60) (h2 : 0 ≤ S ∧ S ≤ F - 1) (h3 : 0 ≤ v ∧ v ≤ 1000000) (hk : k ≤ 60) (hc : WinC F S v p q w) (hx : diffS F S v k = x) :
    Calls Try.prog 105 #[.int .i64 kv, .pointer (some ⟨p, 0, none⟩), .pointer (some ⟨q, 0, none⟩)] w fun e w' => e = .returned (.int .i64 x) ∧ Below w.heap.size w w' := by
  subst hkv; subst hx; exact winf_any F S v k p q w h1 h2 h3 hk ⟨hc.c0, hc.c1, hc.c2⟩ hc.cq hc.hp hc.hq
theorem less_is {a b : Int} {x : Bool} {w : World} (h : decide (a < b) = x) : Calls Try.prog 67 #[.int .i64 a, .int .i64 b] w fun e w' => e = .returned (.bool x) ∧ w = w' := by
  go_enter Try.func67, Try.ntmps67
  go_wp2
  go_ret
  exact ⟨rfl, rfl⟩
theorem window_any (F S v : Int) (w : World) :
    Calls Try.prog 66 #[.agg #[.int .i64 F, .int .i64 S, .int .i64 (F - S)], .int .i64 v] w fun e w' => ∃ p q, e = .returned (.func (.func 105) #[] #[.pointer (some ⟨p, 0, none⟩), .pointer (some ⟨q, 0, none⟩)]) ∧ WinC F S v p q w' ∧ Below w.heap.size w w' := by
  go_enter Try.func66, Try.ntmps66
  go_wp2
  go_ret
  exact ⟨_, _, rfl, ⟨by simp [go_sem], by simp [go_sem], by simp [go_sem], by simp [go_sem], by simp; omega, by simp⟩, by (repeat' (first | (with_reducible exact Below.refl _ _) | (with_reducible assumption) | (with_reducible refine Below.alloc ?_ ?_ _) | (with_reducible refine Below.drew ?_) | (with_reducible refine Below.draws ?_ _) | (with_reducible refine Below.setCell ?_ ?_ _) | (refine Below.then ?_ (by with_reducible assumption)) | go_size))⟩
set_option maxHeartbeats 1000000 in
theorem extreme_any (F S v : Int) (p q : Nat) (w : World) (h1 : 1 ≤ F ∧ F ≤ 60) (h2 : 0 ≤ S ∧ S ≤ F - 1) (h3 : 0 ≤ v ∧ v ≤ 1000000) (hc : WinC F S v p q w) :
    Calls Try.prog 65 #[.agg #[.int .i64 F, .int .i64 S, .int .i64 (F - S)], .func (.func 105) #[] #[.pointer (some ⟨p, 0, none⟩), .pointer (some ⟨q, 0, none⟩)], .func (.func 67) #[] #[]] w fun e w' => e = .returned (.int .i64 (leastN F S v)) ∧ Below w.heap.size w w' := by
  obtain ⟨f, rfl⟩ := Int.eq_ofNat_of_zero_le (show 0 ≤ F by omega)
  obtain ⟨x0, hx0⟩ : ∃ x, diffS f S v 0 = x := ⟨_, rfl⟩
  obtain ⟨R, hR⟩ : ∃ R, leastN f S v = R := ⟨_, rfl⟩
  obtain ⟨u, rfl⟩ := Int.eq_ofNat_of_zero_le h3.1
  have HST : Hid (leastFrom f S u (f - 1) 1 x0 = R) := Lib.hid (by rw [← hR, ← hx0, ← least_from_first h2.1 (by omega) u]; rfl)
  rw [hR]
  have HX0 := Lib.hid hx0
  have HC := Lib.hid (hc.ext (Below.alloc (Below.refl _ _) (Nat.le_refl _) (.cells #[.int .i64 f, .int .i64 S, .int .i64 (f - S)] 77)))
  have hf60 : f ≤ 60 := by omega
  have hf1 : 1 ≤ f := by omega
  clear hc hx0 hR
  go_enter Try.func65, Try.ntmps65
  go_wp2_with (go_at_call 105; (with_reducible refine (winf_is (k := 0) z0 h1 h2 h3 (by omega) HC.out HX0.out).mono ?_); rintro e w1 ⟨rfl, hb1⟩; have B1 := Lib.hid hb1; have c0 := (hb1.cell (p := ⟨w.heap.size, 0, none⟩) (by simp)).trans (show _ = some (.int .i64 (f : Int)) by simp [go_sem]); have hz := hb1.size; clear hb1)
  go_loopw [7, 8] (fun v i wr => ∃ (k : Nat) (m : Int), 1 ≤ k ∧ k ≤ f ∧ v = .int .i64 m ∧ i = .int .i64 k ∧ leastFrom f S u (f - k) k m = R ∧ Below w1.heap.size w1 wr) (fun _ i _ => f - (intOf i).toNat)
  case atStart => exact ⟨1, x0, Nat.le_refl _, hf1, rfl, rfl, HST.out, Below.refl _ _⟩
  case round =>
    clear HST
    obtain ⟨k, m, hk1, hk, rfl, rfl, he, hB⟩ := hrel
    have HE := Lib.hid he; have HB := Lib.hid hB
    have d0 := (hB.cell (p := ⟨w.heap.size, 0, none⟩) (by simp at hz; simp only []; omega)).trans c0
    clear he hB
    by_cases hlt : k < f
    · obtain ⟨x, hx⟩ : ∃ x, diffS f S u k = x := ⟨_, rfl⟩
      have HX := Lib.hid hx
      have hE := HE.out
      rw [show f - k = (f - (k + 1)) + 1 by omega, leastFrom, hx] at hE
      clear hx
      by_cases hxm : x < m
      · have hd : decide (x < m) = true := decide_eq_true hxm
        have HE2 : Hid (leastFrom f S u (f - (k + 1)) (k + 1) x = R) := Lib.hid (by rw [← hE]; congr 1; omega)
        have HD := Lib.hid hd
        clear hd hE
        go_wp2_with (first
          | (go_at_call 105; (with_reducible refine (winf_is (k := k) rfl h1 h2 h3 (by omega) ((HC.out.ext B1.out).ext HB.out) HX.out).mono ?_); rintro e w3 ⟨rfl, hb3⟩; have B3 := Lib.hid hb3; clear hb3)
          | (go_at_call 67; (with_reducible refine (less_is HD.out).mono ?_); rintro e w4 ⟨rfl, rfl⟩))
        go_roundw
        case rel => exact ⟨k + 1, x, by omega, by omega, rfl, by go_num, HE2.out, Below.then HB.out B3.out⟩
        case measure => simp [intOf]; omega
      · have hd : decide (x < m) = false := decide_eq_false hxm
        have HE2 : Hid (leastFrom f S u (f - (k + 1)) (k + 1) m = R) := Lib.hid (by rw [← hE]; congr 1; omega)
        have HD := Lib.hid hd
        clear hd hE
        go_wp2_with (first
          | (go_at_call 105; (with_reducible refine (winf_is (k := k) rfl h1 h2 h3 (by omega) ((HC.out.ext B1.out).ext HB.out) HX.out).mono ?_); rintro e w3 ⟨rfl, hb3⟩; have B3 := Lib.hid hb3; clear hb3)
          | (go_at_call 67; (with_reducible refine (less_is HD.out).mono ?_); rintro e w4 ⟨rfl, rfl⟩))
        go_roundw
        case rel => exact ⟨k + 1, m, by omega, by omega, rfl, by go_num, HE2.out, Below.then HB.out B3.out⟩
        case measure => simp [intOf]; omega
    · have hE := HE.out
      rw [show f - k = 0 by omega, leastFrom] at hE
      subst hE
      go_wp2
      go_ret
      exact ⟨rfl, Below.then (Below.then (Below.alloc (Below.refl _ _) (Nat.le_refl _) _) B1.out) HB.out⟩
/-- what Least gives -/
def lstR (F S v : Int) : Int × Int := if supB F S && inB v 0 1000000 then (leastN F S v, 0) else (0, 1)
set_option maxRecDepth 10000 in
set_option maxHeartbeats 1000000 in
theorem Least_any (F S v : Int) (w : World) : Calls Try.prog 26 #[.agg #[.int .i64 F, .int .i64 S], .int .i64 v] w fun e w' => e = rII (lstR F S v).1 (lstR F S v).2 ∧ Below w.heap.size w w' := by
  unfold lstR
  cases hs : supB F S
  · have HS := Lib.hid hs
    clear hs
    go_enter Try.func26, Try.ntmps26
    go_wp2_with (go_at_call 62; (with_reducible refine (supV_is HS.out).mono ?_); rintro e w1 ⟨rfl, hb1⟩; have B1 := Lib.hid hb1; clear hb1)
    go_ret2
    exact ⟨rII_eq rfl rfl, Below.then (Below.alloc (Below.refl _ _) (Nat.le_refl _) _) B1.out⟩
  · have HS := Lib.hid hs
    obtain ⟨h1, h2⟩ := supB_iff.1 hs
    rw [Bool.true_and]
    cases hv : inB v 0 1000000
    · have HV := Lib.hid hv
      clear hs hv
      go_enter Try.func26, Try.ntmps26
      go_wp2_with (first
        | (go_at_call 62; (with_reducible refine (supV_is HS.out).mono ?_); rintro e w1 ⟨rfl, hb1⟩; have B1 := Lib.hid hb1; clear hb1)
        | (go_at_call 63; (with_reducible refine (swithin_is HV.out).mono ?_); rintro e w2 ⟨rfl, rfl⟩))
      go_ret2
      exact ⟨rII_eq rfl rfl, Below.then (Below.alloc (Below.refl _ _) (Nat.le_refl _) _) B1.out⟩
    · have HV := Lib.hid hv
      have h3 := inB_iff.1 hv
      rw [if_pos rfl]
      clear hs hv
      go_enter Try.func26, Try.ntmps26
      go_wp2_with (first
        | (go_at_call 62; (with_reducible refine (supV_is HS.out).mono ?_); rintro e w1 ⟨rfl, hb1⟩; have B1 := Lib.hid hb1; have c0 := (hb1.cell (p := ⟨w.heap.size, 0, none⟩) (by simp)).trans (show _ = some (.int .i64 F) by simp [go_sem]); have c1 := (hb1.cell (p := ⟨w.heap.size, 1, none⟩) (by simp)).trans (show _ = some (.int .i64 S) by simp [go_sem]); have hz1 := hb1.size; clear hb1)
        | (go_at_call 63; (with_reducible refine (swithin_is HV.out).mono ?_); rintro e w2 ⟨rfl, rfl⟩))
      have HW1 : Hid (Below w.heap.size w w1.drew) := Lib.hid (Below.then (Below.alloc (Below.refl _ _) (Nat.le_refl _) _) B1.out).drew
      go_region_held3 (fun w' => w'.cell? ⟨w.heap.size, 0, none⟩ = some (.int .i64 F) ∧ w'.cell? ⟨w.heap.size, 1, none⟩ = some (.int .i64 S))
        (first | go_keep)
        (first
          | (go_at_call 64; (with_reducible refine (program_any F S _ h1 h2).mono ?_); rintro e w3 ⟨rfl, hb3⟩; have B3 := Lib.hid hb3; have k0 := (hb3.cell (p := ⟨w.heap.size, 0, none⟩) (by simp at *; omega)).trans (show _ = some (.int .i64 F) by simp [*]); have k1 := (hb3.cell (p := ⟨w.heap.size, 1, none⟩) (by simp at *; omega)).trans (show _ = some (.int .i64 S) by simp [*]); have hz := hb3.size; clear hb3)
          | (go_at_call 66; (with_reducible refine (window_any F S v _).mono ?_); rintro e w4 ⟨p, q, rfl, hwc, hb4⟩; have HWC := Lib.hid hwc; have B4 := Lib.hid hb4; have k0 := (hb4.cell (p := ⟨w.heap.size, 0, none⟩) (by simp at *; omega)).trans (show _ = some (.int .i64 F) by simp [*]); have k1 := (hb4.cell (p := ⟨w.heap.size, 1, none⟩) (by simp at *; omega)).trans (show _ = some (.int .i64 S) by simp [*]); have hz := hb4.size; clear hb4 hwc)
          | (go_at_call 65; (with_reducible refine (extreme_any F S v p q _ h1 h2 h3 (HWC.out.ext (by repeat (first | (with_reducible exact Below.refl _ _) | (refine Below.then ?_ (Hid.out (by with_reducible assumption))))))).mono ?_); rintro e w5 ⟨rfl, hb5⟩; have B5 := Lib.hid hb5; have k0 := (hb5.cell (p := ⟨w.heap.size, 0, none⟩) (by simp at *; omega)).trans (show _ = some (.int .i64 F) by simp [*]); have k1 := (hb5.cell (p := ⟨w.heap.size, 1, none⟩) (by simp at *; omega)).trans (show _ = some (.int .i64 S) by simp [*]); have hz := hb5.size; clear hb5))
      all_goals
        go_wp2_with fail
        go_ret2
        exact ⟨rII_eq rfl rfl, (by repeat (first | (with_reducible exact Below.refl _ _) | (refine Below.then ?_ (Hid.out (by with_reducible assumption)))))⟩
set_option maxRecDepth 10000 in
set_option maxHeartbeats 1000000 in
theorem rLeast_any (F S v : Int) (w : World) : Calls Try.prog 79 #[.agg #[.int .i64 F, .int .i64 S], .int .i64 v] w fun e w' => e = rII (lstR F S v).1 (lstR F S v).2 ∧ Below w.heap.size w w' := by
  unfold lstR
  cases hs : supB F S
  · have HS := Lib.hid hs
    clear hs
    go_enter Try.func79, Try.ntmps79
    go_wp2_with (go_at_call 42; (with_reducible refine (rsupV_is HS.out).mono ?_); rintro e w1 ⟨rfl, hb1⟩; have B1 := Lib.hid hb1; clear hb1)
    go_ret2
    exact ⟨rII_eq rfl rfl, Below.then (Below.alloc (Below.refl _ _) (Nat.le_refl _) _) B1.out⟩
  · have HS := Lib.hid hs
    obtain ⟨h1, h2⟩ := supB_iff.1 hs
    rw [Bool.true_and]
    cases hv : inB v 0 1000000
    · have HV := Lib.hid hv
      clear hs hv
      go_enter Try.func79, Try.ntmps79
      go_wp2_with (first
        | (go_at_call 42; (with_reducible refine (rsupV_is HS.out).mono ?_); rintro e w1 ⟨rfl, hb1⟩; have B1 := Lib.hid hb1; clear hb1)
        | (go_at_call 82; (with_reducible refine (sin_is HV.out).mono ?_); rintro e w2 ⟨rfl, rfl⟩))
      go_ret2
      exact ⟨rII_eq rfl rfl, Below.then (Below.alloc (Below.refl _ _) (Nat.le_refl _) _) B1.out⟩
    · have HV := Lib.hid hv
      have h3 := inB_iff.1 hv
      rw [if_pos rfl]
      obtain ⟨f, rfl⟩ := Int.eq_ofNat_of_zero_le (show 0 ≤ F by omega)
      obtain ⟨u, rfl⟩ := Int.eq_ofNat_of_zero_le h3.1
      obtain ⟨R, hR⟩ : ∃ R, leastN f S u = R := ⟨_, rfl⟩
      have HST : Hid (leastFrom f S u (f - 0) 0 u = R) := Lib.hid (by rw [← hR]; rfl)
      simp only []
      rw [hR]
      clear hs hv hR
      go_enter Try.func79, Try.ntmps79
      go_wp2_with (first
        | (go_at_call 42; (with_reducible refine (rsupV_is HS.out).mono ?_); rintro e w1 ⟨rfl, hb1⟩; have B1 := Lib.hid hb1; have c0 := (hb1.cell (p := ⟨w.heap.size, 0, none⟩) (by simp)).trans (show _ = some (.int .i64 (f : Int)) by simp [go_sem]); have c1 := (hb1.cell (p := ⟨w.heap.size, 1, none⟩) (by simp)).trans (show _ = some (.int .i64 S) by simp [go_sem]); have hz1 := hb1.size; clear hb1)
        | (go_at_call 82; (with_reducible refine (sin_is HV.out).mono ?_); rintro e w2 ⟨rfl, rfl⟩))
      simp only [World.size_alloc] at hz1
      go_loopw [6, 7] (fun v i wr => ∃ (k : Nat) (m : Int), k ≤ f ∧ v = .int .i64 m ∧ i = .int .i64 k ∧ leastFrom f S u (f - k) k m = R ∧ Below w1.heap.size w1 wr) (fun _ i _ => f - (intOf i).toNat)
      case atStart => exact ⟨0, u, Nat.zero_le _, rfl, rfl, HST.out, Below.refl _ _⟩
      case round =>
        clear HST
        obtain ⟨k, m, hk, rfl, rfl, he, hB⟩ := hrel
        have HE := Lib.hid he; have HB := Lib.hid hB
        have d0 := (hB.cell (p := ⟨w.heap.size, 0, none⟩) (by simp only []; omega)).trans c0
        have d1 := (hB.cell (p := ⟨w.heap.size, 1, none⟩) (by simp only []; omega)).trans c1
        have hzr := hB.size
        clear he hB
        by_cases hlt : k < f
        · obtain ⟨x1, hx1⟩ : ∃ x, aheadS f S ((k : Int) + u) = x := ⟨_, rfl⟩
          obtain ⟨x2, hx2⟩ : ∃ x, aheadS f S (k : Int) = x := ⟨_, rfl⟩
          have a1 := diff_parts h1 h2 (t := (k : Int)) (by omega)
          have a2 := diff_parts h1 h2 (t := (k : Int) + u) (by omega)
          rw [hx1] at a2
          rw [hx2] at a1
          have hE := HE.out
          rw [show f - k = (f - (k + 1)) + 1 by omega, leastFrom, diffS, hx1, hx2] at hE
          have HE2 := Lib.hid hE
          have HX1 := Lib.hid hx1
          have HX2 := Lib.hid hx2
          have hbw : w.heap.size < wr.heap.size := by omega
          clear hE HE hx1 hx2
          go_wp2_with (refine wp_region_later_lit (by kernel_rfl) (by kernel_rfl) ?_; (repeat (go_big_quiet_step ((go_at_call 118; first | (with_reducible exact later_of (rahd_is h1 h2 (by omega) HX1.out)) | (with_reducible exact later_of (rahd_is h1 h2 (by omega) HX2.out)))))); refine wpQuiet_nil ?_; intro w3 hb3)
          go_roundw
          case rel => exact ⟨k + 1, min m (x1 - x2), by omega, rfl, by go_num, HE2.out, Below.then HB.out hb3⟩
          case measure => simp [intOf]; omega
        · have hE := HE.out
          rw [show f - k = 0 by omega, leastFrom] at hE
          subst hE
          go_wp2
          go_ret2
          exact ⟨rII_eq rfl rfl, Below.then (Below.then (Below.alloc (Below.refl _ _) (Nat.le_refl _) _) B1.out) HB.out⟩
theorem Least_is {F S v x e : Int} {w : World} (h : lstR F S v = (x, e)) : Calls Try.prog 26 #[.agg #[.int .i64 F, .int .i64 S], .int .i64 v] w fun en w' => en = rII x e ∧ Below w.heap.size w w' := by
  have := Least_any F S v w
  rw [h] at this; exact this
theorem rLeast_is {F S v x e : Int} {w : World} (h : lstR F S v = (x, e)) : Calls Try.prog 79 #[.agg #[.int .i64 F, .int .i64 S], .int .i64 v] w fun en w' => en = rII x e ∧ Below w.heap.size w w' := by
  have := rLeast_any F S v w
  rw [h] at this; exact this
theorem lstR_ok {F S : Int} (hs : supB F S = true) {w : Nat} (hw : w ≤ 1000000) : lstR F S w = (leastN F S w, 0) := by
  unfold lstR; rw [hs, show inB (w : Int) 0 1000000 = true from inB_iff.2 (by omega)]; rfl
end Go.Proofs.Ytabbmnnohnfbeaa
