/- The contracts of window, response, meets, accepted, right of response and window, meets, accepted, ready of its reference. The conditions: the tasks read as named and are valid, the supply too. -/
import Derived.Test.YtabbmnnohnfbeaaRsDemR
namespace Go.Proofs.Ytabbmnnohnfbeaa
open Go.RowKit
set_option linter.unusedSimpArgs false
set_option linter.unusedVariables false
theorem demf_is {a : Option Addr} {n c q o h b : Nat} {L : List Ta} {v x : Int} {w : World} (hv : ValidT L) (hq : q < n) (hc : DemC L q a n c o h b w) (h0 : 0 ≤ v ∧ v ≤ 1000000) (hx : demN L q v = x) :
    Calls Try.prog 109 #[.int .i64 v, .pointer (some ⟨o, 0, none⟩), .pointer (some ⟨h, 0, none⟩), .pointer (some ⟨b, 0, none⟩)] w fun e w' => e = .returned (.int .i64 x) ∧ Below w.heap.size w w' := by subst hx; exact demf_any a n c q o h b L v w hv hq hc h0
def winI (x : Int) : Int := if x = 0 then -1 else x
set_option maxRecDepth 10000 in
set_option maxHeartbeats 2000000 in
theorem window_any' (a : Option Addr) (n c q : Nat) (L : List Ta) (F S : Int) (w : World) (hL : RdL w a n L) (hv : ValidT L) (hS : supB F S = true) (hq : q < n) :
    Calls Try.prog 54 #[.slice a n c, .agg #[.int .i64 F, .int .i64 S], .int .i64 (q : Nat)] w fun e w' => e = .returned (.int .i64 (winI (winN L F S q))) ∧ Below w.heap.size w w' := by
  obtain ⟨R, hR⟩ : ∃ R, winN L F S q = R := ⟨_, rfl⟩
  have HA : Hid (winFrom L F S q (2001 - 1) 1 = R) := Lib.hid hR
  rw [hR]
  have HV := Lib.hid hv
  have HS := Lib.hid hS
  have HR := Lib.hid hL
  clear hL hv hR hS
  go_enter Try.func54, Try.ntmps54
  go_wp2_with (go_at_call 70; (with_reducible refine (demand_any _ _ _ q L _ (HR.out.ext (Below.alloc (Below.refl _ _) (Nat.le_refl _) _)) HV.out hq).mono ?_); rintro e w1 ⟨o, h, b, rfl, hc, hb1⟩; have HC := Lib.hid hc; have B1 := Lib.hid hb1; have c0 := (hb1.cell (p := ⟨w.heap.size, 0, none⟩) (by simp)).trans (show _ = some (.int .i64 F) by simp [go_sem]); have c1 := (hb1.cell (p := ⟨w.heap.size, 1, none⟩) (by simp)).trans (show _ = some (.int .i64 S) by simp [go_sem]); have hz1 := hb1.size; clear hb1 hc)
  simp only [World.size_alloc] at hz1
  go_loopw [8] (fun i wr => ∃ k : Nat, 1 ≤ k ∧ k ≤ 2001 ∧ i = .int .i64 k ∧ winFrom L F S q (2001 - k) k = R ∧ Below w1.heap.size w1 wr) (fun i _ => 2001 - (intOf i).toNat)
  case atStart => exact ⟨1, Nat.le_refl _, by omega, rfl, HA.out, Below.refl _ _⟩
  case round =>
    clear HA
    obtain ⟨k, hk1, hk, rfl, he, hB⟩ := hrel
    have HE := Lib.hid he; have HB := Lib.hid hB
    have d0 := (hB.cell (p := ⟨w.heap.size, 0, none⟩) (by simp only []; omega)).trans c0
    have d1 := (hB.cell (p := ⟨w.heap.size, 1, none⟩) (by simp only []; omega)).trans c1
    clear he hB
    by_cases hlt : k ≤ 2000
    · have hlt' : (k : Int) ≤ 2000 := by omega
      obtain ⟨x, hx⟩ : ∃ x, demN L q k = x := ⟨_, rfl⟩
      obtain ⟨y, hy⟩ : ∃ y, leastN F S k = y := ⟨_, rfl⟩
      have HX := Lib.hid hx
      have HY : Hid (lstR F S k = (y, 0)) := Lib.hid (by rw [lstR_ok HS.out (by omega), hy])
      have hE := HE.out
      rw [show 2001 - k = (2001 - (k + 1)) + 1 by omega, winFrom_step, hx, hy] at hE
      clear hx hy
      by_cases hxy : x ≤ y
      · rw [if_pos hxy] at hE
        subst hE
        go_wp2_with (first
          | (go_at_call 26; (with_reducible refine (Least_is HY.out).mono ?_); rintro e w3 ⟨rfl, hb3⟩; have B3 := Lib.hid hb3; clear hb3)
          | (go_at_call 109; (with_reducible refine (demf_is HV.out hq ((HC.out.ext HB.out).ext B3.out) ⟨by omega, by omega⟩ HX.out).mono ?_); rintro e w4 ⟨rfl, hb4⟩; have B4 := Lib.hid hb4; clear hb4))
        go_ret
        exact ⟨ret_int (by rw [winI, if_neg (by omega)]), Below.then (Below.then (Below.alloc (Below.refl _ _) (Nat.le_refl _) _) B1.out) (Below.then (Below.then HB.out B3.out) B4.out)⟩
      · have hxy' : decide (x ≤ y) = false := by simpa using hxy
        rw [if_neg hxy] at hE
        have HE2 := Lib.hid hE
        clear hE
        go_wp2_with (first
          | (go_at_call 26; (with_reducible refine (Least_is HY.out).mono ?_); rintro e w3 ⟨rfl, hb3⟩; have B3 := Lib.hid hb3; clear hb3)
          | (go_at_call 109; (with_reducible refine (demf_is HV.out hq ((HC.out.ext HB.out).ext B3.out) ⟨by omega, by omega⟩ HX.out).mono ?_); rintro e w4 ⟨rfl, hb4⟩; have B4 := Lib.hid hb4; clear hb4))
        go_roundw
        case rel => exact ⟨k + 1, by omega, by omega, by go_num, HE2.out, Below.then (Below.then HB.out B3.out) B4.out⟩
        case measure => simp [intOf]; omega
    · have hlt' : decide ((k : Int) ≤ 2000) = false := by simp; omega
      have hlt'' : decide (k ≤ 2000) = false := by simp; omega
      have hE := HE.out
      rw [show 2001 - k = 0 by omega, winFrom] at hE
      subst hE
      go_wp2
      go_ret
      exact ⟨rfl, Below.then (Below.then (Below.alloc (Below.refl _ _) (Nat.le_refl _) _) B1.out) HB.out⟩
set_option maxRecDepth 10000 in
set_option maxHeartbeats 2000000 in
theorem rwindow_any (a : Option Addr) (n c q : Nat) (L : List Ta) (F S : Int) (w : World) (hL : RdL w a n L) (hv : ValidT L) (hS : supB F S = true) (hq : q < n) :
    Calls Try.prog 56 #[.slice a n c, .agg #[.int .i64 F, .int .i64 S], .int .i64 (q : Nat)] w fun e w' => e = .returned (.int .i64 (winN L F S q)) ∧ Below w.heap.size w w' := by
  obtain ⟨R, hR⟩ : ∃ R, winN L F S q = R := ⟨_, rfl⟩
  have HA : Hid (winFrom L F S q (2001 - 1) 1 = R) := Lib.hid hR
  rw [hR]
  have HV := Lib.hid hv
  have HS := Lib.hid hS
  have HR := Lib.hid hL
  obtain ⟨w1, hw1⟩ : ∃ w1, w1 = w.alloc (.cells #[.int .i64 F, .int .i64 S] 24) := ⟨_, rfl⟩
  have c0 : w1.cell? ⟨w.heap.size, 0, none⟩ = some (.int .i64 F) := by rw [hw1]; simp [go_sem]
  have c1 : w1.cell? ⟨w.heap.size, 1, none⟩ = some (.int .i64 S) := by rw [hw1]; simp [go_sem]
  have hz1 : w.heap.size < w1.heap.size := by rw [hw1]; simp
  have B1 : Hid (Below w.heap.size w w1) := Lib.hid (by rw [hw1]; exact Below.alloc (Below.refl _ _) (Nat.le_refl _) _)
  clear hL hv hR hS
  go_enter Try.func56, Try.ntmps56
  go_wp2
  rw [← hw1]
  clear hw1
  go_loopw [7] (fun i wr => ∃ k : Nat, 1 ≤ k ∧ k ≤ 2001 ∧ i = .int .i64 k ∧ winFrom L F S q (2001 - k) k = R ∧ Below w1.heap.size w1 wr) (fun i _ => 2001 - (intOf i).toNat)
  case atStart => exact ⟨1, Nat.le_refl _, by omega, rfl, HA.out, Below.refl _ _⟩
  case round =>
    clear HA
    obtain ⟨k, hk1, hk, rfl, he, hB⟩ := hrel
    have HE := Lib.hid he; have HB := Lib.hid hB
    have d0 := (hB.cell (p := ⟨w.heap.size, 0, none⟩) (by simp only []; omega)).trans c0
    have d1 := (hB.cell (p := ⟨w.heap.size, 1, none⟩) (by simp only []; omega)).trans c1
    clear he hB
    by_cases hlt : k ≤ 2000
    · have hlt' : (k : Int) ≤ 2000 := by omega
      obtain ⟨x, hx⟩ : ∃ x, demN L q k = x := ⟨_, rfl⟩
      obtain ⟨y, hy⟩ : ∃ y, leastN F S k = y := ⟨_, rfl⟩
      have HX := Lib.hid hx
      have HY : Hid (lstR F S k = (y, 0)) := Lib.hid (by rw [lstR_ok HS.out (by omega), hy])
      have hE := HE.out
      rw [show 2001 - k = (2001 - (k + 1)) + 1 by omega, winFrom_step, hx, hy] at hE
      clear hx hy
      by_cases hxy : x ≤ y
      · rw [if_pos hxy] at hE
        subst hE
        go_wp2_with (first
          | (go_at_call 79; (with_reducible refine (rLeast_is HY.out).mono ?_); rintro e w3 ⟨rfl, hb3⟩; have B3 := Lib.hid hb3; clear hb3)
          | (go_at_call 71; (with_reducible refine (rdem_is (((HR.out.ext B1.out).ext HB.out).ext B3.out) HV.out hq ⟨by omega, by omega⟩ HX.out).mono ?_); rintro e w4 ⟨rfl, hb4⟩; have B4 := Lib.hid hb4; clear hb4))
        go_ret
        exact ⟨rfl, Below.then B1.out (Below.then (Below.then HB.out B3.out) B4.out)⟩
      · have hxy' : decide (x ≤ y) = false := by simpa using hxy
        rw [if_neg hxy] at hE
        have HE2 := Lib.hid hE
        clear hE
        go_wp2_with (first
          | (go_at_call 79; (with_reducible refine (rLeast_is HY.out).mono ?_); rintro e w3 ⟨rfl, hb3⟩; have B3 := Lib.hid hb3; clear hb3)
          | (go_at_call 71; (with_reducible refine (rdem_is (((HR.out.ext B1.out).ext HB.out).ext B3.out) HV.out hq ⟨by omega, by omega⟩ HX.out).mono ?_); rintro e w4 ⟨rfl, hb4⟩; have B4 := Lib.hid hb4; clear hb4))
        go_roundw
        case rel => exact ⟨k + 1, by omega, by omega, by go_num, HE2.out, Below.then (Below.then HB.out B3.out) B4.out⟩
        case measure => simp [intOf]; omega
    · have hlt' : decide ((k : Int) ≤ 2000) = false := by simp; omega
      have hlt'' : decide (k ≤ 2000) = false := by simp; omega
      have hE := HE.out
      rw [show 2001 - k = 0 by omega, winFrom] at hE
      subst hE
      go_wp2
      go_ret
      exact ⟨rfl, Below.then B1.out HB.out⟩
theorem window_is {a : Option Addr} {n c q : Nat} {L : List Ta} {F S x : Int} {w : World} (hL : RdL w a n L) (hv : ValidT L) (hS : supB F S = true) (hq : q < n) (h : winI (winN L F S q) = x) :
    Calls Try.prog 54 #[.slice a n c, .agg #[.int .i64 F, .int .i64 S], .int .i64 (q : Nat)] w fun e w' => e = .returned (.int .i64 x) ∧ Below w.heap.size w w' := by subst h; exact window_any' a n c q L F S w hL hv hS hq
theorem rwindow_is {a : Option Addr} {n c q : Nat} {L : List Ta} {F S x : Int} {w : World} (hL : RdL w a n L) (hv : ValidT L) (hS : supB F S = true) (hq : q < n) (h : winN L F S q = x) :
    Calls Try.prog 56 #[.slice a n c, .agg #[.int .i64 F, .int .i64 S], .int .i64 (q : Nat)] w fun e w' => e = .returned (.int .i64 x) ∧ Below w.heap.size w w' := by subst h; exact rwindow_any a n c q L F S w hL hv hS hq
end Go.Proofs.Ytabbmnnohnfbeaa
