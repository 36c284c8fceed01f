/- The contracts of response, meets, accepted, right of response and of meets, accepted, ready of its reference. The conditions: the tasks read as named; valid where named. -/
import Derived.Test.YtabbmnnohnfbeaaRsWin
namespace Go.Proofs.Ytabbmnnohnfbeaa
open Go.RowKit
set_option linter.unusedSimpArgs false
set_option linter.unusedVariables false
/-- the response, -1 without one -/
def respN (L : List Ta) (F S : Int) (q : Nat) : Int := if winN L F S q = 0 then -1 else (taAt L q).jit + winN L F S q
theorem resp_any (a : Option Addr) (n c q : Nat) (L : List Ta) (F S : Int) (w : World) (hL : RdL w a n L) (hv : ValidT L) (hS : supB F S = true) (hq : q < n) :
    Calls Try.prog 57 #[.slice a n c, .agg #[.int .i64 F, .int .i64 S], .int .i64 (q : Nat)] w fun e w' => e = .returned (.int .i64 (respN L F S q)) ∧ Below w.heap.size w w' := by
  have hb := winN_bd L F S q
  obtain ⟨x, hx⟩ : ∃ x, winN L F S q = x := ⟨_, rfl⟩
  unfold respN
  rw [hx] at hb ⊢
  obtain ⟨u, b, off, pa, pn, pc, rfl, hbw, hg, hpl, HK⟩ := hL.cells q hq
  have hj := hv.jit u (List.mem_of_getElem? hg)
  rw [taAt_of hg]
  have HX : Hid (winI (winN L F S q) = winI x) := Lib.hid (by rw [hx])
  have HV := Lib.hid hv
  have HS := Lib.hid hS
  have HR := Lib.hid hL
  clear hL hv hS hx hg hpl
  by_cases h0 : x = 0
  · subst h0
    rw [if_pos rfl]
    go_enter Try.func57, Try.ntmps57
    go_wp2_with (go_at_call 54; (with_reducible refine (window_is (HR.out.ext (Below.alloc (Below.refl _ _) (Nat.le_refl _) _)) HV.out HS.out hq HX.out).mono ?_); rintro e w1 ⟨rfl, hb1⟩; have B1 := Lib.hid hb1; clear hb1)
    go_ret
    exact ⟨rfl, Below.then (Below.alloc (Below.refl _ _) (Nat.le_refl _) _) B1.out⟩
  · rw [if_neg h0]
    have e : winI x = x := by rw [winI, if_neg h0]
    rw [e] at HX
    have hx0 : decide (x < 0) = false := by simp; omega
    go_enter Try.func57, Try.ntmps57
    go_wp2_with (go_at_call 54; (with_reducible refine (window_is (HR.out.ext (Below.alloc (Below.refl _ _) (Nat.le_refl _) _)) HV.out HS.out hq HX.out).mono ?_); rintro e w1 ⟨rfl, hb1⟩; have B1 := Lib.hid hb1; obtain ⟨j0, j1, j2, j3, j4, j5, hbw1, hpp1⟩ := HK.out w1 (Below.then (Below.alloc (Below.refl _ _) (Nat.le_refl _) _) hb1); clear hb1 hpp1)
    go_ret
    exact ⟨rfl, Below.then (Below.alloc (Below.refl _ _) (Nat.le_refl _) _) B1.out⟩
theorem resp_is {a : Option Addr} {n c q : Nat} {L : List Ta} {F S x : Int} {w : World} (hL : RdL w a n L) (hv : ValidT L) (hS : supB F S = true) (hq : q < n) (h : respN L F S q = x) :
    Calls Try.prog 57 #[.slice a n c, .agg #[.int .i64 F, .int .i64 S], .int .i64 (q : Nat)] w fun e w' => e = .returned (.int .i64 x) ∧ Below w.heap.size w w' := by subst h; exact resp_any a n c q L F S w hL hv hS hq
theorem meets_any (a : Option Addr) (n c q : Nat) (L : List Ta) (F S : Int) (w : World) (hL : RdL w a n L) (hv : ValidT L) (hS : supB F S = true) (hq : q < n) :
    Calls Try.prog 80 #[.slice a n c, .agg #[.int .i64 F, .int .i64 S], .int .i64 (q : Nat)] w fun e w' => e = .returned (.bool (meetB L F S q)) ∧ Below w.heap.size w w' := by
  have hb := winN_bd L F S q
  obtain ⟨R, hR⟩ : ∃ R, meetB L F S q = R := ⟨_, rfl⟩
  obtain ⟨r, hr⟩ : ∃ r, respN L F S q = r := ⟨_, rfl⟩
  obtain ⟨u, b, off, pa, pn, pc, rfl, hbw, hg, hpl, HK⟩ := hL.cells q hq
  have hj := hv.jit u (List.mem_of_getElem? hg)
  have hrm : (r < 0 ∧ R = false) ∨ (0 ≤ r ∧ decide (r ≤ u.dl) = R) := by
    unfold respN at hr
    unfold meetB at hR
    rw [taAt_of hg] at hr hR
    split at hr
    · rename_i h0
      rw [h0] at hR
      left
      exact ⟨by omega, by rw [← hR]; rfl⟩
    · rename_i h0
      right
      refine ⟨by omega, ?_⟩
      rw [← hR, decide_eq_true (show 0 < winN L F S q by omega), Bool.true_and, ← hr]
  have HX := Lib.hid hr
  have HV := Lib.hid hv
  have HS := Lib.hid hS
  have HR := Lib.hid hL
  rw [hR]
  clear hL hv hS hr hg hpl hR hb
  rcases hrm with ⟨h0, rfl⟩ | ⟨h0, h1⟩
  · have h0' : decide (0 ≤ r) = false := by simp; omega
    go_enter Try.func80, Try.ntmps80
    go_wp2_with (go_at_call 57; (with_reducible refine (resp_is (HR.out.ext (Below.alloc (Below.refl _ _) (Nat.le_refl _) _)) HV.out HS.out hq HX.out).mono ?_); rintro e w1 ⟨rfl, hb1⟩; have B1 := Lib.hid hb1; obtain ⟨j0, j1, j2, j3, j4, j5, hbw1, hpp1⟩ := HK.out w1 (Below.then (Below.alloc (Below.refl _ _) (Nat.le_refl _) _) hb1); clear hb1 hpp1)
    go_ret
    exact ⟨rfl, Below.then (Below.alloc (Below.refl _ _) (Nat.le_refl _) _) B1.out⟩
  · go_enter Try.func80, Try.ntmps80
    go_wp2_with (go_at_call 57; (with_reducible refine (resp_is (HR.out.ext (Below.alloc (Below.refl _ _) (Nat.le_refl _) _)) HV.out HS.out hq HX.out).mono ?_); rintro e w1 ⟨rfl, hb1⟩; have B1 := Lib.hid hb1; obtain ⟨j0, j1, j2, j3, j4, j5, hbw1, hpp1⟩ := HK.out w1 (Below.then (Below.alloc (Below.refl _ _) (Nat.le_refl _) _) hb1); clear hb1 hpp1)
    go_ret
    exact ⟨rfl, Below.then (Below.alloc (Below.refl _ _) (Nat.le_refl _) _) B1.out⟩
theorem meets_is {a : Option Addr} {n c q : Nat} {L : List Ta} {F S : Int} {x : Bool} {w : World} (hL : RdL w a n L) (hv : ValidT L) (hS : supB F S = true) (hq : q < n) (h : meetB L F S q = x) :
    Calls Try.prog 80 #[.slice a n c, .agg #[.int .i64 F, .int .i64 S], .int .i64 (q : Nat)] w fun e w' => e = .returned (.bool x) ∧ Below w.heap.size w w' := by subst h; exact meets_any a n c q L F S w hL hv hS hq
theorem rmeets_any (a : Option Addr) (n c q : Nat) (L : List Ta) (F S : Int) (w : World) (hL : RdL w a n L) (hv : ValidT L) (hS : supB F S = true) (hq : q < n) :
    Calls Try.prog 81 #[.slice a n c, .agg #[.int .i64 F, .int .i64 S], .int .i64 (q : Nat)] w fun e w' => e = .returned (.bool (meetB L F S q)) ∧ Below w.heap.size w w' := by
  have hb := winN_bd L F S q
  obtain ⟨R, hR⟩ : ∃ R, meetB L F S q = R := ⟨_, rfl⟩
  obtain ⟨x, hx⟩ : ∃ x, winN L F S q = x := ⟨_, rfl⟩
  obtain ⟨u, b, off, pa, pn, pc, rfl, hbw, hg, hpl, HK⟩ := hL.cells q hq
  have hj := hv.jit u (List.mem_of_getElem? hg)
  have hR2 : (decide (0 < x) && decide (u.jit + x ≤ u.dl)) = R := by rw [← hR, meetB, hx, taAt_of hg]
  have HX := Lib.hid hx
  have HV := Lib.hid hv
  have HS := Lib.hid hS
  have HR := Lib.hid hL
  rw [hR]
  rw [hx] at hb
  clear hL hv hS hx hg hpl hR
  by_cases h0 : 0 < x
  · have h1 : decide (u.jit + x ≤ u.dl) = R := by rw [← hR2, decide_eq_true h0, Bool.true_and]
    clear hR2
    go_enter Try.func81, Try.ntmps81
    go_wp2_with (first
      | (go_at_call 56; (with_reducible refine (rwindow_is (HR.out.ext (Below.alloc (Below.refl _ _) (Nat.le_refl _) _)) HV.out HS.out hq HX.out).mono ?_); rintro e w1 ⟨rfl, hb1⟩; have B1 := Lib.hid hb1; obtain ⟨j0, j1, j2, j3, j4, j5, hbw1, hpp1⟩ := HK.out w1 (Below.then (Below.alloc (Below.refl _ _) (Nat.le_refl _) _) hb1); clear hb1 hpp1)
      | (refine wp_region_later_lit (by kernel_rfl) (by kernel_rfl) ?_; (repeat (go_big_quiet_step (fail))); refine wpQuiet_nil ?_; intro w3 hb3))
    go_ret
    exact ⟨rfl, Below.then (Below.then (Below.alloc (Below.refl _ _) (Nat.le_refl _) _) B1.out) hb3⟩
  · obtain rfl : R = false := by rw [← hR2, decide_eq_false h0]; rfl
    have h0' : decide (0 < x) = false := by simpa using h0
    clear hR2
    go_enter Try.func81, Try.ntmps81
    go_wp2_with (first
      | (go_at_call 56; (with_reducible refine (rwindow_is (HR.out.ext (Below.alloc (Below.refl _ _) (Nat.le_refl _) _)) HV.out HS.out hq HX.out).mono ?_); rintro e w1 ⟨rfl, hb1⟩; have B1 := Lib.hid hb1; obtain ⟨j0, j1, j2, j3, j4, j5, hbw1, hpp1⟩ := HK.out w1 (Below.then (Below.alloc (Below.refl _ _) (Nat.le_refl _) _) hb1); clear hb1 hpp1)
      | (refine wp_region_later_lit (by kernel_rfl) (by kernel_rfl) ?_; (repeat (go_big_quiet_step (fail))); refine wpQuiet_nil ?_; intro w3 hb3))
    go_ret
    exact ⟨rfl, Below.then (Below.then (Below.alloc (Below.refl _ _) (Nat.le_refl _) _) B1.out) hb3⟩
theorem rmeets_is {a : Option Addr} {n c q : Nat} {L : List Ta} {F S : Int} {x : Bool} {w : World} (hL : RdL w a n L) (hv : ValidT L) (hS : supB F S = true) (hq : q < n) (h : meetB L F S q = x) :
    Calls Try.prog 81 #[.slice a n c, .agg #[.int .i64 F, .int .i64 S], .int .i64 (q : Nat)] w fun e w' => e = .returned (.bool x) ∧ Below w.heap.size w w' := by subst h; exact rmeets_any a n c q L F S w hL hv hS hq
set_option maxHeartbeats 1000000 in
theorem acc_any (a : Option Addr) (n c : Nat) (L : List Ta) (F S : Int) (w : World) (hL : RdL w a n L) (hv : ValidT L) (hS : supB F S = true) :
    Calls Try.prog 53 #[.slice a n c, .agg #[.int .i64 F, .int .i64 S]] w fun e w' => e = .returned (.bool (accB L F S)) ∧ Below w.heap.size w w' := by
  have hll := hL.length
  have hs := hL.small
  obtain ⟨R, hR⟩ : ∃ R, accB L F S = R := ⟨_, rfl⟩
  have HA : Hid (accFrom L F S (n - 0) 0 = R) := Lib.hid (by rw [← hR, accB, hll]; rfl)
  have HV := Lib.hid hv
  have HS := Lib.hid hS
  have HR := Lib.hid hL
  obtain ⟨w1, hw1⟩ : ∃ w1, w1 = w.alloc (.cells #[.int .i64 F, .int .i64 S] 24) := ⟨_, rfl⟩
  have c0 : w1.cell? ⟨w.heap.size, 0, none⟩ = some (.int .i64 F) := by rw [hw1]; simp [go_sem]
  have c1 : w1.cell? ⟨w.heap.size, 1, none⟩ = some (.int .i64 S) := by rw [hw1]; simp [go_sem]
  have hz1 : w.heap.size < w1.heap.size := by rw [hw1]; simp
  have B1 : Hid (Below w.heap.size w w1) := Lib.hid (by rw [hw1]; exact Below.alloc (Below.refl _ _) (Nat.le_refl _) _)
  rw [hR]
  clear hL hv hll hR hS
  go_enter Try.func53, Try.ntmps53
  go_wp2
  rw [← hw1]
  clear hw1
  go_loopw [8] (fun i wr => ∃ k : Nat, k ≤ n ∧ i = .int .i64 k ∧ accFrom L F S (n - k) k = R ∧ Below w1.heap.size w1 wr) (fun i _ => n - (intOf i).toNat)
  case atStart => exact ⟨0, Nat.zero_le _, rfl, HA.out, Below.refl _ _⟩
  case round =>
    clear HA
    obtain ⟨k, hk, rfl, he, hB⟩ := hrel
    have HE := Lib.hid he; have HB := Lib.hid hB
    have d0 := (hB.cell (p := ⟨w.heap.size, 0, none⟩) (by simp only []; omega)).trans c0
    have d1 := (hB.cell (p := ⟨w.heap.size, 1, none⟩) (by simp only []; omega)).trans c1
    clear he hB
    by_cases hlt : k < n
    · obtain ⟨m, hm⟩ : ∃ m, meetB L F S k = m := ⟨_, rfl⟩
      have HM := Lib.hid hm
      have hE := HE.out
      rw [show n - k = (n - (k + 1)) + 1 by omega, accFrom, hm] at hE
      clear hm
      cases m
      · obtain rfl : R = false := by rw [← hE]; rfl
        go_wp2_with (go_at_call 80; (with_reducible refine (meets_is ((HR.out.ext B1.out).ext HB.out) HV.out HS.out hlt HM.out).mono ?_); rintro e w3 ⟨rfl, hb3⟩; have B3 := Lib.hid hb3; clear hb3)
        go_ret
        exact ⟨rfl, (by repeat (first | (with_reducible exact Below.refl _ _) | (refine Below.then ?_ (Hid.out (by with_reducible assumption)))))⟩
      · have HE2 : Hid (accFrom L F S (n - (k + 1)) (k + 1) = R) := Lib.hid (by simpa using hE)
        clear hE
        go_wp2_with (go_at_call 80; (with_reducible refine (meets_is ((HR.out.ext B1.out).ext HB.out) HV.out HS.out hlt HM.out).mono ?_); rintro e w3 ⟨rfl, hb3⟩; have B3 := Lib.hid hb3; clear hb3)
        go_roundw
        case rel => exact ⟨k + 1, by omega, by go_num, HE2.out, Below.then HB.out B3.out⟩
        case measure => simp [intOf]; omega
    · have hE := HE.out
      rw [show n - k = 0 by omega, accFrom] at hE
      subst hE
      go_wp2
      go_ret
      exact ⟨rfl, (by repeat (first | (with_reducible exact Below.refl _ _) | (refine Below.then ?_ (Hid.out (by with_reducible assumption)))))⟩
set_option maxHeartbeats 1000000 in
theorem racc_any (a : Option Addr) (n c : Nat) (L : List Ta) (F S : Int) (w : World) (hL : RdL w a n L) (hv : ValidT L) (hS : supB F S = true) :
    Calls Try.prog 68 #[.slice a n c, .agg #[.int .i64 F, .int .i64 S]] w fun e w' => e = .returned (.bool (accB L F S)) ∧ Below w.heap.size w w' := by
  have hll := hL.length
  have hs := hL.small
  obtain ⟨R, hR⟩ : ∃ R, accB L F S = R := ⟨_, rfl⟩
  have HA : Hid (accFrom L F S (n - 0) 0 = R) := Lib.hid (by rw [← hR, accB, hll]; rfl)
  have HV := Lib.hid hv
  have HS := Lib.hid hS
  have HR := Lib.hid hL
  obtain ⟨w1, hw1⟩ : ∃ w1, w1 = w.alloc (.cells #[.int .i64 F, .int .i64 S] 24) := ⟨_, rfl⟩
  have c0 : w1.cell? ⟨w.heap.size, 0, none⟩ = some (.int .i64 F) := by rw [hw1]; simp [go_sem]
  have c1 : w1.cell? ⟨w.heap.size, 1, none⟩ = some (.int .i64 S) := by rw [hw1]; simp [go_sem]
  have hz1 : w.heap.size < w1.heap.size := by rw [hw1]; simp
  have B1 : Hid (Below w.heap.size w w1) := Lib.hid (by rw [hw1]; exact Below.alloc (Below.refl _ _) (Nat.le_refl _) _)
  rw [hR]
  clear hL hv hll hR hS
  go_enter Try.func68, Try.ntmps68
  go_wp2
  rw [← hw1]
  clear hw1
  go_loopw [5] (fun i wr => ∃ k : Nat, k ≤ n ∧ i = .int .i64 k ∧ accFrom L F S (n - k) k = R ∧ Below w1.heap.size w1 wr) (fun i _ => n - (intOf i).toNat)
  case atStart => exact ⟨0, Nat.zero_le _, rfl, HA.out, Below.refl _ _⟩
  case round =>
    clear HA
    obtain ⟨k, hk, rfl, he, hB⟩ := hrel
    have HE := Lib.hid he; have HB := Lib.hid hB
    have d0 := (hB.cell (p := ⟨w.heap.size, 0, none⟩) (by simp only []; omega)).trans c0
    have d1 := (hB.cell (p := ⟨w.heap.size, 1, none⟩) (by simp only []; omega)).trans c1
    clear he hB
    by_cases hlt : k < n
    · obtain ⟨m, hm⟩ : ∃ m, meetB L F S k = m := ⟨_, rfl⟩
      have HM := Lib.hid hm
      have hE := HE.out
      rw [show n - k = (n - (k + 1)) + 1 by omega, accFrom, hm] at hE
      clear hm
      cases m
      · obtain rfl : R = false := by rw [← hE]; rfl
        go_wp2_with (go_at_call 81; (with_reducible refine (rmeets_is ((HR.out.ext B1.out).ext HB.out) HV.out HS.out hlt HM.out).mono ?_); rintro e w3 ⟨rfl, hb3⟩; have B3 := Lib.hid hb3; clear hb3)
        go_ret
        exact ⟨rfl, (by repeat (first | (with_reducible exact Below.refl _ _) | (refine Below.then ?_ (Hid.out (by with_reducible assumption)))))⟩
      · have HE2 : Hid (accFrom L F S (n - (k + 1)) (k + 1) = R) := Lib.hid (by simpa using hE)
        clear hE
        go_wp2_with (go_at_call 81; (with_reducible refine (rmeets_is ((HR.out.ext B1.out).ext HB.out) HV.out HS.out hlt HM.out).mono ?_); rintro e w3 ⟨rfl, hb3⟩; have B3 := Lib.hid hb3; clear hb3)
        go_roundw
        case rel => exact ⟨k + 1, by omega, by go_num, HE2.out, Below.then HB.out B3.out⟩
        case measure => simp [intOf]; omega
    · have hE := HE.out
      rw [show n - k = 0 by omega, accFrom] at hE
      subst hE
      go_wp2
      go_ret
      exact ⟨rfl, (by repeat (first | (with_reducible exact Below.refl _ _) | (refine Below.then ?_ (Hid.out (by with_reducible assumption)))))⟩
theorem acc_is {a : Option Addr} {n c : Nat} {L : List Ta} {F S : Int} {x : Bool} {w : World} (hL : RdL w a n L) (hv : ValidT L) (hS : supB F S = true) (h : accB L F S = x) :
    Calls Try.prog 53 #[.slice a n c, .agg #[.int .i64 F, .int .i64 S]] w fun e w' => e = .returned (.bool x) ∧ Below w.heap.size w w' := by subst h; exact acc_any a n c L F S w hL hv hS
theorem racc_is {a : Option Addr} {n c : Nat} {L : List Ta} {F S : Int} {x : Bool} {w : World} (hL : RdL w a n L) (hv : ValidT L) (hS : supB F S = true) (h : accB L F S = x) :
    Calls Try.prog 68 #[.slice a n c, .agg #[.int .i64 F, .int .i64 S]] w fun e w' => e = .returned (.bool x) ∧ Below w.heap.size w w' := by subst h; exact racc_any a n c L F S w hL hv hS
/-- right: tasks and supply are valid -/
def okB (L : List Ta) (F S : Int) : Bool := validL L && supB F S
theorem right25_any (a : Option Addr) (n c : Nat) (L : List Ta) (F S : Int) (w : World) (hL : RdL w a n L) :
    Calls Try.prog 52 #[.slice a n c, .agg #[.int .i64 F, .int .i64 S]] w fun e w' => e = .returned (.bool (okB L F S)) ∧ Below w.heap.size w w' := by
  have HR := Lib.hid hL
  unfold okB
  cases hv : validL L
  · have HV := Lib.hid hv
    clear hL hv
    go_enter Try.func52, Try.ntmps52
    go_wp2_with (go_at_call 33; (with_reducible refine (valid_is (HR.out.ext (Below.alloc (Below.refl _ _) (Nat.le_refl _) _)) HV.out).mono ?_); rintro e w1 ⟨rfl, hb1⟩; have B1 := Lib.hid hb1; clear hb1)
    go_ret
    exact ⟨rfl, Below.then (Below.alloc (Below.refl _ _) (Nat.le_refl _) _) B1.out⟩
  · have HV := Lib.hid hv
    obtain ⟨x, hx⟩ : ∃ x, supB F S = x := ⟨_, rfl⟩
    have HS := Lib.hid hx
    rw [hx]
    clear hL hv hx
    go_enter Try.func52, Try.ntmps52
    go_wp2_with (first
      | (go_at_call 33; (with_reducible refine (valid_is (HR.out.ext (Below.alloc (Below.refl _ _) (Nat.le_refl _) _)) HV.out).mono ?_); rintro e w1 ⟨rfl, hb1⟩; have B1 := Lib.hid hb1; have c0 := (hb1.cell (p := ⟨w.heap.size, 0, none⟩) (by simp)).trans (show _ = some (.int .i64 F) by simp [go_sem]); have c1 := (hb1.cell (p := ⟨w.heap.size, 1, none⟩) (by simp)).trans (show _ = some (.int .i64 S) by simp [go_sem]); clear hb1)
      | (go_at_call 62; (with_reducible refine (supV_is HS.out).mono ?_); rintro e w2 ⟨rfl, hb2⟩; have B2 := Lib.hid hb2; clear hb2))
    go_ret
    exact ⟨rfl, Below.then (Below.then (Below.alloc (Below.refl _ _) (Nat.le_refl _) _) B1.out) B2.out⟩
theorem right25_is {a : Option Addr} {n c : Nat} {L : List Ta} {F S : Int} {x : Bool} {w : World} (hL : RdL w a n L) (h : okB L F S = x) :
    Calls Try.prog 52 #[.slice a n c, .agg #[.int .i64 F, .int .i64 S]] w fun e w' => e = .returned (.bool x) ∧ Below w.heap.size w w' := by subst h; exact right25_any a n c L F S w hL
theorem ready_any (a : Option Addr) (n c : Nat) (L : List Ta) (F S i m : Int) (w : World) (hL : RdL w a n L) :
    Calls Try.prog 55 #[.slice a n c, .agg #[.int .i64 F, .int .i64 S], .int .i64 i, .int .i64 m] w fun e w' => e = .returned (.int .i64 (if okB L F S && inB i 0 (m - 1) then 0 else 1)) ∧ Below w.heap.size w w' := by
  have HR := Lib.hid hL
  unfold okB
  cases hv : validL L
  · have HV := Lib.hid hv
    clear hL hv
    go_enter Try.func55, Try.ntmps55
    go_wp2_with (go_at_call 34; (with_reducible refine (rValid_is (HR.out.ext (Below.alloc (Below.refl _ _) (Nat.le_refl _) _)) HV.out).mono ?_); rintro e w1 ⟨rfl, hb1⟩; have B1 := Lib.hid hb1; clear hb1)
    go_ret
    exact ⟨rfl, Below.then (Below.alloc (Below.refl _ _) (Nat.le_refl _) _) B1.out⟩
  · have HV := Lib.hid hv
    obtain ⟨x, hx⟩ : ∃ x, supB F S = x := ⟨_, rfl⟩
    have HS := Lib.hid hx
    rw [hx, Bool.true_and]
    have q2 : inB i 0 (m - 1) = (decide (0 ≤ i) && decide (i < m)) := by rw [inB_eq]; congr 1; rw [decide_eq_decide]; omega
    rw [q2]
    clear hL hv hx q2
    cases x
    all_goals
      go_enter Try.func55, Try.ntmps55
      go_wp2_with (first
        | (go_at_call 34; (with_reducible refine (rValid_is (HR.out.ext (Below.alloc (Below.refl _ _) (Nat.le_refl _) _)) HV.out).mono ?_); rintro e w1 ⟨rfl, hb1⟩; have B1 := Lib.hid hb1; have c0 := (hb1.cell (p := ⟨w.heap.size, 0, none⟩) (by simp)).trans (show _ = some (.int .i64 F) by simp [go_sem]); have c1 := (hb1.cell (p := ⟨w.heap.size, 1, none⟩) (by simp)).trans (show _ = some (.int .i64 S) by simp [go_sem]); clear hb1)
        | (go_at_call 42; (with_reducible refine (rsupV_is HS.out).mono ?_); rintro e w2 ⟨rfl, hb2⟩; have B2 := Lib.hid hb2; clear hb2))
      all_goals
        go_ret
        exact ⟨ret_int (by simp [*] <;> (first | omega | (intros; omega))), Below.then (Below.then (Below.alloc (Below.refl _ _) (Nat.le_refl _) _) B1.out) B2.out⟩
theorem ready_is {a : Option Addr} {n c : Nat} {L : List Ta} {F S i m : Int} {b : Bool} {w : World} (hL : RdL w a n L) (h : (okB L F S && inB i 0 (m - 1)) = b) :
    Calls Try.prog 55 #[.slice a n c, .agg #[.int .i64 F, .int .i64 S], .int .i64 i, .int .i64 m] w fun e w' => e = .returned (.int .i64 (if b then 0 else 1)) ∧ Below w.heap.size w w' := by subst h; exact ready_any a n c L F S i m w hL
end Go.Proofs.Ytabbmnnohnfbeaa
