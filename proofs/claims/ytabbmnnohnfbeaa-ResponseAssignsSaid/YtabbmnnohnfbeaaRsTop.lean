/- The contracts of Accept, Window, Slice, Cost, Demand of response and of its reference. The conditions: the tasks read as named. -/
import Derived.Test.YtabbmnnohnfbeaaRsAcc
namespace Go.Proofs.Ytabbmnnohnfbeaa
open Go.RowKit
set_option linter.unusedSimpArgs false
set_option linter.unusedVariables false
theorem ok_of {L : List Ta} {F S : Int} (h : okB L F S = true) : ValidT L ∧ supB F S = true := by
  unfold okB at h; rw [Bool.and_eq_true] at h; exact ⟨valid_of h.1, h.2⟩
def accE (L : List Ta) (F S : Int) : Int := if okB L F S then (if accB L F S then 0 else 15) else 1
def inT (L : List Ta) (t : Int) : Bool := inB t 0 ((L.length : Int) - 1)
def winR (L : List Ta) (F S t : Int) : Int × Int := if okB L F S && inT L t then (if winN L F S t = 0 then (0, 3) else (winN L F S t, 0)) else (0, 1)
def sliceGo (L : List Ta) (F : Int) : Nat → Int × Int
  | 0 => (0, 15)
  | k + 1 => if accB L F k then ((k : Int), 0) else sliceGo L F k
def sliceR (L : List Ta) (F : Int) : Int × Int := if validL L && inB F 1 60 then sliceGo L F F.toNat else (0, 1)
def costR (L : List Ta) (t : Int) : Int × Int := if validL L && inT L t then (costT (taAt L t), 0) else (0, 1)
def demR (L : List Ta) (t v : Int) : Int × Int := if validL L && inT L t && inB v 0 1000000 then (demN L t v, 0) else (0, 1)
theorem inT_iff {L : List Ta} {t : Int} : inT L t = true ↔ 0 ≤ t ∧ t < L.length := by unfold inT; rw [inB_iff]; omega
theorem Accept_any (a : Option Addr) (n c : Nat) (L : List Ta) (F S : Int) (w : World) (hL : RdL w a n L) :
    Calls Try.prog 16 #[.slice a n c, .agg #[.int .i64 F, .int .i64 S]] w fun e w' => e = .returned (.int .i64 (accE L F S)) ∧ Below w.heap.size w w' := by
  have HR := Lib.hid hL
  unfold accE
  cases ho : okB L F S
  · have HO := Lib.hid ho
    clear hL ho
    go_enter Try.func16, Try.ntmps16
    go_wp2_with (go_at_call 52; (with_reducible refine (right25_is (HR.out.ext (Below.alloc (Below.refl _ _) (Nat.le_refl _) _)) HO.out).mono ?_); rintro e w1 ⟨rfl, hb1⟩; have B1 := Lib.hid hb1; have c0 := (hb1.cell (p := ⟨w.heap.size, 0, none⟩) (by simp)).trans (show _ = some (.int .i64 F) by simp [go_sem]); have c1 := (hb1.cell (p := ⟨w.heap.size, 1, none⟩) (by simp)).trans (show _ = some (.int .i64 S) by simp [go_sem]); clear hb1)
    go_ret
    exact ⟨rfl, (Below.then (Below.alloc (Below.refl _ _) (Nat.le_refl _) _) B1.out)⟩
  · have HO := Lib.hid ho
    obtain ⟨hv, hs⟩ := ok_of ho
    have HV := Lib.hid hv
    have HS := Lib.hid hs
    obtain ⟨x, hx⟩ : ∃ x, accB L F S = x := ⟨_, rfl⟩
    have HA := Lib.hid hx
    rw [if_pos rfl, hx]
    clear hL ho hv hs hx
    cases x
    all_goals
      go_enter Try.func16, Try.ntmps16
      go_wp2_with (first | (go_at_call 52; (with_reducible refine (right25_is (HR.out.ext (Below.alloc (Below.refl _ _) (Nat.le_refl _) _)) HO.out).mono ?_); rintro e w1 ⟨rfl, hb1⟩; have B1 := Lib.hid hb1; have c0 := (hb1.cell (p := ⟨w.heap.size, 0, none⟩) (by simp)).trans (show _ = some (.int .i64 F) by simp [go_sem]); have c1 := (hb1.cell (p := ⟨w.heap.size, 1, none⟩) (by simp)).trans (show _ = some (.int .i64 S) by simp [go_sem]); clear hb1) | (go_at_call 53; (with_reducible refine (acc_is ((HR.out.ext (Below.alloc (Below.refl _ _) (Nat.le_refl _) _)).ext B1.out) HV.out HS.out HA.out).mono ?_); rintro e w2 ⟨rfl, hb2⟩; have B2 := Lib.hid hb2; clear hb2))
      go_ret
      exact ⟨rfl, Below.then (Below.then (Below.alloc (Below.refl _ _) (Nat.le_refl _) _) B1.out) B2.out⟩
theorem Accept_is {a : Option Addr} {n c : Nat} {L : List Ta} {F S x : Int} {w : World} (hL : RdL w a n L) (h : accE L F S = x) :
    Calls Try.prog 16 #[.slice a n c, .agg #[.int .i64 F, .int .i64 S]] w fun e w' => e = .returned (.int .i64 x) ∧ Below w.heap.size w w' := by subst h; exact Accept_any a n c L F S w hL
theorem rAccept_any (a : Option Addr) (n c : Nat) (L : List Ta) (F S : Int) (w : World) (hL : RdL w a n L) :
    Calls Try.prog 40 #[.slice a n c, .agg #[.int .i64 F, .int .i64 S]] w fun e w' => e = .returned (.int .i64 (accE L F S)) ∧ Below w.heap.size w w' := by
  have HR := Lib.hid hL
  unfold accE
  cases ho : okB L F S
  · have HO := (show Hid ((okB L F S && inB 0 0 (1 - 1)) = false) from Lib.hid (by rw [ho]; rfl))
    clear hL ho
    go_enter Try.func40, Try.ntmps40
    go_wp2_with (go_at_call 55; (with_reducible refine (ready_is (HR.out.ext (Below.alloc (Below.refl _ _) (Nat.le_refl _) _)) HO.out).mono ?_); rintro e w1 ⟨rfl, hb1⟩; have B1 := Lib.hid hb1; have c0 := (hb1.cell (p := ⟨w.heap.size, 0, none⟩) (by simp)).trans (show _ = some (.int .i64 F) by simp [go_sem]); have c1 := (hb1.cell (p := ⟨w.heap.size, 1, none⟩) (by simp)).trans (show _ = some (.int .i64 S) by simp [go_sem]); clear hb1)
    go_ret
    exact ⟨rfl, (Below.then (Below.alloc (Below.refl _ _) (Nat.le_refl _) _) B1.out)⟩
  · have HO := (show Hid ((okB L F S && inB 0 0 (1 - 1)) = true) from Lib.hid (by rw [ho]; rfl))
    obtain ⟨hv, hs⟩ := ok_of ho
    have HV := Lib.hid hv
    have HS := Lib.hid hs
    obtain ⟨x, hx⟩ : ∃ x, accB L F S = x := ⟨_, rfl⟩
    have HA := Lib.hid hx
    rw [if_pos rfl, hx]
    clear hL ho hv hs hx
    cases x
    all_goals
      go_enter Try.func40, Try.ntmps40
      go_wp2_with (first | (go_at_call 55; (with_reducible refine (ready_is (HR.out.ext (Below.alloc (Below.refl _ _) (Nat.le_refl _) _)) HO.out).mono ?_); rintro e w1 ⟨rfl, hb1⟩; have B1 := Lib.hid hb1; have c0 := (hb1.cell (p := ⟨w.heap.size, 0, none⟩) (by simp)).trans (show _ = some (.int .i64 F) by simp [go_sem]); have c1 := (hb1.cell (p := ⟨w.heap.size, 1, none⟩) (by simp)).trans (show _ = some (.int .i64 S) by simp [go_sem]); clear hb1) | (go_at_call 68; (with_reducible refine (racc_is ((HR.out.ext (Below.alloc (Below.refl _ _) (Nat.le_refl _) _)).ext B1.out) HV.out HS.out HA.out).mono ?_); rintro e w2 ⟨rfl, hb2⟩; have B2 := Lib.hid hb2; clear hb2))
      go_ret
      exact ⟨rfl, Below.then (Below.then (Below.alloc (Below.refl _ _) (Nat.le_refl _) _) B1.out) B2.out⟩
theorem rAccept_is {a : Option Addr} {n c : Nat} {L : List Ta} {F S x : Int} {w : World} (hL : RdL w a n L) (h : accE L F S = x) :
    Calls Try.prog 40 #[.slice a n c, .agg #[.int .i64 F, .int .i64 S]] w fun e w' => e = .returned (.int .i64 x) ∧ Below w.heap.size w w' := by subst h; exact rAccept_any a n c L F S w hL
set_option maxHeartbeats 1000000 in
theorem Window_any (a : Option Addr) (n c : Nat) (L : List Ta) (F S t : Int) (w : World) (hL : RdL w a n L) :
    Calls Try.prog 18 #[.slice a n c, .agg #[.int .i64 F, .int .i64 S], .int .i64 t] w fun e w' => e = rII (winR L F S t).1 (winR L F S t).2 ∧ Below w.heap.size w w' := by
  have hll := hL.length
  have hsm := hL.small
  have HR := Lib.hid hL
  unfold winR inT
  rw [hll]
  cases ho : okB L F S
  · have HO := Lib.hid ho
    rw [Bool.false_and]
    clear hL hll ho
    go_enter Try.func18, Try.ntmps18
    go_wp2_with (go_at_call 52; (with_reducible refine (right25_is (HR.out.ext (Below.alloc (Below.refl _ _) (Nat.le_refl _) _)) HO.out).mono ?_); rintro e w1 ⟨rfl, hb1⟩; have B1 := Lib.hid hb1; have c0 := (hb1.cell (p := ⟨w.heap.size, 0, none⟩) (by simp)).trans (show _ = some (.int .i64 F) by simp [go_sem]); have c1 := (hb1.cell (p := ⟨w.heap.size, 1, none⟩) (by simp)).trans (show _ = some (.int .i64 S) by simp [go_sem]); clear hb1)
    go_ret2
    exact ⟨rII_eq rfl rfl, (Below.then (Below.alloc (Below.refl _ _) (Nat.le_refl _) _) B1.out)⟩
  · have HO := Lib.hid ho
    rw [Bool.true_and]
    by_cases h0 : t < 0
    · rw [if_neg (by rw [inB_iff]; omega)]
      clear hL hll ho
      go_enter Try.func18, Try.ntmps18
      go_wp2_with (go_at_call 52; (with_reducible refine (right25_is (HR.out.ext (Below.alloc (Below.refl _ _) (Nat.le_refl _) _)) HO.out).mono ?_); rintro e w1 ⟨rfl, hb1⟩; have B1 := Lib.hid hb1; have c0 := (hb1.cell (p := ⟨w.heap.size, 0, none⟩) (by simp)).trans (show _ = some (.int .i64 F) by simp [go_sem]); have c1 := (hb1.cell (p := ⟨w.heap.size, 1, none⟩) (by simp)).trans (show _ = some (.int .i64 S) by simp [go_sem]); clear hb1)
      go_ret2
      exact ⟨rII_eq rfl rfl, (Below.then (Below.alloc (Below.refl _ _) (Nat.le_refl _) _) B1.out)⟩
    · have h0' : decide (t < 0) = false := by simpa using h0
      by_cases h1 : (n : Int) ≤ t
      · rw [if_neg (by rw [inB_iff]; omega)]
        clear hL hll ho
        go_enter Try.func18, Try.ntmps18
        go_wp2_with (go_at_call 52; (with_reducible refine (right25_is (HR.out.ext (Below.alloc (Below.refl _ _) (Nat.le_refl _) _)) HO.out).mono ?_); rintro e w1 ⟨rfl, hb1⟩; have B1 := Lib.hid hb1; have c0 := (hb1.cell (p := ⟨w.heap.size, 0, none⟩) (by simp)).trans (show _ = some (.int .i64 F) by simp [go_sem]); have c1 := (hb1.cell (p := ⟨w.heap.size, 1, none⟩) (by simp)).trans (show _ = some (.int .i64 S) by simp [go_sem]); clear hb1)
        go_ret2
        exact ⟨rII_eq rfl rfl, (Below.then (Below.alloc (Below.refl _ _) (Nat.le_refl _) _) B1.out)⟩
      · rw [if_pos (by rw [inB_iff]; omega)]
        obtain ⟨q, rfl⟩ := Int.eq_ofNat_of_zero_le (Int.not_lt.1 h0)
        have hq : q < n := by omega
        have h1' : decide ((n : Int) ≤ (q : Int)) = false := by simpa using h1
        have h1'' : decide (n ≤ q) = false := by simp; omega
        obtain ⟨hv, hs⟩ := ok_of ho
        have HV := Lib.hid hv
        have HS := Lib.hid hs
        have hwb := winN_bd L F S q
        obtain ⟨x, hx⟩ : ∃ x, winN L F S q = x := ⟨_, rfl⟩
        rw [hx] at hwb ⊢
        by_cases hx0 : x = 0
        · subst hx0
          have HX : Hid (winI (winN L F S q) = -1) := Lib.hid (by rw [hx]; rfl)
          rw [if_pos rfl]
          clear hL hll ho hv hs hx
          go_enter Try.func18, Try.ntmps18
          go_wp2_with (first | (go_at_call 52; (with_reducible refine (right25_is (HR.out.ext (Below.alloc (Below.refl _ _) (Nat.le_refl _) _)) HO.out).mono ?_); rintro e w1 ⟨rfl, hb1⟩; have B1 := Lib.hid hb1; have c0 := (hb1.cell (p := ⟨w.heap.size, 0, none⟩) (by simp)).trans (show _ = some (.int .i64 F) by simp [go_sem]); have c1 := (hb1.cell (p := ⟨w.heap.size, 1, none⟩) (by simp)).trans (show _ = some (.int .i64 S) by simp [go_sem]); clear hb1) | (go_at_call 54; (with_reducible refine (window_is ((HR.out.ext (Below.alloc (Below.refl _ _) (Nat.le_refl _) _)).ext B1.out) HV.out HS.out hq HX.out).mono ?_); rintro e w2 ⟨rfl, hb2⟩; have B2 := Lib.hid hb2; clear hb2))
          go_ret2
          exact ⟨rII_eq rfl rfl, Below.then (Below.then (Below.alloc (Below.refl _ _) (Nat.le_refl _) _) B1.out) B2.out⟩
        · have HX : Hid (winI (winN L F S q) = x) := Lib.hid (by rw [hx, winI, if_neg hx0])
          rw [if_neg hx0]
          have hxp : 0 < x := by omega
          clear hL hll ho hv hs hx
          go_enter Try.func18, Try.ntmps18
          go_wp2_with (first | (go_at_call 52; (with_reducible refine (right25_is (HR.out.ext (Below.alloc (Below.refl _ _) (Nat.le_refl _) _)) HO.out).mono ?_); rintro e w1 ⟨rfl, hb1⟩; have B1 := Lib.hid hb1; have c0 := (hb1.cell (p := ⟨w.heap.size, 0, none⟩) (by simp)).trans (show _ = some (.int .i64 F) by simp [go_sem]); have c1 := (hb1.cell (p := ⟨w.heap.size, 1, none⟩) (by simp)).trans (show _ = some (.int .i64 S) by simp [go_sem]); clear hb1) | (go_at_call 54; (with_reducible refine (window_is ((HR.out.ext (Below.alloc (Below.refl _ _) (Nat.le_refl _) _)).ext B1.out) HV.out HS.out hq HX.out).mono ?_); rintro e w2 ⟨rfl, hb2⟩; have B2 := Lib.hid hb2; clear hb2))
          go_ret2
          exact ⟨rII_eq rfl rfl, Below.then (Below.then (Below.alloc (Below.refl _ _) (Nat.le_refl _) _) B1.out) B2.out⟩
theorem Window_is {a : Option Addr} {n c : Nat} {L : List Ta} {F S t x e : Int} {w : World} (hL : RdL w a n L) (h : winR L F S t = (x, e)) :
    Calls Try.prog 18 #[.slice a n c, .agg #[.int .i64 F, .int .i64 S], .int .i64 t] w fun en w' => en = rII x e ∧ Below w.heap.size w w' := by
  have := Window_any a n c L F S t w hL
  rw [h] at this; exact this
set_option maxHeartbeats 1000000 in
theorem rWindow_any (a : Option Addr) (n c : Nat) (L : List Ta) (F S t : Int) (w : World) (hL : RdL w a n L) :
    Calls Try.prog 19 #[.slice a n c, .agg #[.int .i64 F, .int .i64 S], .int .i64 t] w fun e w' => e = rII (winR L F S t).1 (winR L F S t).2 ∧ Below w.heap.size w w' := by
  have hll := hL.length
  have hsm := hL.small
  have HR := Lib.hid hL
  unfold winR inT
  rw [hll]
  cases ho : (okB L F S && inB t 0 ((n : Int) - 1))
  · have HO := Lib.hid ho
    clear hL hll ho
    go_enter Try.func19, Try.ntmps19
    go_wp2_with (go_at_call 55; (with_reducible refine (ready_is (HR.out.ext (Below.alloc (Below.refl _ _) (Nat.le_refl _) _)) HO.out).mono ?_); rintro e w1 ⟨rfl, hb1⟩; have B1 := Lib.hid hb1; have c0 := (hb1.cell (p := ⟨w.heap.size, 0, none⟩) (by simp)).trans (show _ = some (.int .i64 F) by simp [go_sem]); have c1 := (hb1.cell (p := ⟨w.heap.size, 1, none⟩) (by simp)).trans (show _ = some (.int .i64 S) by simp [go_sem]); clear hb1)
    go_ret2
    exact ⟨rII_eq rfl rfl, (Below.then (Below.alloc (Below.refl _ _) (Nat.le_refl _) _) B1.out)⟩
  · have HO := Lib.hid ho
    rw [if_pos rfl]
    rw [Bool.and_eq_true, inB_iff] at ho
    obtain ⟨hv, hs⟩ := ok_of ho.1
    obtain ⟨q, rfl⟩ := Int.eq_ofNat_of_zero_le ho.2.1
    have hq : q < n := by omega
    have HV := Lib.hid hv
    have HS := Lib.hid hs
    obtain ⟨x, hx⟩ : ∃ x, winN L F S q = x := ⟨_, rfl⟩
    have HX := Lib.hid hx
    rw [hx]
    by_cases hx0 : x = 0
    · have hx0' : (x == 0) = true := by simpa using hx0
      rw [if_pos hx0]
      clear hL hll ho hv hs hx
      go_enter Try.func19, Try.ntmps19
      go_wp2_with (first | (go_at_call 55; (with_reducible refine (ready_is (HR.out.ext (Below.alloc (Below.refl _ _) (Nat.le_refl _) _)) HO.out).mono ?_); rintro e w1 ⟨rfl, hb1⟩; have B1 := Lib.hid hb1; have c0 := (hb1.cell (p := ⟨w.heap.size, 0, none⟩) (by simp)).trans (show _ = some (.int .i64 F) by simp [go_sem]); have c1 := (hb1.cell (p := ⟨w.heap.size, 1, none⟩) (by simp)).trans (show _ = some (.int .i64 S) by simp [go_sem]); clear hb1) | (go_at_call 56; (with_reducible refine (rwindow_is ((HR.out.ext (Below.alloc (Below.refl _ _) (Nat.le_refl _) _)).ext B1.out) HV.out HS.out hq HX.out).mono ?_); rintro e w2 ⟨rfl, hb2⟩; have B2 := Lib.hid hb2; clear hb2))
      go_ret2
      exact ⟨rII_eq rfl rfl, Below.then (Below.then (Below.alloc (Below.refl _ _) (Nat.le_refl _) _) B1.out) B2.out⟩
    · have hx0' : (x == 0) = false := by simpa using hx0
      rw [if_neg hx0]
      clear hL hll ho hv hs hx
      go_enter Try.func19, Try.ntmps19
      go_wp2_with (first | (go_at_call 55; (with_reducible refine (ready_is (HR.out.ext (Below.alloc (Below.refl _ _) (Nat.le_refl _) _)) HO.out).mono ?_); rintro e w1 ⟨rfl, hb1⟩; have B1 := Lib.hid hb1; have c0 := (hb1.cell (p := ⟨w.heap.size, 0, none⟩) (by simp)).trans (show _ = some (.int .i64 F) by simp [go_sem]); have c1 := (hb1.cell (p := ⟨w.heap.size, 1, none⟩) (by simp)).trans (show _ = some (.int .i64 S) by simp [go_sem]); clear hb1) | (go_at_call 56; (with_reducible refine (rwindow_is ((HR.out.ext (Below.alloc (Below.refl _ _) (Nat.le_refl _) _)).ext B1.out) HV.out HS.out hq HX.out).mono ?_); rintro e w2 ⟨rfl, hb2⟩; have B2 := Lib.hid hb2; clear hb2))
      go_ret2
      exact ⟨rII_eq rfl rfl, Below.then (Below.then (Below.alloc (Below.refl _ _) (Nat.le_refl _) _) B1.out) B2.out⟩
theorem rWindow_is {a : Option Addr} {n c : Nat} {L : List Ta} {F S t x e : Int} {w : World} (hL : RdL w a n L) (h : winR L F S t = (x, e)) :
    Calls Try.prog 19 #[.slice a n c, .agg #[.int .i64 F, .int .i64 S], .int .i64 t] w fun en w' => en = rII x e ∧ Below w.heap.size w w' := by
  have := rWindow_any a n c L F S t w hL
  rw [h] at this; exact this
set_option maxHeartbeats 1000000 in
theorem Slice_any (a : Option Addr) (n c : Nat) (L : List Ta) (F : Int) (w : World) (hL : RdL w a n L) :
    Calls Try.prog 27 #[.slice a n c, .int .i64 F] w fun e w' => e = rII (sliceR L F).1 (sliceR L F).2 ∧ Below w.heap.size w w' := by
  have HR := Lib.hid hL
  unfold sliceR
  cases ho : validL L
  · have HO := Lib.hid ho
    rw [Bool.false_and]
    clear hL ho
    go_enter Try.func27, Try.ntmps27
    go_wp2_with (go_at_call 33; (with_reducible refine (valid_is HR.out HO.out).mono ?_); rintro e w1 ⟨rfl, hb1⟩; have B1 := Lib.hid hb1; clear hb1)
    go_ret2
    exact ⟨rII_eq rfl rfl, B1.out⟩
  · have HO := Lib.hid ho
    have HV := Lib.hid (valid_of ho)
    rw [Bool.true_and]
    by_cases h0 : F < 1
    · rw [if_neg (by rw [inB_iff]; omega)]
      clear hL ho
      go_enter Try.func27, Try.ntmps27
      go_wp2_with (go_at_call 33; (with_reducible refine (valid_is HR.out HO.out).mono ?_); rintro e w1 ⟨rfl, hb1⟩; have B1 := Lib.hid hb1; clear hb1)
      go_ret2
      exact ⟨rII_eq rfl rfl, B1.out⟩
    · have h0' : decide (F < 1) = false := by simpa using h0
      by_cases h1 : 60 < F
      · rw [if_neg (by rw [inB_iff]; omega)]
        clear hL ho
        go_enter Try.func27, Try.ntmps27
        go_wp2_with (go_at_call 33; (with_reducible refine (valid_is HR.out HO.out).mono ?_); rintro e w1 ⟨rfl, hb1⟩; have B1 := Lib.hid hb1; clear hb1)
        go_ret2
        exact ⟨rII_eq rfl rfl, B1.out⟩
      · have h1' : decide (60 < F) = false := by simpa using h1
        rw [if_pos (by rw [inB_iff]; omega)]
        obtain ⟨f, rfl⟩ := Int.eq_ofNat_of_zero_le (show 0 ≤ F by omega)
        obtain ⟨X, hX⟩ : ∃ X, sliceGo L f f = X := ⟨_, rfl⟩
        have HX : Hid (sliceGo L f f = X) := Lib.hid hX
        rw [Int.toNat_natCast, hX]
        obtain ⟨x, y⟩ := X
        clear hL ho hX
        go_enter Try.func27, Try.ntmps27
        go_wp2_with (go_at_call 33; (with_reducible refine (valid_is HR.out HO.out).mono ?_); rintro e w1 ⟨rfl, hb1⟩; have B1 := Lib.hid hb1; clear hb1)
        go_loopw [6] (fun i wr => ∃ k : Nat, k ≤ f ∧ i = .int .i64 ((k : Int) - 1) ∧ sliceGo L f k = (x, y) ∧ Below w1.heap.size w1 wr) (fun i _ => (intOf i + 1).toNat)
        case atStart => exact ⟨f, Nat.le_refl _, rfl, HX.out, Below.refl _ _⟩
        case round =>
          clear HX
          obtain ⟨k, hk, rfl, he, hB⟩ := hrel
          have HE := Lib.hid he; have HB := Lib.hid hB
          clear he hB
          rcases Nat.eq_zero_or_pos k with hk0 | hk0
          · subst hk0
            have hE := HE.out
            rw [sliceGo] at hE
            simp only [Prod.mk.injEq] at hE
            obtain ⟨rfl, rfl⟩ := hE
            go_wp2
            go_ret2
            exact ⟨rII_eq rfl rfl, Below.then B1.out HB.out⟩
          · obtain ⟨j, rfl⟩ : ∃ j, k = j + 1 := ⟨k - 1, by omega⟩
            have hjj : ((j + 1 : Nat) : Int) - 1 = (j : Int) := by omega
            have hE := HE.out
            rw [sliceGo] at hE
            obtain ⟨m, hm⟩ : ∃ m, accB L f j = m := ⟨_, rfl⟩
            have HA := Lib.hid hm
            have HSU : Hid (supB (f : Int) (j : Int) = true) := Lib.hid (by rw [supB_iff]; omega)
            rw [hm] at hE
            clear hm
            rw [hjj]
            cases m
            · have HE2 : Hid (sliceGo L f j = (x, y)) := Lib.hid (by simpa using hE)
              clear hE
              go_wp2_with (go_at_call 53; (with_reducible refine (acc_is ((HR.out.ext B1.out).ext HB.out) HV.out HSU.out HA.out).mono ?_); rintro e w2 ⟨rfl, hb2⟩; have B2 := Lib.hid hb2; clear hb2)
              go_roundw
              case rel => exact ⟨j, by omega, by go_num, HE2.out, Below.then HB.out B2.out⟩
              case measure => simp [intOf]
            · simp at hE
              obtain ⟨rfl, rfl⟩ := hE
              go_wp2_with (go_at_call 53; (with_reducible refine (acc_is ((HR.out.ext B1.out).ext HB.out) HV.out HSU.out HA.out).mono ?_); rintro e w2 ⟨rfl, hb2⟩; have B2 := Lib.hid hb2; clear hb2)
              go_ret2
              exact ⟨rII_eq rfl rfl, Below.then B1.out (Below.then HB.out B2.out)⟩
theorem Slice_is {a : Option Addr} {n c : Nat} {L : List Ta} {F x e : Int} {w : World} (hL : RdL w a n L) (h : sliceR L F = (x, e)) :
    Calls Try.prog 27 #[.slice a n c, .int .i64 F] w fun en w' => en = rII x e ∧ Below w.heap.size w w' := by
  have := Slice_any a n c L F w hL
  rw [h] at this; exact this
set_option maxHeartbeats 1000000 in
theorem rSlice_any (a : Option Addr) (n c : Nat) (L : List Ta) (F : Int) (w : World) (hL : RdL w a n L) :
    Calls Try.prog 28 #[.slice a n c, .int .i64 F] w fun e w' => e = rII (sliceR L F).1 (sliceR L F).2 ∧ Below w.heap.size w w' := by
  have HR := Lib.hid hL
  unfold sliceR
  cases ho : validL L
  · have HO := Lib.hid ho
    rw [Bool.false_and]
    clear hL ho
    go_enter Try.func28, Try.ntmps28
    go_wp2_with (go_at_call 34; (with_reducible refine (rValid_is HR.out HO.out).mono ?_); rintro e w1 ⟨rfl, hb1⟩; have B1 := Lib.hid hb1; clear hb1)
    go_ret2
    exact ⟨rII_eq rfl rfl, B1.out⟩
  · have HO := Lib.hid ho
    have HV := Lib.hid (valid_of ho)
    rw [Bool.true_and]
    by_cases h0 : F < 1
    · rw [if_neg (by rw [inB_iff]; omega)]
      clear hL ho
      go_enter Try.func28, Try.ntmps28
      go_wp2_with (go_at_call 34; (with_reducible refine (rValid_is HR.out HO.out).mono ?_); rintro e w1 ⟨rfl, hb1⟩; have B1 := Lib.hid hb1; clear hb1)
      go_ret2
      exact ⟨rII_eq rfl rfl, B1.out⟩
    · have h0' : decide (F < 1) = false := by simpa using h0
      by_cases h1 : 60 < F
      · rw [if_neg (by rw [inB_iff]; omega)]
        clear hL ho
        go_enter Try.func28, Try.ntmps28
        go_wp2_with (go_at_call 34; (with_reducible refine (rValid_is HR.out HO.out).mono ?_); rintro e w1 ⟨rfl, hb1⟩; have B1 := Lib.hid hb1; clear hb1)
        go_ret2
        exact ⟨rII_eq rfl rfl, B1.out⟩
      · have h1' : decide (60 < F) = false := by simpa using h1
        rw [if_pos (by rw [inB_iff]; omega)]
        obtain ⟨f, rfl⟩ := Int.eq_ofNat_of_zero_le (show 0 ≤ F by omega)
        obtain ⟨X, hX⟩ : ∃ X, sliceGo L f f = X := ⟨_, rfl⟩
        have HX : Hid (sliceGo L f f = X) := Lib.hid hX
        rw [Int.toNat_natCast, hX]
        obtain ⟨x, y⟩ := X
        clear hL ho hX
        go_enter Try.func28, Try.ntmps28
        go_wp2_with (go_at_call 34; (with_reducible refine (rValid_is HR.out HO.out).mono ?_); rintro e w1 ⟨rfl, hb1⟩; have B1 := Lib.hid hb1; clear hb1)
        go_loopw [6] (fun i wr => ∃ k : Nat, k ≤ f ∧ i = .int .i64 ((k : Int) - 1) ∧ sliceGo L f k = (x, y) ∧ Below w1.heap.size w1 wr) (fun i _ => (intOf i + 1).toNat)
        case atStart => exact ⟨f, Nat.le_refl _, rfl, HX.out, Below.refl _ _⟩
        case round =>
          clear HX
          obtain ⟨k, hk, rfl, he, hB⟩ := hrel
          have HE := Lib.hid he; have HB := Lib.hid hB
          clear he hB
          rcases Nat.eq_zero_or_pos k with hk0 | hk0
          · subst hk0
            have hE := HE.out
            rw [sliceGo] at hE
            simp only [Prod.mk.injEq] at hE
            obtain ⟨rfl, rfl⟩ := hE
            go_wp2
            go_ret2
            exact ⟨rII_eq rfl rfl, Below.then B1.out HB.out⟩
          · obtain ⟨j, rfl⟩ : ∃ j, k = j + 1 := ⟨k - 1, by omega⟩
            have hjj : ((j + 1 : Nat) : Int) - 1 = (j : Int) := by omega
            have hE := HE.out
            rw [sliceGo] at hE
            obtain ⟨m, hm⟩ : ∃ m, accB L f j = m := ⟨_, rfl⟩
            have HA := Lib.hid hm
            have HSU : Hid (supB (f : Int) (j : Int) = true) := Lib.hid (by rw [supB_iff]; omega)
            rw [hm] at hE
            clear hm
            rw [hjj]
            cases m
            · have HE2 : Hid (sliceGo L f j = (x, y)) := Lib.hid (by simpa using hE)
              clear hE
              go_wp2_with (go_at_call 68; (with_reducible refine (racc_is ((HR.out.ext B1.out).ext HB.out) HV.out HSU.out HA.out).mono ?_); rintro e w2 ⟨rfl, hb2⟩; have B2 := Lib.hid hb2; clear hb2)
              go_roundw
              case rel => exact ⟨j, by omega, by go_num, HE2.out, Below.then HB.out B2.out⟩
              case measure => simp [intOf]
            · simp at hE
              obtain ⟨rfl, rfl⟩ := hE
              go_wp2_with (go_at_call 68; (with_reducible refine (racc_is ((HR.out.ext B1.out).ext HB.out) HV.out HSU.out HA.out).mono ?_); rintro e w2 ⟨rfl, hb2⟩; have B2 := Lib.hid hb2; clear hb2)
              go_ret2
              exact ⟨rII_eq rfl rfl, Below.then B1.out (Below.then HB.out B2.out)⟩
theorem rSlice_is {a : Option Addr} {n c : Nat} {L : List Ta} {F x e : Int} {w : World} (hL : RdL w a n L) (h : sliceR L F = (x, e)) :
    Calls Try.prog 28 #[.slice a n c, .int .i64 F] w fun en w' => en = rII x e ∧ Below w.heap.size w w' := by
  have := rSlice_any a n c L F w hL
  rw [h] at this; exact this
set_option maxHeartbeats 1000000 in
theorem Cost_any (a : Option Addr) (n c : Nat) (L : List Ta) (t : Int) (w : World) (hL : RdL w a n L) :
    Calls Try.prog 30 #[.slice a n c, .int .i64 t] w fun e w' => e = rII (costR L t).1 (costR L t).2 ∧ Below w.heap.size w w' := by
  have hll := hL.length
  have hsm := hL.small
  have HR := Lib.hid hL
  unfold costR inT
  rw [hll]
  cases ho : validL L
  · have HO := Lib.hid ho
    rw [Bool.false_and]
    clear hL hll ho
    go_enter Try.func30, Try.ntmps30
    go_wp2_with (go_at_call 33; (with_reducible refine (valid_is HR.out HO.out).mono ?_); rintro e w1 ⟨rfl, hb1⟩; have B1 := Lib.hid hb1; clear hb1)
    go_ret2
    exact ⟨rII_eq rfl rfl, B1.out⟩
  · have HO := Lib.hid ho
    rw [Bool.true_and]
    by_cases h0 : t < 0
    · rw [if_neg (by rw [inB_iff]; omega)]
      clear hL hll ho
      go_enter Try.func30, Try.ntmps30
      go_wp2_with (go_at_call 33; (with_reducible refine (valid_is HR.out HO.out).mono ?_); rintro e w1 ⟨rfl, hb1⟩; have B1 := Lib.hid hb1; clear hb1)
      go_ret2
      exact ⟨rII_eq rfl rfl, B1.out⟩
    · have h0' : decide (t < 0) = false := by simpa using h0
      by_cases h1 : (n : Int) ≤ t
      · rw [if_neg (by rw [inB_iff]; omega)]
        clear hL hll ho
        go_enter Try.func30, Try.ntmps30
        go_wp2_with (go_at_call 33; (with_reducible refine (valid_is HR.out HO.out).mono ?_); rintro e w1 ⟨rfl, hb1⟩; have B1 := Lib.hid hb1; clear hb1)
        go_ret2
        exact ⟨rII_eq rfl rfl, B1.out⟩
      · rw [if_pos (by rw [inB_iff]; omega)]
        obtain ⟨q, rfl⟩ := Int.eq_ofNat_of_zero_le (Int.not_lt.1 h0)
        have hq : q < n := by omega
        have h1' : decide ((n : Int) ≤ (q : Int)) = false := by simpa using h1
        have h1'' : decide (n ≤ q) = false := by simp; omega
        have hv := valid_of ho
        obtain ⟨u, b, off, pa, pn, pc, rfl, hb, hg, hpl, HK⟩ := hL.cells q hq
        have hum := List.mem_of_getElem? hg
        have hpn := hv.r.pcs u hum
        rw [hpl] at hpn
        have HPV : Hid (∀ p ∈ u.pcs, 1 ≤ p.1 ∧ p.1 ≤ 200) := Lib.hid (fun p hp => (hv.r.piece u hum p hp).1)
        obtain ⟨ct, hct⟩ : ∃ x, costT u = x := ⟨_, rfl⟩
        have HCT := Lib.hid hct
        rw [taAt_of hg, hct]
        clear hL hll ho hv hum hg hpl hct
        go_enter Try.func30, Try.ntmps30
        go_wp2_with (first | (go_at_call 33; (with_reducible refine (valid_is HR.out HO.out).mono ?_); rintro e w1 ⟨rfl, hb1⟩; have B1 := Lib.hid hb1; obtain ⟨k0, k1, k2, k3, k4, k5, hbw, hpp⟩ := HK.out w1 hb1; have HPP := Lib.hid hpp; clear hpp; clear hb1) | (go_at_call 69; (with_reducible refine (bcost_is HPP.out HPV.out hpn.2 HCT.out).mono ?_); rintro e w2 ⟨rfl, hb2⟩; have B2 := Lib.hid hb2; clear hb2))
        go_ret2
        exact ⟨rII_eq rfl rfl, (by repeat (first | (with_reducible exact Below.refl _ _) | (refine Below.then ?_ (Hid.out (by with_reducible assumption)))))⟩
theorem Cost_is {a : Option Addr} {n c : Nat} {L : List Ta} {t x e : Int} {w : World} (hL : RdL w a n L) (h : costR L t = (x, e)) :
    Calls Try.prog 30 #[.slice a n c, .int .i64 t] w fun en w' => en = rII x e ∧ Below w.heap.size w w' := by
  have := Cost_any a n c L t w hL
  rw [h] at this; exact this
set_option maxHeartbeats 1000000 in
theorem rCost_any (a : Option Addr) (n c : Nat) (L : List Ta) (t : Int) (w : World) (hL : RdL w a n L) :
    Calls Try.prog 24 #[.slice a n c, .int .i64 t] w fun e w' => e = rII (costR L t).1 (costR L t).2 ∧ Below w.heap.size w w' := by
  have hll := hL.length
  have hsm := hL.small
  have HR := Lib.hid hL
  unfold costR inT
  rw [hll]
  cases ho : validL L
  · have HO := Lib.hid ho
    rw [Bool.false_and]
    clear hL hll ho
    go_enter Try.func24, Try.ntmps24
    go_wp2_with (go_at_call 34; (with_reducible refine (rValid_is HR.out HO.out).mono ?_); rintro e w1 ⟨rfl, hb1⟩; have B1 := Lib.hid hb1; clear hb1)
    go_ret2
    exact ⟨rII_eq rfl rfl, B1.out⟩
  · have HO := Lib.hid ho
    rw [Bool.true_and]
    by_cases h0 : t < 0
    · rw [if_neg (by rw [inB_iff]; omega)]
      clear hL hll ho
      go_enter Try.func24, Try.ntmps24
      go_wp2_with (go_at_call 34; (with_reducible refine (rValid_is HR.out HO.out).mono ?_); rintro e w1 ⟨rfl, hb1⟩; have B1 := Lib.hid hb1; clear hb1)
      go_ret2
      exact ⟨rII_eq rfl rfl, B1.out⟩
    · have h0' : decide (t < 0) = false := by simpa using h0
      by_cases h1 : (n : Int) ≤ t
      · rw [if_neg (by rw [inB_iff]; omega)]
        clear hL hll ho
        go_enter Try.func24, Try.ntmps24
        go_wp2_with (go_at_call 34; (with_reducible refine (rValid_is HR.out HO.out).mono ?_); rintro e w1 ⟨rfl, hb1⟩; have B1 := Lib.hid hb1; clear hb1)
        go_ret2
        exact ⟨rII_eq rfl rfl, B1.out⟩
      · rw [if_pos (by rw [inB_iff]; omega)]
        obtain ⟨q, rfl⟩ := Int.eq_ofNat_of_zero_le (Int.not_lt.1 h0)
        have hq : q < n := by omega
        have h1' : decide ((n : Int) ≤ (q : Int)) = false := by simpa using h1
        have h1'' : decide (n ≤ q) = false := by simp; omega
        have hv := valid_of ho
        obtain ⟨u, b, off, pa, pn, pc, rfl, hb, hg, hpl, HK⟩ := hL.cells q hq
        have hum := List.mem_of_getElem? hg
        have hpn := hv.r.pcs u hum
        rw [hpl] at hpn
        have HPV : Hid (∀ p ∈ u.pcs, 1 ≤ p.1 ∧ p.1 ≤ 200) := Lib.hid (fun p hp => (hv.r.piece u hum p hp).1)
        obtain ⟨ct, hct⟩ : ∃ x, costT u = x := ⟨_, rfl⟩
        have HCT := Lib.hid hct
        rw [taAt_of hg, hct]
        clear hL hll ho hv hum hg hpl hct
        go_enter Try.func24, Try.ntmps24
        go_wp2_with (first | (go_at_call 34; (with_reducible refine (rValid_is HR.out HO.out).mono ?_); rintro e w1 ⟨rfl, hb1⟩; have B1 := Lib.hid hb1; obtain ⟨k0, k1, k2, k3, k4, k5, hbw, hpp⟩ := HK.out w1 hb1; have HPP := Lib.hid hpp; clear hpp; clear hb1) | (go_at_call 60; (with_reducible refine (rcost_is HPP.out HPV.out hpn.2 HCT.out).mono ?_); rintro e w2 ⟨rfl, hb2⟩; have B2 := Lib.hid hb2; clear hb2))
        go_ret2
        exact ⟨rII_eq rfl rfl, (by repeat (first | (with_reducible exact Below.refl _ _) | (refine Below.then ?_ (Hid.out (by with_reducible assumption)))))⟩
theorem rCost_is {a : Option Addr} {n c : Nat} {L : List Ta} {t x e : Int} {w : World} (hL : RdL w a n L) (h : costR L t = (x, e)) :
    Calls Try.prog 24 #[.slice a n c, .int .i64 t] w fun en w' => en = rII x e ∧ Below w.heap.size w w' := by
  have := rCost_any a n c L t w hL
  rw [h] at this; exact this
end Go.Proofs.Ytabbmnnohnfbeaa
