/- The walk of ResponseWindows: it returns true. The conditions: the tasks read as named; their lists are no longer than memory bears. -/
import Derived.Test.YtabbmnnohnfbeaaRsSane
import Derived.Test.YtabbmnnohnfbeaaRsTop2
import Derived.Test.YtabbmnnohnfbeaaIntsEq
namespace Go.Proofs.Ytabbmnnohnfbeaa
open Go.RowKit
set_option linter.unusedSimpArgs false
set_option linter.unusedVariables false
theorem Resps_is {a : Option Addr} {n c : Nat} {L : List Ta} {F S e : Int} {xs : List Int} {w : World} (hL : RdL w a n L) (h : respsR L F S = (xs, e)) :
    Calls Try.prog 20 #[.slice a n c, .agg #[.int .i64 F, .int .i64 S]] w (OutTE w.heap.size w xs e) := by
  have := Resps_any a n c L F S w hL
  rw [h] at this; exact this
theorem rResps_is {a : Option Addr} {n c : Nat} {L : List Ta} {F S e : Int} {xs : List Int} {w : World} (hL : RdL w a n L) (h : respsR L F S = (xs, e)) :
    Calls Try.prog 21 #[.slice a n c, .agg #[.int .i64 F, .int .i64 S]] w (OutTE w.heap.size w xs e) := by
  have := rResps_any a n c L F S w hL
  rw [h] at this; exact this
theorem rBlocking_is {a : Option Addr} {n c : Nat} {L : List Ta} {t x e : Int} {w : World} (hL : RdL w a n L) (h : blkgR L t = (x, e)) :
    Calls Try.prog 25 #[.slice a n c, .int .i64 t] w fun en w' => en = rII x e ∧ Below w.heap.size w w' := by
  have := rBlocking_any a n c L t w hL
  rw [h] at this; exact this
/-- the first of the ranks: nobody is ahead of it -/
theorem first_none {L : List Ta} {q : Int} (h : (rankL L)[0]? = some q) (v : Int) : demN L q v = ownN L q := by
  have hc := rank_cnt h
  obtain ⟨h0, h1⟩ := rank_mem.1 (List.mem_of_getElem? h)
  rw [← demN_take h0 h1, hc]; rfl
theorem first_win {L : List Ta} {F S : Int} {q : Nat} (hS : supB F S = true) (hv : ValidT L) (h : (rankL L)[0]? = some (q : Int)) (hw : winN L F S q ≠ 0) :
    ∃ y : Nat, winN L F S q = y ∧ 1 ≤ y ∧ y ≤ 2000 ∧ leastN F S y = ownN L q ∧ leastN F S ((y : Int) - 1) < ownN L q := by
  obtain ⟨k1, k2⟩ := supB_iff.1 hS
  obtain ⟨y, hy, h1, h2, h3, h4⟩ := (isWin L F S q).some_ hw
  rw [first_none h] at h3
  obtain ⟨q0, q1⟩ := rank_mem.1 (List.mem_of_getElem? h)
  have hown := ownN_bd hv.r q0 q1
  obtain ⟨z, rfl⟩ : ∃ z, y = z + 1 := ⟨y - 1, by omega⟩
  have hlt : leastN F S (z : Int) < ownN L q := by
    by_cases hz : z = 0
    · subst hz
      have := least_zero k2.1 (show S < F by omega)
      simp only [Int.natCast_zero]; omega
    · have := h4 z (by omega) (by omega)
      rw [first_none h] at this
      omega
  have hs := (least_succ k2.1 (show S < F by omega) z).2
  refine ⟨z + 1, hy, h1, by omega, by omega, ?_⟩
  rw [show ((z + 1 : Nat) : Int) - 1 = (z : Int) by omega]
  exact hlt
set_option maxRecDepth 10000 in
set_option maxHeartbeats 8000000 in
theorem windows_walk {w : World} (a : Option Addr) (n c : Nat) (L : List Ta) (hL : RdL w a n L) (hT : ∀ t ∈ L, t.pcs.length ≤ 281474976710656) (hN : NilOk a n c) (F S t : Int) (_ : -9223372036854775808 ≤ t ∧ t ≤ 9223372036854775807) :
    Calls Try.prog 4 #[.slice a n c, .agg #[.int .i64 F, .int .i64 S], .int .i64 t] w fun e w' => e = .returned (.bool true) ∧ Below w.heap.size w w' := by
  have HM := Lib.hid ((many_any a n c L _ (hL.ext (Below.alloc (Below.refl _ _) (Nat.le_refl _) (.cells #[.int .i64 F, .int .i64 S] 24))) hT))
  have HR := Lib.hid hL
  have hll := hL.length
  have hsm := hL.small
  cases hm : manyL n L
  · rw [hm] at HM
    have hn4 := (Many_no hm).1
    obtain ⟨wx, we, hw⟩ : ∃ x e, winR L F S t = (x, e) := ⟨_, _, rfl⟩
    have HW := Lib.hid hw
    obtain ⟨xs, re, hrs⟩ : ∃ x e, respsR L F S = (x, e) := ⟨_, _, rfl⟩
    have HRS := Lib.hid hrs
    by_cases hok : okB L F S = true ∧ 0 < n
    · obtain ⟨ho, hn0⟩ := hok
      obtain ⟨hv, hs⟩ := ok_of ho
      obtain rfl : re = 0 := by rw [respsR, ho] at hrs; simp at hrs; exact hrs.2.symm
      obtain ⟨rk, hrk⟩ : ∃ x, rankL L = x := ⟨_, rfl⟩
      have hrl : rk.length = n := by rw [← hrk, rank_len, hll]
      have HRK : Hid (ranksR L = (rk, 0)) := Lib.hid (by rw [ranksR, hv.rb, hrk]; rfl)
      obtain ⟨q0, hq0⟩ : ∃ x, rk[0]? = some x := ⟨_, List.getElem?_eq_getElem (by omega)⟩
      obtain ⟨hx0, hx1⟩ := rank_mem.1 (show q0 ∈ rankL L by rw [hrk]; exact List.mem_of_getElem? hq0)
      obtain ⟨q, rfl⟩ := Int.eq_ofNat_of_zero_le hx0
      have hq : q < L.length := by omega
      have HK0 := Lib.hid hq0
      have hin : inT L q = true := inT_iff.2 ⟨hx0, hx1⟩
      by_cases hw0 : winN L F S q = 0
      · have HW2 : Hid (winR L F S q = (0, 3)) := Lib.hid (by rw [winR, ho, hin, hw0]; rfl)
        clear hL hT hm hw hrs ho hll hv hs hrk hq0 hx0 hx1 hw0 hin
        go_enter Try.func4, Try.ntmps4
        go_wp2_with (first
      | (go_at_call 15; refine (HM.out).mono ?_; rintro e w1 ⟨rfl, rfl⟩)
      | (go_at_call 18; (with_reducible refine (Window_is (HR.out.ext (Below.alloc (Below.refl _ _) (Nat.le_refl _) _)) HW.out).mono ?_); rintro e w1 ⟨rfl, hb1⟩; have B1 := Lib.hid (Below.then (Below.alloc (Below.refl _ _) (Nat.le_refl _) _) hb1); have c0 := (hb1.cell (p := ⟨w.heap.size, 0, none⟩) (by simp)).trans (show _ = some (.int .i64 F) by simp [go_sem]); have c1 := (hb1.cell (p := ⟨w.heap.size, 1, none⟩) (by simp)).trans (show _ = some (.int .i64 S) by simp [go_sem]); have hz1 := hb1.size; simp only [World.size_alloc] at hz1; clear hb1)
      | (go_at_call 19; (with_reducible refine (rWindow_is (HR.out.ext (by repeat (first | (with_reducible exact Below.refl _ _) | (refine Below.then ?_ (Hid.out (by with_reducible assumption)))))) HW.out).mono ?_); rintro e w2 ⟨rfl, hb2⟩; have B2 := Lib.hid hb2; have d0 := (hb2.cell (p := ⟨w.heap.size, 0, none⟩) (by simp only []; omega)).trans c0; have d1 := (hb2.cell (p := ⟨w.heap.size, 1, none⟩) (by simp only []; omega)).trans c1; have hz2 := hb2.size; clear hb2)
      | (go_at_call 20; (with_reducible refine (Resps_is (HR.out.ext (by repeat (first | (with_reducible exact Below.refl _ _) | (refine Below.then ?_ (Hid.out (by with_reducible assumption)))))) HRS.out).mono ?_); rintro e w3 ⟨a3, n3, c3, rfl, ho3, hb3⟩; have R3 := Lib.hid (ownsI_rd ho3); have B3 := Lib.hid hb3; have e0 := (hb3.cell (p := ⟨w.heap.size, 0, none⟩) (by simp only []; omega)).trans d0; have e1 := (hb3.cell (p := ⟨w.heap.size, 1, none⟩) (by simp only []; omega)).trans d1; have hz3 := hb3.size; clear ho3 hb3)
      | (go_at_call 21; (with_reducible refine (rResps_is (HR.out.ext (by repeat (first | (with_reducible exact Below.refl _ _) | (refine Below.then ?_ (Hid.out (by with_reducible assumption)))))) HRS.out).mono ?_); rintro e w4 ⟨a4, n4, c4, rfl, ho4, hb4⟩; have R4 := Lib.hid (ownsI_rd ho4); have B4 := Lib.hid hb4; have f0 := (hb4.cell (p := ⟨w.heap.size, 0, none⟩) (by simp only []; omega)).trans e0; have f1 := (hb4.cell (p := ⟨w.heap.size, 1, none⟩) (by simp only []; omega)).trans e1; have hz4 := hb4.size; clear ho4 hb4)
      | (go_at_call 22; (with_reducible refine (ints_eq _ _ _ _ _ _ xs _ (R3.out.ext (by repeat (first | (with_reducible exact Below.refl _ _) | (refine Below.then ?_ (Hid.out (by with_reducible assumption)))))) R4.out).mono ?_); rintro e w5 ⟨rfl, hb5⟩; have B5 := Lib.hid hb5; have g0 := (hb5.cell (p := ⟨w.heap.size, 0, none⟩) (by simp only []; omega)).trans f0; have g1 := (hb5.cell (p := ⟨w.heap.size, 1, none⟩) (by simp only []; omega)).trans f1; have hz5 := hb5.size; clear hb5)
      | (go_at_call 17; (with_reducible refine (sane_any _).mono ?_); rintro e w9 ⟨rfl, hb9⟩; have B9 := Lib.hid hb9; clear hb9)
      | (go_at_call 23; (with_reducible refine (rRanks_is (HR.out.ext (by repeat (first | (with_reducible exact Below.refl _ _) | (refine Below.then ?_ (Hid.out (by with_reducible assumption)))))) HRK.out).mono ?_); rintro e w6 ⟨a6, n6, c6, rfl, ho6, hb6⟩; have hn6 : rk.length = n6 := (ownsI_rd ho6).length; have hs6 := (ownsI_rd ho6).small; have B6 := Lib.hid hb6; have i0 := (hb6.cell (p := ⟨w.heap.size, 0, none⟩) (by simp only []; omega)).trans g0; have i1 := (hb6.cell (p := ⟨w.heap.size, 1, none⟩) (by simp only []; omega)).trans g1; have hz6 := hb6.size; have hbx6 : w.heap.size < w6.heap.size := (by omega); obtain ⟨x6, bl, ol, rfl, hbl, hcx, hx6⟩ := (ownsI_rd ho6).idx 0 (by omega); rw [HK0.out] at hx6; obtain rfl : (q : Int) = x6 := (by simpa using hx6); rw [Nat.add_zero] at hcx; clear ho6 hb6 hx6)
          | (refine wp_region_later_lit (by kernel_rfl) (by kernel_rfl) ?_; (repeat (go_big_quiet_step ((go_at_call 18; exact later_of (Window_is (later_rdL (HR.out.ext (by repeat (first | (with_reducible exact Below.refl _ _) | (refine Below.then ?_ (Hid.out (by with_reducible assumption)))))) (Below.refl _ _)) HW2.out))))); refine wpQuiet_nil ?_; intro w7 hb7))
        go_ret
        exact ⟨rfl, Below.then (show Below w.heap.size w _ from Below.then (show Below w.heap.size w w6 from (by repeat (first | (with_reducible exact Below.refl _ _) | (refine Below.then ?_ (Hid.out (by with_reducible assumption)))))) hb7) B9.out⟩
      · have hwn := winN_bd L F S q
        obtain ⟨y, hy, y1, y2, y3, y4⟩ := first_win hs hv (by rw [hrk]; exact hq0) hw0
        obtain ⟨ow, how⟩ : ∃ x, ownN L q = x := ⟨_, rfl⟩
        obtain ⟨ct, hct⟩ : ∃ x, costT (taAt L q) = x := ⟨_, rfl⟩
        obtain ⟨bn, hbn⟩ : ∃ x, blockN L q = x := ⟨_, rfl⟩
        obtain ⟨lz, hlz⟩ : ∃ x, leastN F S ((y : Int) - 1) = x := ⟨_, rfl⟩
        have hob := ownN_bd hv.r hx0 hx1
        have hbb := blockN_bd hv.r q
        have hsum : ow = ct + bn := by rw [← how, ownN, hct, hbn]
        obtain ⟨Y, hY⟩ : ∃ Y : Int, (y : Int) = Y := ⟨_, rfl⟩
        have HW2 : Hid (winR L F S q = (Y, 0)) := Lib.hid (by rw [winR, ho, hin, ← hY, ← hy]; simp [hw0])
        have HCO : Hid (costR L q = (ct, 0)) := Lib.hid (by rw [costR, hin, hct]; unfold okB at ho; rw [Bool.and_eq_true] at ho; rw [ho.1]; rfl)
        have HBL : Hid (blkgR L q = (bn, 0)) := Lib.hid (by rw [blkgR, isTk_iff.2 ⟨hv.rb, hx0, hx1⟩, hbn]; rfl)
        have HL1 : Hid (lstR F S Y = (ct + bn, 0)) := Lib.hid (by rw [← hY, lstR_ok hs (by omega), y3, how, hsum])
        have HL2 : Hid (lstR F S (Y - 1) = (lz, 0)) := Lib.hid (by
          obtain ⟨z, rfl⟩ : ∃ z, y = z + 1 := ⟨y - 1, by omega⟩
          have e : Y - 1 = (z : Int) := by omega
          rw [e, lstR_ok hs (by omega), ← hlz]
          congr 2
          omega)
        have hlt : decide (lz < ct + bn) = true := by rw [← hsum, ← how, ← hlz]; exact decide_eq_true y4
        have hYb : 1 ≤ Y ∧ Y ≤ 2000 := by omega
        rw [how] at hob
        rw [hbn] at hbb
        have hct2 : 0 ≤ ct ∧ ct ≤ 1800 := by
          have := costT_bd hv.r (taAt_mem' hx0 hx1)
          rw [hct] at this; omega
        clear hL hT hm hw hrs ho hll hv hs hrk hq0 hx0 hx1 hw0 hin how hct hbn hlz y3 y4 hsum hob hY hy hwn
        go_enter Try.func4, Try.ntmps4
        go_wp2_with (first
      | (go_at_call 15; refine (HM.out).mono ?_; rintro e w1 ⟨rfl, rfl⟩)
      | (go_at_call 18; (with_reducible refine (Window_is (HR.out.ext (Below.alloc (Below.refl _ _) (Nat.le_refl _) _)) HW.out).mono ?_); rintro e w1 ⟨rfl, hb1⟩; have B1 := Lib.hid (Below.then (Below.alloc (Below.refl _ _) (Nat.le_refl _) _) hb1); have c0 := (hb1.cell (p := ⟨w.heap.size, 0, none⟩) (by simp)).trans (show _ = some (.int .i64 F) by simp [go_sem]); have c1 := (hb1.cell (p := ⟨w.heap.size, 1, none⟩) (by simp)).trans (show _ = some (.int .i64 S) by simp [go_sem]); have hz1 := hb1.size; simp only [World.size_alloc] at hz1; clear hb1)
      | (go_at_call 19; (with_reducible refine (rWindow_is (HR.out.ext (by repeat (first | (with_reducible exact Below.refl _ _) | (refine Below.then ?_ (Hid.out (by with_reducible assumption)))))) HW.out).mono ?_); rintro e w2 ⟨rfl, hb2⟩; have B2 := Lib.hid hb2; have d0 := (hb2.cell (p := ⟨w.heap.size, 0, none⟩) (by simp only []; omega)).trans c0; have d1 := (hb2.cell (p := ⟨w.heap.size, 1, none⟩) (by simp only []; omega)).trans c1; have hz2 := hb2.size; clear hb2)
      | (go_at_call 20; (with_reducible refine (Resps_is (HR.out.ext (by repeat (first | (with_reducible exact Below.refl _ _) | (refine Below.then ?_ (Hid.out (by with_reducible assumption)))))) HRS.out).mono ?_); rintro e w3 ⟨a3, n3, c3, rfl, ho3, hb3⟩; have R3 := Lib.hid (ownsI_rd ho3); have B3 := Lib.hid hb3; have e0 := (hb3.cell (p := ⟨w.heap.size, 0, none⟩) (by simp only []; omega)).trans d0; have e1 := (hb3.cell (p := ⟨w.heap.size, 1, none⟩) (by simp only []; omega)).trans d1; have hz3 := hb3.size; clear ho3 hb3)
      | (go_at_call 21; (with_reducible refine (rResps_is (HR.out.ext (by repeat (first | (with_reducible exact Below.refl _ _) | (refine Below.then ?_ (Hid.out (by with_reducible assumption)))))) HRS.out).mono ?_); rintro e w4 ⟨a4, n4, c4, rfl, ho4, hb4⟩; have R4 := Lib.hid (ownsI_rd ho4); have B4 := Lib.hid hb4; have f0 := (hb4.cell (p := ⟨w.heap.size, 0, none⟩) (by simp only []; omega)).trans e0; have f1 := (hb4.cell (p := ⟨w.heap.size, 1, none⟩) (by simp only []; omega)).trans e1; have hz4 := hb4.size; clear ho4 hb4)
      | (go_at_call 22; (with_reducible refine (ints_eq _ _ _ _ _ _ xs _ (R3.out.ext (by repeat (first | (with_reducible exact Below.refl _ _) | (refine Below.then ?_ (Hid.out (by with_reducible assumption)))))) R4.out).mono ?_); rintro e w5 ⟨rfl, hb5⟩; have B5 := Lib.hid hb5; have g0 := (hb5.cell (p := ⟨w.heap.size, 0, none⟩) (by simp only []; omega)).trans f0; have g1 := (hb5.cell (p := ⟨w.heap.size, 1, none⟩) (by simp only []; omega)).trans f1; have hz5 := hb5.size; clear hb5)
      | (go_at_call 17; (with_reducible refine (sane_any _).mono ?_); rintro e w9 ⟨rfl, hb9⟩; have B9 := Lib.hid hb9; clear hb9)
      | (go_at_call 23; (with_reducible refine (rRanks_is (HR.out.ext (by repeat (first | (with_reducible exact Below.refl _ _) | (refine Below.then ?_ (Hid.out (by with_reducible assumption)))))) HRK.out).mono ?_); rintro e w6 ⟨a6, n6, c6, rfl, ho6, hb6⟩; have hn6 : rk.length = n6 := (ownsI_rd ho6).length; have hs6 := (ownsI_rd ho6).small; have B6 := Lib.hid hb6; have i0 := (hb6.cell (p := ⟨w.heap.size, 0, none⟩) (by simp only []; omega)).trans g0; have i1 := (hb6.cell (p := ⟨w.heap.size, 1, none⟩) (by simp only []; omega)).trans g1; have hz6 := hb6.size; have hbx6 : w.heap.size < w6.heap.size := (by omega); obtain ⟨x6, bl, ol, rfl, hbl, hcx, hx6⟩ := (ownsI_rd ho6).idx 0 (by omega); rw [HK0.out] at hx6; obtain rfl : (q : Int) = x6 := (by simpa using hx6); rw [Nat.add_zero] at hcx; clear ho6 hb6 hx6)
          | ((refine wp_region_later_lit (by kernel_rfl) (by kernel_rfl) ?_; (repeat (go_big_quiet_step ((go_at_call 18; exact later_of (Window_is (later_rdL (HR.out.ext (by repeat (first | (with_reducible exact Below.refl _ _) | (refine Below.then ?_ (Hid.out (by with_reducible assumption)))))) (Below.refl _ _)) HW2.out))))); refine wpQuiet_nil ?_; intro w7 hb7); have B7 := Lib.hid hb7; have l0 := (hb7.cell (p := ⟨w.heap.size, 0, none⟩) hbx6).trans i0; have l1 := (hb7.cell (p := ⟨w.heap.size, 1, none⟩) hbx6).trans i1; have hcx7 := (hb7.cell (p := ⟨bl, ol, none⟩) hbl).trans hcx; have hbl7 := Nat.lt_of_lt_of_le hbl hb7.size; have hbx7 := Nat.lt_of_lt_of_le hbx6 hb7.size; clear hb7)
          | (go_at_call 24; (with_reducible refine (rCost_is (HR.out.ext (by repeat (first | (with_reducible exact Below.refl _ _) | (refine Below.then ?_ (Hid.out (by with_reducible assumption)))))) HCO.out).mono ?_); rintro e w10 ⟨rfl, hb10⟩; have B10 := Lib.hid hb10; have m0 := (hb10.cell (p := ⟨w.heap.size, 0, none⟩) hbx7).trans l0; have m1 := (hb10.cell (p := ⟨w.heap.size, 1, none⟩) hbx7).trans l1; have hcx10 := (hb10.cell (p := ⟨bl, ol, none⟩) hbl7).trans hcx7; have hbx10 := Nat.lt_of_lt_of_le hbx7 hb10.size; clear hb10)
          | (go_at_call 25; (with_reducible refine (rBlocking_is (HR.out.ext (by repeat (first | (with_reducible exact Below.refl _ _) | (refine Below.then ?_ (Hid.out (by with_reducible assumption)))))) HBL.out).mono ?_); rintro e w11 ⟨rfl, hb11⟩; have B11 := Lib.hid hb11; have p0 := (hb11.cell (p := ⟨w.heap.size, 0, none⟩) hbx10).trans m0; have p1 := (hb11.cell (p := ⟨w.heap.size, 1, none⟩) hbx10).trans m1; have hbx11 := Nat.lt_of_lt_of_le hbx10 hb11.size; clear hb11)
          | (go_at_call 26; first
              | ((with_reducible refine (Least_is HL1.out).mono ?_); rintro e w12 ⟨rfl, hb12⟩; have B12 := Lib.hid hb12; have s0 := (hb12.cell (p := ⟨w.heap.size, 0, none⟩) hbx11).trans p0; have s1 := (hb12.cell (p := ⟨w.heap.size, 1, none⟩) hbx11).trans p1; clear hb12)
              | ((with_reducible refine (Least_is HL2.out).mono ?_); rintro e w13 ⟨rfl, hb13⟩; have B13 := Lib.hid hb13; clear hb13)))
        go_ret
        exact ⟨rfl, (by repeat (first | (with_reducible exact Below.refl _ _) | (refine Below.then ?_ (Hid.out (by with_reducible assumption)))))⟩
    · have hsh : (re != 0) = true ∨ n = 0 := by
        by_cases ho : okB L F S = true
        · right
          rcases Nat.eq_zero_or_pos n with h | h
          · exact h
          · exact absurd ⟨ho, h⟩ hok
        · left
          have ho' : okB L F S = false := by simpa using ho
          rw [respsR, ho'] at hrs
          simp at hrs
          rw [← hrs.2]; rfl
      clear hL hT hm hw hrs hll hok
      rcases hsh with h1 | h1
      · go_enter Try.func4, Try.ntmps4
        go_wp2_with (first
      | (go_at_call 15; refine (HM.out).mono ?_; rintro e w1 ⟨rfl, rfl⟩)
      | (go_at_call 18; (with_reducible refine (Window_is (HR.out.ext (Below.alloc (Below.refl _ _) (Nat.le_refl _) _)) HW.out).mono ?_); rintro e w1 ⟨rfl, hb1⟩; have B1 := Lib.hid (Below.then (Below.alloc (Below.refl _ _) (Nat.le_refl _) _) hb1); have c0 := (hb1.cell (p := ⟨w.heap.size, 0, none⟩) (by simp)).trans (show _ = some (.int .i64 F) by simp [go_sem]); have c1 := (hb1.cell (p := ⟨w.heap.size, 1, none⟩) (by simp)).trans (show _ = some (.int .i64 S) by simp [go_sem]); have hz1 := hb1.size; simp only [World.size_alloc] at hz1; clear hb1)
      | (go_at_call 19; (with_reducible refine (rWindow_is (HR.out.ext (by repeat (first | (with_reducible exact Below.refl _ _) | (refine Below.then ?_ (Hid.out (by with_reducible assumption)))))) HW.out).mono ?_); rintro e w2 ⟨rfl, hb2⟩; have B2 := Lib.hid hb2; have d0 := (hb2.cell (p := ⟨w.heap.size, 0, none⟩) (by simp only []; omega)).trans c0; have d1 := (hb2.cell (p := ⟨w.heap.size, 1, none⟩) (by simp only []; omega)).trans c1; have hz2 := hb2.size; clear hb2)
      | (go_at_call 20; (with_reducible refine (Resps_is (HR.out.ext (by repeat (first | (with_reducible exact Below.refl _ _) | (refine Below.then ?_ (Hid.out (by with_reducible assumption)))))) HRS.out).mono ?_); rintro e w3 ⟨a3, n3, c3, rfl, ho3, hb3⟩; have R3 := Lib.hid (ownsI_rd ho3); have B3 := Lib.hid hb3; have e0 := (hb3.cell (p := ⟨w.heap.size, 0, none⟩) (by simp only []; omega)).trans d0; have e1 := (hb3.cell (p := ⟨w.heap.size, 1, none⟩) (by simp only []; omega)).trans d1; have hz3 := hb3.size; clear ho3 hb3)
      | (go_at_call 21; (with_reducible refine (rResps_is (HR.out.ext (by repeat (first | (with_reducible exact Below.refl _ _) | (refine Below.then ?_ (Hid.out (by with_reducible assumption)))))) HRS.out).mono ?_); rintro e w4 ⟨a4, n4, c4, rfl, ho4, hb4⟩; have R4 := Lib.hid (ownsI_rd ho4); have B4 := Lib.hid hb4; have f0 := (hb4.cell (p := ⟨w.heap.size, 0, none⟩) (by simp only []; omega)).trans e0; have f1 := (hb4.cell (p := ⟨w.heap.size, 1, none⟩) (by simp only []; omega)).trans e1; have hz4 := hb4.size; clear ho4 hb4)
      | (go_at_call 22; (with_reducible refine (ints_eq _ _ _ _ _ _ xs _ (R3.out.ext (by repeat (first | (with_reducible exact Below.refl _ _) | (refine Below.then ?_ (Hid.out (by with_reducible assumption)))))) R4.out).mono ?_); rintro e w5 ⟨rfl, hb5⟩; have B5 := Lib.hid hb5; have g0 := (hb5.cell (p := ⟨w.heap.size, 0, none⟩) (by simp only []; omega)).trans f0; have g1 := (hb5.cell (p := ⟨w.heap.size, 1, none⟩) (by simp only []; omega)).trans f1; have hz5 := hb5.size; clear hb5)
      | (go_at_call 17; (with_reducible refine (sane_any _).mono ?_); rintro e w9 ⟨rfl, hb9⟩; have B9 := Lib.hid hb9; clear hb9))
        go_ret
        exact ⟨rfl, (by repeat (first | (with_reducible exact Below.refl _ _) | (refine Below.then ?_ (Hid.out (by with_reducible assumption)))))⟩
      · subst h1
        go_enter Try.func4, Try.ntmps4
        go_wp2_with (first
      | (go_at_call 15; refine (HM.out).mono ?_; rintro e w1 ⟨rfl, rfl⟩)
      | (go_at_call 18; (with_reducible refine (Window_is (HR.out.ext (Below.alloc (Below.refl _ _) (Nat.le_refl _) _)) HW.out).mono ?_); rintro e w1 ⟨rfl, hb1⟩; have B1 := Lib.hid (Below.then (Below.alloc (Below.refl _ _) (Nat.le_refl _) _) hb1); have c0 := (hb1.cell (p := ⟨w.heap.size, 0, none⟩) (by simp)).trans (show _ = some (.int .i64 F) by simp [go_sem]); have c1 := (hb1.cell (p := ⟨w.heap.size, 1, none⟩) (by simp)).trans (show _ = some (.int .i64 S) by simp [go_sem]); have hz1 := hb1.size; simp only [World.size_alloc] at hz1; clear hb1)
      | (go_at_call 19; (with_reducible refine (rWindow_is (HR.out.ext (by repeat (first | (with_reducible exact Below.refl _ _) | (refine Below.then ?_ (Hid.out (by with_reducible assumption)))))) HW.out).mono ?_); rintro e w2 ⟨rfl, hb2⟩; have B2 := Lib.hid hb2; have d0 := (hb2.cell (p := ⟨w.heap.size, 0, none⟩) (by simp only []; omega)).trans c0; have d1 := (hb2.cell (p := ⟨w.heap.size, 1, none⟩) (by simp only []; omega)).trans c1; have hz2 := hb2.size; clear hb2)
      | (go_at_call 20; (with_reducible refine (Resps_is (HR.out.ext (by repeat (first | (with_reducible exact Below.refl _ _) | (refine Below.then ?_ (Hid.out (by with_reducible assumption)))))) HRS.out).mono ?_); rintro e w3 ⟨a3, n3, c3, rfl, ho3, hb3⟩; have R3 := Lib.hid (ownsI_rd ho3); have B3 := Lib.hid hb3; have e0 := (hb3.cell (p := ⟨w.heap.size, 0, none⟩) (by simp only []; omega)).trans d0; have e1 := (hb3.cell (p := ⟨w.heap.size, 1, none⟩) (by simp only []; omega)).trans d1; have hz3 := hb3.size; clear ho3 hb3)
      | (go_at_call 21; (with_reducible refine (rResps_is (HR.out.ext (by repeat (first | (with_reducible exact Below.refl _ _) | (refine Below.then ?_ (Hid.out (by with_reducible assumption)))))) HRS.out).mono ?_); rintro e w4 ⟨a4, n4, c4, rfl, ho4, hb4⟩; have R4 := Lib.hid (ownsI_rd ho4); have B4 := Lib.hid hb4; have f0 := (hb4.cell (p := ⟨w.heap.size, 0, none⟩) (by simp only []; omega)).trans e0; have f1 := (hb4.cell (p := ⟨w.heap.size, 1, none⟩) (by simp only []; omega)).trans e1; have hz4 := hb4.size; clear ho4 hb4)
      | (go_at_call 22; (with_reducible refine (ints_eq _ _ _ _ _ _ xs _ (R3.out.ext (by repeat (first | (with_reducible exact Below.refl _ _) | (refine Below.then ?_ (Hid.out (by with_reducible assumption)))))) R4.out).mono ?_); rintro e w5 ⟨rfl, hb5⟩; have B5 := Lib.hid hb5; have g0 := (hb5.cell (p := ⟨w.heap.size, 0, none⟩) (by simp only []; omega)).trans f0; have g1 := (hb5.cell (p := ⟨w.heap.size, 1, none⟩) (by simp only []; omega)).trans f1; have hz5 := hb5.size; clear hb5)
      | (go_at_call 17; (with_reducible refine (sane_any _).mono ?_); rintro e w9 ⟨rfl, hb9⟩; have B9 := Lib.hid hb9; clear hb9))
        all_goals
          go_ret
          exact ⟨rfl, (by repeat (first | (with_reducible exact Below.refl _ _) | (refine Below.then ?_ (Hid.out (by with_reducible assumption)))))⟩
  · rw [hm] at HM
    clear hL hT hm
    go_enter Try.func4, Try.ntmps4
    go_wp2_with (first
      | (go_at_call 15; refine (HM.out).mono ?_; rintro e w1 ⟨rfl, rfl⟩)
      | (go_at_call 17; (with_reducible refine (sane_any _).mono ?_); rintro e w9 ⟨rfl, hb9⟩; have B9 := Lib.hid hb9; clear hb9))
    go_ret
    exact ⟨rfl, Below.then (Below.alloc (Below.refl _ _) (Nat.le_refl _) _) B9.out⟩
end Go.Proofs.Ytabbmnnohnfbeaa
