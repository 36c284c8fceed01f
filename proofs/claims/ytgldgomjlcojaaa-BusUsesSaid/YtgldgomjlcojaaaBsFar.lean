/- Contracts of End, Worst and Best of the program. The conditions: the slots read as named. -/
import Derived.Test.YtgldgomjlcojaaaBsWin
import Derived.Deep.Cut
namespace Go.Proofs.Ytgldgomjlcojaaa
open Go.RowKit
set_option linter.unusedSimpArgs false
set_option linter.unusedVariables false
theorem WhC.row {q : Nat} {w : World} {h} (hW : WhC q w h) {m : Nat} (hm : m < 4) : w.cell? ⟨q, 1 + m, none⟩ = some (sl (h (m + 1))) := by
  match m, hm with
  | 0, _ => exact hW.c1
  | 1, _ => exact hW.c2
  | 2, _ => exact hW.c3
  | 3, _ => exact hW.c4
theorem okR_iff {m o k : Int} : okR m o k = true ↔ (0 ≤ m ∧ m ≤ 3) ∧ (0 ≤ o ∧ o ≤ 10000) ∧ 1 ≤ k ∧ k ≤ 100 := by
  unfold okR; simp only [Bool.and_eq_true, inB_iff, and_assoc]
def endR (l : List P2) (m o k : Int) : P2 := if validS l && okR m o k then (if cnt (tableS l) m = 0 then (0, 3) else ((endN (tableS l) m o.toNat k.toNat : Nat), 0)) else (0, 1)
theorem end_int (h : Nat → Hdr) (T : List Int) (m mo k : Nat) (M O K : Int) (hM : M = m) (hO : O = mo) (hK : K = k) (hm : m < 4) (hmo : mo ≤ 10000000) (hk1 : 1 ≤ k) (hk : k ≤ 1000) (w : World) (hR : RdW w h T) (hc : 0 < cnt T m) (hT4 : T.length ≤ 400) :
    Calls Try.prog 46 #[whV h, .int .i64 M, .int .i64 O, .int .i64 K] w fun e w' => e = .returned (.int .i64 (endN T m mo k)) ∧ Below w.heap.size w w' := by
  subst hM; subst hO; subst hK; exact end_any h T m mo k hm hmo hk1 hk w hR hc hT4
set_option maxRecDepth 10000 in
set_option maxHeartbeats 4000000 in
theorem End_any (a : Option Addr) (n c : Nat) (l : List P2) (m o k : Int) (w : World) (hR : Rd w a n 2 (l.map enc2)) :
    Calls Try.prog 16 #[.slice a n c, val3 m o k] w fun e w' => e = rII (endR l m o k).1 (endR l m o k).2 ∧ Below w.heap.size w w' := by
  have HR := Lib.hid hR
  clear hR
  unfold endR
  cases hv : validS l
  · go_enter Try.func16, Try.ntmps16
    go_wp2_with (go_at_call 32; (with_reducible refine (valid_val (HR.out.ext (by (repeat' (first | (with_reducible exact Below.refl _ _) | (with_reducible assumption) | (with_reducible refine Below.alloc ?_ ?_ _) | (with_reducible refine Below.drew ?_) | (with_reducible refine Below.draws ?_ _) | (with_reducible refine Below.setCell ?_ ?_ _) | (refine Below.then ?_ (by with_reducible assumption)) | go_size)))) hv).mono ?_); rintro e w1 ⟨rfl, hb1⟩)
    go_ret2
    exact ⟨rII_eq rfl rfl, by (repeat' (first | (with_reducible exact Below.refl _ _) | (with_reducible assumption) | (with_reducible refine Below.alloc ?_ ?_ _) | (with_reducible refine Below.drew ?_) | (with_reducible refine Below.draws ?_ _) | (with_reducible refine Below.setCell ?_ ?_ _) | (refine Below.then ?_ (by with_reducible assumption)) | go_size))⟩
  · cases hr : okR m o k
    · go_enter Try.func16, Try.ntmps16
      go_wp2_with (first
        | (go_at_call 32; (with_reducible refine (valid_val (HR.out.ext (by (repeat' (first | (with_reducible exact Below.refl _ _) | (with_reducible assumption) | (with_reducible refine Below.alloc ?_ ?_ _) | (with_reducible refine Below.drew ?_) | (with_reducible refine Below.draws ?_ _) | (with_reducible refine Below.setCell ?_ ?_ _) | (refine Below.then ?_ (by with_reducible assumption)) | go_size)))) hv).mono ?_); rintro e w1 ⟨rfl, hb1⟩; obtain ⟨hc1, hf1, hz1, hr1⟩ := bfacts hb1; (try simp only [World.size_alloc, World.size_setCell, World.size_drew, World.size_drewN] at hz1 hr1); (try have hs1_w_0 : w.heap.size < w1.heap.size := by omega))
        | (go_at_call 44; (with_reducible refine (isRequest_val hr).mono ?_); rintro e w2 ⟨rfl, hb2⟩; have W2 := Lib.hid hb2; clear hb2))
      go_ret2
      exact ⟨rII_eq rfl rfl, Below.trans (by (repeat' (first | (with_reducible exact Below.refl _ _) | (with_reducible assumption) | (with_reducible refine Below.alloc ?_ ?_ _) | (with_reducible refine Below.drew ?_) | (with_reducible refine Below.draws ?_ _) | (with_reducible refine Below.setCell ?_ ?_ _) | (refine Below.then ?_ (by with_reducible assumption)) | go_size))) (W2.out.mono (by omega))⟩
    · obtain ⟨hm, ho, hk⟩ := okR_iff.1 hr
      obtain ⟨mm, rfl⟩ := Int.eq_ofNat_of_zero_le hm.1
      obtain ⟨oo, rfl⟩ := Int.eq_ofNat_of_zero_le ho.1
      obtain ⟨kk, rfl⟩ := Int.eq_ofNat_of_zero_le (show 0 ≤ k by omega)
      have hm4 : mm < 4 := by omega
      have ho4 : oo ≤ 10000 := by omega
      have hk1 : 1 ≤ kk := by omega
      have hk4 : kk ≤ 100 := by omega
      obtain ⟨htl, htl4⟩ := tableS_len hv
      rw [show (true && true) = true from rfl, if_pos rfl, Int.toNat_natCast, Int.toNat_natCast]
      obtain ⟨T, hT⟩ : ∃ T, T = tableS l := ⟨_, rfl⟩
      have HT := Lib.hid hT
      rw [← hT] at htl htl4 ⊢
      have HV := Lib.hid hv; have HRQ := Lib.hid hr
      clear hT hv hr hm ho hk
      obtain ⟨R, hR⟩ : ∃ R : P2, (if cnt T mm = 0 then ((0, 3) : P2) else ((endN T mm oo kk : Nat), 0)) = R := ⟨_, rfl⟩
      rw [hR]
      have HRR := Lib.hid hR
      clear hR
      go_enter Try.func16, Try.ntmps16
      go_upto_region 4 with (first
        | (go_at_call 32; (with_reducible refine (valid_val (HR.out.ext (by (repeat' (first | (with_reducible exact Below.refl _ _) | (with_reducible assumption) | (with_reducible refine Below.alloc ?_ ?_ _) | (with_reducible refine Below.drew ?_) | (with_reducible refine Below.draws ?_ _) | (with_reducible refine Below.setCell ?_ ?_ _) | (refine Below.then ?_ (by with_reducible assumption)) | go_size)))) HV.out).mono ?_); rintro e w1 ⟨rfl, hb1⟩; obtain ⟨hc1, hf1, hz1, hr1⟩ := bfacts hb1; (try simp only [World.size_alloc, World.size_setCell, World.size_drew, World.size_drewN] at hz1 hr1); (try have hs1_w_0 : w.heap.size < w1.heap.size := by omega); have W1 : Hid (Below w.heap.size w w1) := Lib.hid (Below.trans (by (repeat' (first | (with_reducible exact Below.refl _ _) | (with_reducible assumption) | (with_reducible refine Below.alloc ?_ ?_ _) | (with_reducible refine Below.drew ?_) | (with_reducible refine Below.draws ?_ _) | (with_reducible refine Below.setCell ?_ ?_ _) | (refine Below.then ?_ (by with_reducible assumption)) | go_size))) (hb1.mono (by simp))))
        | (go_at_call 44; (with_reducible refine (isRequest_val HRQ.out).mono ?_); rintro e w2 ⟨rfl, hb2⟩; have W2 := Lib.hid hb2; obtain ⟨hc2, hf2, hz2, hr2⟩ := bfacts hb2; (try simp only [World.size_alloc, World.size_setCell, World.size_drew, World.size_drewN] at hz2 hr2); (try have hs2_w_0 : w.heap.size < w2.heap.size := by omega); (try have hs2_w1_0 : w1.heap.size < w2.heap.size := by omega))
        | (go_at_call 45; (with_reducible refine (turning_any _ _ _ l _ (HR.out.ext (Below.then W1.out W2.out)) HV.out).mono ?_); rw [← HT.out]; rintro e w3 ⟨h, rfl, hrows, hb3⟩; have HRW := Lib.hid hrows.rdW; clear hrows; obtain ⟨hc3, hf3, hz3, hr3⟩ := bfacts hb3; (try simp only [World.size_alloc, World.size_setCell, World.size_drew, World.size_drewN] at hz3 hr3); (try have hs3_w_0 : w.heap.size < w3.heap.size := by omega); (try have hs3_w1_0 : w1.heap.size < w3.heap.size := by omega); (try have hs3_w2_0 : w2.heap.size < w3.heap.size := by omega); have W3 := Lib.hid (Below.then (Below.then W1.out W2.out) hb3)))
      have hx : ∀ j u, (w.alloc (.cells #[.int .i64 mm, .int .i64 oo, .int .i64 kk] 35)).cell? ⟨w.heap.size, j, none⟩ = some u → w3.cell? ⟨w.heap.size, j, none⟩ = some u := fun j u hu =>
        (hb3.cell (p := ⟨w.heap.size, j, none⟩) (by simp only []; omega)).trans ((hb2.cell (p := ⟨w.heap.size, j, none⟩) (by simp only []; omega)).trans ((hb1.cell (p := ⟨w.heap.size, j, none⟩) (by simp)).trans hu))
      have x0 := hx 0 _ (by simp [go_sem]; rfl)
      have x1 := hx 1 _ (by simp [go_sem]; rfl)
      have x2 := hx 2 _ (by simp [go_sem]; rfl)
      clear hx hc1 hf1 hz1 hr1 hc2 hf2 hz2 hr2 hc3 hf3 hz3 hr3 hb1 hb2 hb3 W1 W2 hs1_w_0 hs2_w_0 HRQ HV HR
      obtain ⟨wq, hwq⟩ : ∃ wq, wq = w3.alloc (.cells #[.slice (h 0).a (h 0).n (h 0).c, .slice (h 1).a (h 1).n (h 1).c, .slice (h 2).a (h 2).n (h 2).c, .slice (h 3).a (h 3).n (h 3).c, .slice (h 4).a (h 4).n (h 4).c] 59) := ⟨_, rfl⟩
      obtain ⟨q, hq⟩ : ∃ q, q = w3.heap.size := ⟨_, rfl⟩
      have hbq : Below w3.heap.size w3 wq := by rw [hwq]; (repeat' (first | (with_reducible exact Below.refl _ _) | (with_reducible assumption) | (with_reducible refine Below.alloc ?_ ?_ _) | (with_reducible refine Below.drew ?_) | (with_reducible refine Below.draws ?_ _) | (with_reducible refine Below.setCell ?_ ?_ _) | (refine Below.then ?_ (by with_reducible assumption)) | go_size))
      have HQ : Hid (WhC q wq h) := Lib.hid (by rw [hwq, hq]; exact WhC.mk' w3 h _)
      have HRW1 := Lib.hid (HRW.out.ext hbq)
      have W4 := Lib.hid (Below.then W3.out hbq)
      have x0' := (hbq.cell (p := ⟨w.heap.size, 0, none⟩) hs3_w_0).trans x0
      have x1' := (hbq.cell (p := ⟨w.heap.size, 1, none⟩) hs3_w_0).trans x1
      have x2' := (hbq.cell (p := ⟨w.heap.size, 2, none⟩) hs3_w_0).trans x2
      have hcn := HRW.out.cnt hm4
      have HCN := Lib.hid hcn
      have xm := HQ.out.row hm4
      obtain ⟨q0, q1, q2, q3, q4, q5⟩ := HQ.out
      rw [← hwq, ← hq]
      clear hwq hq hbq HRW W3 x0 x1 x2
      have i0 : (0 : Int) ≤ (mm : Int) := by omega
      have i4 : (mm : Int) < 4 := by omega
      by_cases hc0 : cnt T mm = 0
      · have hz : ((((h (mm + 1)).n : Nat) : Int) == 0) = true := by rw [hcn, hc0]; rfl
        have hR : R = (0, 3) := by rw [← HRR.out, if_pos hc0]
        subst hR
        clear hcn hc0 HRR
        go_wp2
        go_ret2
        exact ⟨rII_eq rfl rfl, W4.out⟩
      · have hz : ((((h (mm + 1)).n : Nat) : Int) == 0) = false := by rw [hcn]; simp; omega
        have hc1 : 0 < cnt T mm := by omega
        have hR : R = (((endN T mm oo kk : Nat) : Int), 0) := by rw [← HRR.out, if_neg hc0]
        subst hR
        clear hcn hc0 HRR
        go_wp2_with (go_at_call 46; (with_reducible refine (end_int h T mm oo kk _ _ _ (by rfl) (by rfl) (by rfl) hm4 (by omega) hk1 (by omega) _ HRW1.out hc1 htl4).mono ?_); rintro e w5 ⟨rfl, hb5⟩)
        go_ret2
        exact ⟨rII_eq rfl rfl, Below.then W4.out hb5⟩
def betB (gt : Bool) (a b : Int) : Bool := if gt then decide (b < a) else decide (a < b)
def farR (gt : Bool) (l : List P2) (m k : Int) : Int × Int × Int := if validS l && okR m 0 k then (if cnt (tableS l) m = 0 then (0, 0, 3) else ((bstF gt (dl (tableS l) m k.toNat) (tableS l).length).1, (bstF gt (dl (tableS l) m k.toNat) (tableS l).length).2, 0)) else (0, 0, 1)
/-- what is asked of the function that compares -/
structure Bet (g : Nat) (gt : Bool) : Prop where
  eg : ∀ args w, (callFunc g args).run Try.prog w = .ok (.enter g args) w
  gives : ∀ (a b : Int) (w : World), Calls Try.prog g #[.int .i64 a, .int .i64 b] w fun e w' => e = .returned (.bool (betB gt a b)) ∧ w = w'
theorem betW : Bet 43 true := ⟨fun args w => by kernel_rfl, fun a b w => by
  go_enter Try.func43, Try.ntmps43
  go_wp2
  go_ret
  exact ⟨rfl, rfl⟩⟩
theorem betB' : Bet 52 false := ⟨fun args w => by kernel_rfl, fun a b w => by
  go_enter Try.func52, Try.ntmps52
  go_wp2
  go_ret
  exact ⟨rfl, rfl⟩⟩
theorem bstF_first (gt : Bool) (f : Nat → Int) {k : Nat} (h : k = 0) : bstF gt f (k + 1) = (f k, (k : Int)) := by subst h; rfl
theorem bstF_yes (gt : Bool) (f : Nat → Int) {k : Nat} (h : betB gt (f k) (bstF gt f k).1 = true) : bstF gt f (k + 1) = (f k, (k : Int)) := by
  rw [bstF, if_pos (.inr (by unfold betB at h; cases gt <;> simpa using h))]
theorem bstF_no (gt : Bool) (f : Nat → Int) {k : Nat} (h0 : 0 < k) (h : betB gt (f k) (bstF gt f k).1 = false) : bstF gt f (k + 1) = bstF gt f k := by
  rw [bstF, if_neg]
  unfold betB at h
  rintro (q | q)
  · omega
  · cases gt <;> simp at h q <;> omega
set_option maxRecDepth 10000 in
set_option maxHeartbeats 4000000 in
theorem far_any (gt : Bool) (g : Nat) (hg : Bet g gt) (a : Option Addr) (n c : Nat) (l : List P2) (m k : Int) (w : World) (hR : Rd w a n 2 (l.map enc2)) :
    Calls Try.prog 42 #[.slice a n c, .int .i64 m, .int .i64 k, .func (.func g) #[] #[]] w fun e w' => e = rIII (farR gt l m k).1 (farR gt l m k).2.1 (farR gt l m k).2.2 ∧ Below w.heap.size w w' := by
  have HR := Lib.hid hR
  clear hR
  unfold farR
  cases hv : validS l
  · go_enter Try.func42, Try.ntmps42
    go_wp2_with (go_at_call 32; (with_reducible refine (valid_val HR.out hv).mono ?_); rintro e w1 ⟨rfl, hb1⟩)
    go_ret3
    exact ⟨rIII_eq rfl rfl rfl, hb1⟩
  · cases hr : okR m 0 k
    · go_enter Try.func42, Try.ntmps42
      go_wp2_with (first
        | (go_at_call 32; (with_reducible refine (valid_val HR.out hv).mono ?_); rintro e w1 ⟨rfl, hb1⟩; obtain ⟨hc1, hf1, hz1, hr1⟩ := bfacts hb1; (try simp only [World.size_alloc, World.size_setCell, World.size_drew, World.size_drewN] at hz1 hr1); (try have hs1_w_0 : w.heap.size < w1.heap.size := by omega))
        | (go_at_call 44; (with_reducible refine (isRequest_val hr).mono ?_); rintro e w2 ⟨rfl, hb2⟩))
      go_ret3
      exact ⟨rIII_eq rfl rfl rfl, Below.then hb1 hb2⟩
    · obtain ⟨hm, ho, hk⟩ := okR_iff.1 hr
      obtain ⟨mm, rfl⟩ := Int.eq_ofNat_of_zero_le hm.1
      obtain ⟨kk, rfl⟩ := Int.eq_ofNat_of_zero_le (show 0 ≤ k by omega)
      have hm4 : mm < 4 := by omega
      have hk1 : 1 ≤ kk := by omega
      have hk4 : kk ≤ 100 := by omega
      obtain ⟨htl, htl4⟩ := tableS_len hv
      rw [show (true && true) = true from rfl, if_pos rfl, Int.toNat_natCast]
      obtain ⟨T, hT⟩ : ∃ T, T = tableS l := ⟨_, rfl⟩
      have HT := Lib.hid hT
      rw [← hT] at htl htl4 ⊢
      have HV := Lib.hid hv; have HRQ := Lib.hid hr
      obtain ⟨R, hR⟩ : ∃ R : Int × Int × Int, (if cnt T mm = 0 then ((0, 0, 3) : Int × Int × Int) else ((bstF gt (dl T mm kk) T.length).1, (bstF gt (dl T mm kk) T.length).2, 0)) = R := ⟨_, rfl⟩
      rw [hR]
      have HRR := Lib.hid hR
      clear hT hv hr hm ho hk hR
      go_enter Try.func42, Try.ntmps42
      go_upto_region 4 with (first
        | (go_at_call 32; (with_reducible refine (valid_val HR.out HV.out).mono ?_); rintro e w1 ⟨rfl, hb1⟩; have W1 := Lib.hid hb1; obtain ⟨hc1, hf1, hz1, hr1⟩ := bfacts hb1; (try simp only [World.size_alloc, World.size_setCell, World.size_drew, World.size_drewN] at hz1 hr1); (try have hs1_w_0 : w.heap.size < w1.heap.size := by omega))
        | (go_at_call 44; (with_reducible refine (isRequest_val HRQ.out).mono ?_); rintro e w2 ⟨rfl, hb2⟩; have W2 := Lib.hid (Below.then W1.out hb2); obtain ⟨hc2, hf2, hz2, hr2⟩ := bfacts hb2; (try simp only [World.size_alloc, World.size_setCell, World.size_drew, World.size_drewN] at hz2 hr2); (try have hs2_w_0 : w.heap.size < w2.heap.size := by omega))
        | (go_at_call 45; (with_reducible refine (turning_any _ _ _ l _ (HR.out.ext W2.out) HV.out).mono ?_); rw [← HT.out]; rintro e w3 ⟨h, rfl, hrows, hb3⟩; have HRW := Lib.hid hrows.rdW; clear hrows; obtain ⟨hc3, hf3, hz3, hr3⟩ := bfacts hb3; (try simp only [World.size_alloc, World.size_setCell, World.size_drew, World.size_drewN] at hz3 hr3); (try have hs3_w_0 : w.heap.size < w3.heap.size := by omega); have W3 := Lib.hid (Below.then W2.out hb3)))
      clear hc1 hf1 hz1 hr1 hc2 hf2 hz2 hr2 hc3 hf3 hz3 hr3 hb1 hb2 hb3 W1 W2 HRQ HV HR
      obtain ⟨wq, hwq⟩ : ∃ wq, wq = w3.alloc (.cells #[.slice (h 0).a (h 0).n (h 0).c, .slice (h 1).a (h 1).n (h 1).c, .slice (h 2).a (h 2).n (h 2).c, .slice (h 3).a (h 3).n (h 3).c, .slice (h 4).a (h 4).n (h 4).c] 59) := ⟨_, rfl⟩
      obtain ⟨q, hq⟩ : ∃ q, q = w3.heap.size := ⟨_, rfl⟩
      have hbq : Below w3.heap.size w3 wq := by rw [hwq]; (repeat' (first | (with_reducible exact Below.refl _ _) | (with_reducible assumption) | (with_reducible refine Below.alloc ?_ ?_ _) | (with_reducible refine Below.drew ?_) | (with_reducible refine Below.draws ?_ _) | (with_reducible refine Below.setCell ?_ ?_ _) | (refine Below.then ?_ (by with_reducible assumption)) | go_size))
      have HQ : Hid (WhC q wq h) := Lib.hid (by rw [hwq, hq]; exact WhC.mk' w3 h _)
      have HRW1 := Lib.hid (HRW.out.ext hbq)
      have W4 := Lib.hid (Below.then W3.out hbq)
      have hcn := HRW.out.cnt hm4
      have HN0 := Lib.hid HRW.out.len
      have xm := HQ.out.row hm4
      obtain ⟨q0, q1, q2, q3, q4, q5⟩ := HQ.out
      rw [← hwq, ← hq]
      clear hwq hq hbq HRW W3
      have i0 : (0 : Int) ≤ (mm : Int) := by omega
      have i4 : (mm : Int) < 4 := by omega
      by_cases hc0 : cnt T mm = 0
      · have hz : ((((h (mm + 1)).n : Nat) : Int) == 0) = true := by rw [hcn, hc0]; rfl
        have hR : R = (0, 0, 3) := by rw [← HRR.out, if_pos hc0]
        subst hR
        clear hcn hc0 HRR
        go_wp2
        go_ret3
        exact ⟨rIII_eq rfl rfl rfl, W4.out⟩
      · have hz : ((((h (mm + 1)).n : Nat) : Int) == 0) = false := by rw [hcn]; simp; omega
        have hcp : 0 < cnt T mm := by omega
        have hR : R = ((bstF gt (dl T mm kk) T.length).1, (bstF gt (dl T mm kk) T.length).2, 0) := by rw [← HRR.out, if_neg hc0]
        subst hR
        clear hcn hc0 HRR
        go_upto_region 7 with (go_at_call 55; refine (period_any h _).mono ?_; rintro e w1 ⟨rfl, hb1⟩; obtain ⟨hc1, hf1, hz1, hr1⟩ := bfacts hb1; (try simp only [World.size_alloc, World.size_setCell, World.size_drew, World.size_drewN] at hz1 hr1); (try have hw0 : w.heap.size < w1.heap.size := by omega); (try have hw1 : w.heap.size + 1 < w1.heap.size := by omega); (try have hw2 : w.heap.size + 1 + 1 < w1.heap.size := by omega))
        have HQ1 := Lib.hid (HQ.out.ext hb1)
        have HRW2 := Lib.hid (HRW1.out.ext hb1)
        have W5 := Lib.hid (Below.then W4.out hb1)
        have hnl : (h 0).n ≤ 400 := by rw [HN0.out]; exact htl4
        have hnl0 : 1 ≤ (h 0).n := by rw [HN0.out]; exact htl
        obtain ⟨N, hN⟩ : ∃ N, N = (h 0).n := ⟨_, rfl⟩
        have HNN := Lib.hid hN
        obtain ⟨D, hD⟩ : ∃ D, D = dl T mm kk := ⟨_, rfl⟩
        have HD := Lib.hid hD
        clear hc1 hf1 hz1 hr1 hb1 q0 q1 q2 q3 q4 q5 hz xm hD HQ W4 HRW1
        rw [← hN] at hnl hnl0 ⊢
        clear hN
        have eg := hg.eg
        have HG := Lib.hid hg.gives
        clear hg
        obtain ⟨wp, rfl⟩ : ∃ wp, wp = w1 := ⟨_, rfl⟩
        go_loopw [8, 9, 34] (fun u v i wr => ∃ k : Nat, k ≤ N ∧ u = .int .i64 (bstF gt D k).1 ∧ v = .int .i64 (bstF gt D k).2 ∧ i = .int .i64 k ∧ Below wp.heap.size wp wr) (fun _ _ i _ => N - (intOf i).toNat)
        case atStart => exact ⟨0, Nat.zero_le _, rfl, rfl, rfl, Below.refl _ _⟩
        case round =>
          obtain ⟨k, hk, rfl, rfl, rfl, hB⟩ := hrel
          have HB := Lib.hid hB
          clear hB
          obtain ⟨hcr, hfr, hzr, hrr⟩ := bfacts HB.out
          by_cases hlt : k < N
          · obtain ⟨q0, q1, q2, q3, q4, q5⟩ := HQ1.out
            have hqr : q < wr.heap.size := by omega
            have hDk : D k = (endN T mm k kk : Int) - (k : Int) := by rw [HD.out]; rfl
            have hEb : endN T mm k kk ≤ 1000000 := (endN_le hcp hk1).2 (by
              have h1 := cF_mul (t := T) (m := mm) k (kk + 1)
              have h2 := cF_mono (t := T) (m := mm) (show (kk + 1) * T.length + k ≤ 1000000 by have := Nat.mul_le_mul (show kk + 1 ≤ 101 by omega) htl4; omega)
              have h3 : kk + 1 ≤ (kk + 1) * cnt T mm := Nat.le_mul_of_pos_right _ hcp
              omega)
            have HE : Hid (∀ w', RdW w' h T → Calls Try.prog 46 #[whV h, .int .i64 mm, .int .i64 k, .int .i64 kk] w' fun e w'' => e = .returned (.int .i64 (endN T mm k kk)) ∧ Below w'.heap.size w' w'') := Lib.hid (fun w' hR => end_int h T mm k kk _ _ _ rfl rfl rfl hm4 (by omega) hk1 (by omega) w' hR hcp htl4)
            have HDK := Lib.hid hDk
            clear hDk
            generalize endN T mm k kk = E at *
            by_cases hk0 : k = 0
            · have e0 : ((k : Int) == 0) = true := by simp [hk0]
              have HF := Lib.hid (bstF_first gt D hk0)
              clear hk0
              go_wp2_with (go_at_call 46; (with_reducible refine (HE.out _ (HRW2.out.ext HB.out)).mono ?_); rintro e w1 ⟨rfl, hb1⟩)
              go_roundw
              case rel => exact ⟨k + 1, by omega, by rw [HF.out, HDK.out], by rw [HF.out], by go_num, Below.then HB.out hb1⟩
              case measure => simp [intOf]; omega
            · have e0 : ((k : Int) == 0) = false := by simp [hk0]
              have hk1 : 0 < k := by omega
              cases hb : betB gt (D k) (bstF gt D k).1
              · have HF := Lib.hid (bstF_no gt D hk1 hb)
                rw [HDK.out] at hb
                have HGC : Hid (∀ w', Calls Try.prog g #[.int .i64 ((E : Int) - (k : Int)), .int .i64 (bstF gt D k).1] w' fun e w'' => e = .returned (.bool false) ∧ w' = w'') := Lib.hid (fun w' => hb ▸ HG.out _ _ w')
                clear hb
                go_wp2_with (first
                  | (go_at_call 46; (with_reducible refine (HE.out _ (HRW2.out.ext HB.out)).mono ?_); rintro e w1 ⟨rfl, hb1⟩)
                  | (go_at_fn g; refine (HGC.out _).mono ?_; rintro e w2 ⟨rfl, rfl⟩))
                go_roundw
                case rel => exact ⟨k + 1, by omega, by rw [HF.out], by rw [HF.out], by go_num, Below.then HB.out hb1⟩
                case measure => simp [intOf]; omega
              · have HF := Lib.hid (bstF_yes gt D hb)
                rw [HDK.out] at hb
                have HGC : Hid (∀ w', Calls Try.prog g #[.int .i64 ((E : Int) - (k : Int)), .int .i64 (bstF gt D k).1] w' fun e w'' => e = .returned (.bool true) ∧ w' = w'') := Lib.hid (fun w' => hb ▸ HG.out _ _ w')
                clear hb
                go_wp2_with (first
                  | (go_at_call 46; (with_reducible refine (HE.out _ (HRW2.out.ext HB.out)).mono ?_); rintro e w1 ⟨rfl, hb1⟩)
                  | (go_at_fn g; refine (HGC.out _).mono ?_; rintro e w2 ⟨rfl, rfl⟩))
                go_roundw
                case rel => exact ⟨k + 1, by omega, by rw [HF.out, HDK.out], by rw [HF.out], by go_num, Below.then HB.out hb1⟩
                case measure => simp [intOf]; omega
          · have hkN : k = N := by omega
            have HKN := Lib.hid hkN
            clear hkN
            go_wp2
            go_ret3
            exact ⟨rIII_eq (by rw [HKN.out, HD.out, HNN.out, HN0.out]) (by rw [HKN.out, HD.out, HNN.out, HN0.out]) rfl, Below.then W5.out HB.out⟩
theorem Worst_any (a : Option Addr) (n c : Nat) (l : List P2) (m k : Int) (w : World) (hR : Rd w a n 2 (l.map enc2)) :
    Calls Try.prog 15 #[.slice a n c, .int .i64 m, .int .i64 k] w fun e w' => e = rIII (farR true l m k).1 (farR true l m k).2.1 (farR true l m k).2.2 ∧ Below w.heap.size w w' := by
  have HC := Lib.hid (far_any true _ betW a n c l m k w hR)
  clear hR
  generalize farR true l m k = R at *
  go_enter Try.func15, Try.ntmps15
  go_wp2_with (go_at_call 42; refine (HC.out).mono ?_; rintro e w1 ⟨rfl, hb1⟩; obtain ⟨hc1, hf1, hz1, hr1⟩ := bfacts hb1; (try simp only [World.size_alloc, World.size_setCell, World.size_drew, World.size_drewN] at hz1 hr1); (try have hw0 : w.heap.size < w1.heap.size := by omega); (try have hw1 : w.heap.size + 1 < w1.heap.size := by omega); (try have hw2 : w.heap.size + 1 + 1 < w1.heap.size := by omega))
  go_ret3
  exact ⟨rIII_eq rfl rfl rfl, by (repeat' (first | (with_reducible exact Below.refl _ _) | (with_reducible assumption) | (with_reducible refine Below.alloc ?_ ?_ _) | (with_reducible refine Below.drew ?_) | (with_reducible refine Below.draws ?_ _) | (with_reducible refine Below.setCell ?_ ?_ _) | (refine Below.then ?_ (by with_reducible assumption)) | go_size))⟩
theorem Best_any (a : Option Addr) (n c : Nat) (l : List P2) (m k : Int) (w : World) (hR : Rd w a n 2 (l.map enc2)) :
    Calls Try.prog 19 #[.slice a n c, .int .i64 m, .int .i64 k] w fun e w' => e = rIII (farR false l m k).1 (farR false l m k).2.1 (farR false l m k).2.2 ∧ Below w.heap.size w w' := by
  have HC := Lib.hid (far_any false _ betB' a n c l m k w hR)
  clear hR
  generalize farR false l m k = R at *
  go_enter Try.func19, Try.ntmps19
  go_wp2_with (go_at_call 42; refine (HC.out).mono ?_; rintro e w1 ⟨rfl, hb1⟩; obtain ⟨hc1, hf1, hz1, hr1⟩ := bfacts hb1; (try simp only [World.size_alloc, World.size_setCell, World.size_drew, World.size_drewN] at hz1 hr1); (try have hw0 : w.heap.size < w1.heap.size := by omega); (try have hw1 : w.heap.size + 1 < w1.heap.size := by omega); (try have hw2 : w.heap.size + 1 + 1 < w1.heap.size := by omega))
  go_ret3
  exact ⟨rIII_eq rfl rfl rfl, by (repeat' (first | (with_reducible exact Below.refl _ _) | (with_reducible assumption) | (with_reducible refine Below.alloc ?_ ?_ _) | (with_reducible refine Below.drew ?_) | (with_reducible refine Below.draws ?_ _) | (with_reducible refine Below.setCell ?_ ?_ _) | (refine Below.then ?_ (by with_reducible assumption)) | go_size))⟩
end Go.Proofs.Ytgldgomjlcojaaa
