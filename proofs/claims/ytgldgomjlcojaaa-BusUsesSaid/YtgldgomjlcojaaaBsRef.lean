/- Contracts of the reference's End, Worst and Best. The conditions: the slots read as named. -/
import Derived.Test.YtgldgomjlcojaaaBsSane
namespace Go.Proofs.Ytgldgomjlcojaaa
open Go.RowKit
set_option linter.unusedSimpArgs false
set_option linter.unusedVariables false
@[go_sem] theorem errB_true : errB true = 0 := rfl
@[go_sem] theorem errB_false : errB false = 1 := rfl
theorem askB_far (l : List P2) (m k : Int) : askB l m k 1 100 = (validS l && okR m 0 k) := by unfold askB okR; rw [show inB 0 0 10000 = true by decide, Bool.and_true, Bool.and_assoc]
theorem request_val {a : Option Addr} {n c : Nat} {l : List P2} {m o k : Int} {w : World} {b : Bool} (hR : Rd w a n 2 (l.map enc2)) (h : (validS l && okR m o k) = b) :
    Calls Try.prog 47 #[.slice a n c, val3 m o k] w fun e w' => e = .returned (.int .i64 (errB b)) ∧ Below w.heap.size w w' := by
  subst h
  have HR := Lib.hid hR
  clear hR
  have e : (validS l && okR m o k) = (askB l m o 0 10000 && inB k 1 100) := by unfold askB okR; simp only [Bool.and_assoc]
  rw [e]
  clear e
  unfold errB
  cases hA : askB l m o 0 10000
  · go_enter Try.func47, Try.ntmps47
    go_wp2_with (go_at_call 53; refine (asks_val (HR.out.ext (by (repeat' (first | (with_reducible exact Below.refl _ _) | (with_reducible assumption) | (with_reducible refine Below.alloc ?_ ?_ _) | (with_reducible refine Below.drew ?_) | (with_reducible refine Below.draws ?_ _) | (with_reducible refine Below.setCell ?_ ?_ _) | (refine Below.then ?_ (by with_reducible assumption)) | go_size)))) hA).mono ?_; rintro e w1 ⟨rfl, rfl⟩)
    go_ret
    exact ⟨rfl, by (repeat' (first | (with_reducible exact Below.refl _ _) | (with_reducible assumption) | (with_reducible refine Below.alloc ?_ ?_ _) | (with_reducible refine Below.drew ?_) | (with_reducible refine Below.draws ?_ _) | (with_reducible refine Below.setCell ?_ ?_ _) | (refine Below.then ?_ (by with_reducible assumption)) | go_size))⟩
  · rw [inB_eq]
    go_enter Try.func47, Try.ntmps47
    go_wp2_with (go_at_call 53; refine (asks_val (HR.out.ext (by (repeat' (first | (with_reducible exact Below.refl _ _) | (with_reducible assumption) | (with_reducible refine Below.alloc ?_ ?_ _) | (with_reducible refine Below.drew ?_) | (with_reducible refine Below.draws ?_ _) | (with_reducible refine Below.setCell ?_ ?_ _) | (refine Below.then ?_ (by with_reducible assumption)) | go_size)))) hA).mono ?_; rintro e w1 ⟨rfl, rfl⟩)
    all_goals (go_ret; exact ⟨ret_int (by simp [*] <;> (first | omega | (intros; omega))), by (repeat' (first | (with_reducible exact Below.refl _ _) | (with_reducible assumption) | (with_reducible refine Below.alloc ?_ ?_ _) | (with_reducible refine Below.drew ?_) | (with_reducible refine Below.draws ?_ _) | (with_reducible refine Below.setCell ?_ ?_ _) | (refine Below.then ?_ (by with_reducible assumption)) | go_size))⟩)
theorem table_val {a : Option Addr} {n c : Nat} {l : List P2} {w : World} {T : List Int} (hR : Rd w a n 2 (l.map enc2)) (hv : validS l = true) (h : T = tableS l) : Calls Try.prog 48 #[.slice a n c] w (OutI w.heap.size w T) := h ▸ table_any a n c l w hR hv
theorem endN_small {T : List Int} {m : Int} {k mo : Nat} (hc : 0 < cnt T m) (hk1 : 1 ≤ k) (hk : k ≤ 100) (hm : mo ≤ 10000) (h4 : T.length ≤ 400) : endN T m mo k ≤ 1000000 :=
  (endN_le hc hk1).2 (by
    have h1 := cF_mul (t := T) (m := m) mo (k + 1)
    have h2 := cF_mono (t := T) (m := m) (show (k + 1) * T.length + mo ≤ 1000000 by have := Nat.mul_le_mul (show k + 1 ≤ 101 by omega) h4; omega)
    have h3 : k + 1 ≤ (k + 1) * cnt T m := Nat.le_mul_of_pos_right _ hc
    omega)
theorem delay_int {a : Option Addr} {n c : Nat} {T : List Int} {m : Int} {mo k : Nat} (M O K : Int) (hM : M = m) (hO : O = mo) (hK : K = k) {w : World} (hm : mo ≤ 10000) (hk1 : 1 ≤ k) (hk : k ≤ 100) (hc : 0 < cnt T m) (h4 : T.length ≤ 400) (hR : Rd w a n 1 (T.map enc1)) :
    Calls Try.prog 50 #[.slice a n c, .int .i64 M, .int .i64 O, .int .i64 K] w fun e w' => e = .returned (.int .i64 (dl T m k mo)) ∧ w = w' := by
  subst hM; subst hO; subst hK
  have := hR.length
  exact delay_any a n c T M mo k (by omega) hk1 (by omega) (Nat.le_trans (endN_small hc hk1 hk hm h4) (by omega)) hc (by omega) w hR
set_option maxRecDepth 10000 in
set_option maxHeartbeats 4000000 in
theorem rEnd_any (a : Option Addr) (n c : Nat) (l : List P2) (m o k : Int) (w : World) (hR : Rd w a n 2 (l.map enc2)) :
    Calls Try.prog 17 #[.slice a n c, val3 m o k] w fun e w' => e = rII (endR l m o k).1 (endR l m o k).2 ∧ Below w.heap.size w w' := by
  have HR := Lib.hid hR
  clear hR
  unfold endR
  cases hq : (validS l && okR m o k)
  · go_enter Try.func17, Try.ntmps17
    go_wp2_with (go_at_call 47; (with_reducible refine (request_val (HR.out.ext (by (repeat' (first | (with_reducible exact Below.refl _ _) | (with_reducible assumption) | (with_reducible refine Below.alloc ?_ ?_ _) | (with_reducible refine Below.drew ?_) | (with_reducible refine Below.draws ?_ _) | (with_reducible refine Below.setCell ?_ ?_ _) | (refine Below.then ?_ (by with_reducible assumption)) | go_size)))) hq).mono ?_); rintro e w1 ⟨rfl, hb1⟩)
    go_ret2
    exact ⟨rII_eq rfl rfl, by (repeat' (first | (with_reducible exact Below.refl _ _) | (with_reducible assumption) | (with_reducible refine Below.alloc ?_ ?_ _) | (with_reducible refine Below.drew ?_) | (with_reducible refine Below.draws ?_ _) | (with_reducible refine Below.setCell ?_ ?_ _) | (refine Below.then ?_ (by with_reducible assumption)) | go_size))⟩
  · obtain ⟨hv, hr⟩ := Bool.and_eq_true_iff.1 hq
    obtain ⟨hm, ho, hk⟩ := okR_iff.1 hr
    obtain ⟨mm, rfl⟩ := Int.eq_ofNat_of_zero_le hm.1
    obtain ⟨oo, rfl⟩ := Int.eq_ofNat_of_zero_le ho.1
    obtain ⟨kk, rfl⟩ := Int.eq_ofNat_of_zero_le (show 0 ≤ k by omega)
    have ho4 : oo ≤ 10000 := by omega
    have hk1 : 1 ≤ kk := by omega
    have hk4 : kk ≤ 100 := by omega
    obtain ⟨htl, htl4⟩ := tableS_len hv
    rw [if_pos rfl, Int.toNat_natCast, Int.toNat_natCast]
    obtain ⟨T, hT⟩ : ∃ T, T = tableS l := ⟨_, rfl⟩
    rw [← hT] at htl htl4 ⊢
    have HT := Lib.hid hT
    have HV := Lib.hid hv; have HQ := Lib.hid hq
    clear hT hv hr hm ho hk hq
    by_cases hc0 : cnt T mm = 0
    · have hz : (((cnt T mm : Nat) : Int) == 0) = true := by rw [hc0]; rfl
      rw [if_pos hc0]
      clear hc0
      go_enter Try.func17, Try.ntmps17
      go_wp2_with (first
        | (go_at_call 47; (with_reducible refine (request_val (HR.out.ext (by (repeat' (first | (with_reducible exact Below.refl _ _) | (with_reducible assumption) | (with_reducible refine Below.alloc ?_ ?_ _) | (with_reducible refine Below.drew ?_) | (with_reducible refine Below.draws ?_ _) | (with_reducible refine Below.setCell ?_ ?_ _) | (refine Below.then ?_ (by with_reducible assumption)) | go_size)))) HQ.out).mono ?_); rintro e w1 ⟨rfl, hb1⟩; obtain ⟨hc1, hf1, hz1, hr1⟩ := bfacts hb1; (try simp only [World.size_alloc, World.size_setCell, World.size_drew, World.size_drewN] at hz1 hr1); (try have hs1_w_0 : w.heap.size < w1.heap.size := by omega); (try have hs1_w_1 : w.heap.size + 1 < w1.heap.size := by omega); have W1 : Hid (Below w.heap.size w w1) := Lib.hid (Below.trans (by (repeat' (first | (with_reducible exact Below.refl _ _) | (with_reducible assumption) | (with_reducible refine Below.alloc ?_ ?_ _) | (with_reducible refine Below.drew ?_) | (with_reducible refine Below.draws ?_ _) | (with_reducible refine Below.setCell ?_ ?_ _) | (refine Below.then ?_ (by with_reducible assumption)) | go_size))) (hb1.mono (by simp))))
        | (go_at_call 48; (with_reducible refine (table_val (HR.out.ext W1.out) HV.out HT.out).mono ?_); rintro e w2 ⟨a2, n2, c2, rfl, ho, hb2⟩; have HTB := Lib.hid (ownsI_rd ho); obtain ⟨hc2, hf2, hz2, hr2⟩ := bfacts hb2; (try simp only [World.size_alloc, World.size_setCell, World.size_drew, World.size_drewN] at hz2 hr2); (try have hs2_w_0 : w.heap.size < w2.heap.size := by omega); (try have hs2_w1_0 : w1.heap.size < w2.heap.size := by omega); have W2 := Lib.hid (Below.then W1.out hb2); clear ho)
        | (go_at_call 49; refine (count_any _ _ _ _ _ _ HTB.out).mono ?_; rintro e w1 ⟨rfl, rfl⟩))
      go_ret2
      exact ⟨rII_eq rfl rfl, W2.out⟩
    · have hz : (((cnt T mm : Nat) : Int) == 0) = false := by simp; omega
      rw [if_neg hc0]
      have hcp : 0 < cnt T mm := by omega
      have hEs := endN_small hcp hk1 hk4 ho4 htl4
      have HD : Hid ((oo : Int) + dl T mm kk oo = (endN T mm oo kk : Int)) := Lib.hid (by unfold dl; omega)
      have hdl : -10000 ≤ dl T mm kk oo ∧ dl T mm kk oo ≤ 1000000 := by unfold dl; omega
      clear hc0
      go_enter Try.func17, Try.ntmps17
      go_wp2_with (first
        | (go_at_call 47; (with_reducible refine (request_val (HR.out.ext (by (repeat' (first | (with_reducible exact Below.refl _ _) | (with_reducible assumption) | (with_reducible refine Below.alloc ?_ ?_ _) | (with_reducible refine Below.drew ?_) | (with_reducible refine Below.draws ?_ _) | (with_reducible refine Below.setCell ?_ ?_ _) | (refine Below.then ?_ (by with_reducible assumption)) | go_size)))) HQ.out).mono ?_); rintro e w1 ⟨rfl, hb1⟩; obtain ⟨hc1, hf1, hz1, hr1⟩ := bfacts hb1; (try simp only [World.size_alloc, World.size_setCell, World.size_drew, World.size_drewN] at hz1 hr1); (try have hs1_w_0 : w.heap.size < w1.heap.size := by omega); (try have hs1_w_1 : w.heap.size + 1 < w1.heap.size := by omega); have W1 : Hid (Below w.heap.size w w1) := Lib.hid (Below.trans (by (repeat' (first | (with_reducible exact Below.refl _ _) | (with_reducible assumption) | (with_reducible refine Below.alloc ?_ ?_ _) | (with_reducible refine Below.drew ?_) | (with_reducible refine Below.draws ?_ _) | (with_reducible refine Below.setCell ?_ ?_ _) | (refine Below.then ?_ (by with_reducible assumption)) | go_size))) (hb1.mono (by simp))))
        | (go_at_call 48; (with_reducible refine (table_val (HR.out.ext W1.out) HV.out HT.out).mono ?_); rintro e w2 ⟨a2, n2, c2, rfl, ho, hb2⟩; have HTB := Lib.hid (ownsI_rd ho); obtain ⟨hc2, hf2, hz2, hr2⟩ := bfacts hb2; (try simp only [World.size_alloc, World.size_setCell, World.size_drew, World.size_drewN] at hz2 hr2); (try have hs2_w_0 : w.heap.size < w2.heap.size := by omega); (try have hs2_w1_0 : w1.heap.size < w2.heap.size := by omega); have W2 := Lib.hid (Below.then W1.out hb2); clear ho)
        | (go_at_call 49; refine (count_any _ _ _ _ _ _ HTB.out).mono ?_; rintro e w1 ⟨rfl, rfl⟩)
        | (refine wp_region_later_lit (by kernel_rfl) (by kernel_rfl) ?_; (repeat (go_big_quiet_step ((go_at_call 50; exact later_same (delay_int _ _ _ (by rfl) (by rfl) (by rfl) ho4 hk1 hk4 hcp htl4 (later_rd HTB.out (Below.refl _ _))))))); refine wpQuiet_nil ?_; intro w1 hb1; obtain ⟨hc1, hf1, hz1, hr1⟩ := bfacts hb1; (try simp only [World.size_alloc, World.size_setCell, World.size_drew, World.size_drewN] at hz1 hr1); (try have hw0 : w.heap.size < w1.heap.size := by omega); (try have hw1 : w.heap.size + 1 < w1.heap.size := by omega); (try have hw2 : w.heap.size + 1 + 1 < w1.heap.size := by omega)))
      go_ret2
      exact ⟨rII_eq HD.out rfl, Below.then W2.out hb1⟩
set_option maxRecDepth 10000 in
set_option maxHeartbeats 4000000 in
theorem extreme_true (a : Option Addr) (n c : Nat) (l : List P2) (m k : Int) (w : World) (hR : Rd w a n 2 (l.map enc2)) :
    Calls Try.prog 51 #[.slice a n c, .int .i64 m, .int .i64 k, .bool true] w fun e w' => e = rIII (farR true l m k).1 (farR true l m k).2.1 (farR true l m k).2.2 ∧ Below w.heap.size w w' := by
  have HR := Lib.hid hR
  clear hR
  unfold farR
  cases hq : (validS l && okR m 0 k)
  · rw [← askB_far] at hq
    go_enter Try.func51, Try.ntmps51
    go_wp2_with (go_at_call 53; refine (asks_val HR.out hq).mono ?_; rintro e w1 ⟨rfl, rfl⟩)
    go_ret3
    exact ⟨rIII_eq rfl rfl rfl, Below.refl _ _⟩
  · obtain ⟨hv, hr⟩ := Bool.and_eq_true_iff.1 hq
    obtain ⟨hm, ho, hk⟩ := okR_iff.1 hr
    obtain ⟨mm, rfl⟩ := Int.eq_ofNat_of_zero_le hm.1
    obtain ⟨kk, rfl⟩ := Int.eq_ofNat_of_zero_le (show 0 ≤ k by omega)
    have hk1 : 1 ≤ kk := by omega
    have hk4 : kk ≤ 100 := by omega
    obtain ⟨htl, htl4⟩ := tableS_len hv
    rw [if_pos rfl, Int.toNat_natCast]
    obtain ⟨T, hT⟩ : ∃ T, T = tableS l := ⟨_, rfl⟩
    rw [← hT] at htl htl4 ⊢
    rw [← askB_far] at hq
    have HT := Lib.hid hT
    have HV := Lib.hid hv; have HQ := Lib.hid hq
    clear hT hv hr hm ho hk hq
    by_cases hc0 : cnt T mm = 0
    · have hz : (((cnt T mm : Nat) : Int) == 0) = true := by rw [hc0]; rfl
      rw [if_pos hc0]
      clear hc0
      go_enter Try.func51, Try.ntmps51
      go_wp2_with (first
          | (go_at_call 53; (with_reducible refine (asks_val HR.out HQ.out).mono ?_); rintro e w1 ⟨rfl, rfl⟩)
          | (go_at_call 48; (with_reducible refine (table_val HR.out HV.out HT.out).mono ?_); rintro e w2 ⟨a2, n2, c2, rfl, ho, hb2⟩; have HTB := Lib.hid (ownsI_rd ho); have W2 := Lib.hid hb2; clear ho hb2)
          | (go_at_call 49; refine (count_any _ _ _ _ _ _ HTB.out).mono ?_; rintro e w1 ⟨rfl, rfl⟩))
      go_ret3
      exact ⟨rIII_eq rfl rfl rfl, W2.out⟩
    · have hz : (((cnt T mm : Nat) : Int) == 0) = false := by simp; omega
      rw [if_neg hc0]
      have hcp : 0 < cnt T mm := by omega
      clear hc0
      obtain ⟨D, hD⟩ : ∃ D, D = dl T mm kk := ⟨_, rfl⟩
      have HD := Lib.hid hD
      have HB0 : Hid (bstF true D 1 = (D 0, (0 : Int))) := Lib.hid (bstF_first true D rfl)
      have HD0 : Hid (dl T mm kk 0 = D 0) := Lib.hid (by rw [hD])
      rw [← hD]
      clear hD
      go_enter Try.func51, Try.ntmps51
      go_wp2_with (first
          | (go_at_call 53; (with_reducible refine (asks_val HR.out HQ.out).mono ?_); rintro e w1 ⟨rfl, rfl⟩)
          | (go_at_call 48; (with_reducible refine (table_val HR.out HV.out HT.out).mono ?_); rintro e w2 ⟨a2, n2, c2, rfl, ho, hb2⟩; have HTB := Lib.hid (ownsI_rd ho); have W2 := Lib.hid hb2; clear ho hb2)
          | (go_at_call 49; refine (count_any _ _ _ _ _ _ HTB.out).mono ?_; rintro e w1 ⟨rfl, rfl⟩)
          | (go_at_call 50; refine (delay_int (mo := 0) (k := kk) _ _ _ (by rfl) (by rfl) (by rfl) (by omega) hk1 hk4 hcp htl4 HTB.out).mono ?_; rintro e w1 ⟨rfl, rfl⟩))
      have hnl := HTB.out.length
      have HNL := Lib.hid hnl
      have hn1 : 1 ≤ n2 := by omega
      have hn4 : n2 ≤ 400 := by omega
      rw [HD0.out]
      clear hnl
      go_loopw [13, 14, 15] (fun u v i wr => ∃ j : Nat, 1 ≤ j ∧ j ≤ n2 ∧ u = .int .i64 (bstF true D j).1 ∧ v = .int .i64 (bstF true D j).2 ∧ i = .int .i64 j ∧ w2 = wr) (fun _ _ i _ => n2 - (intOf i).toNat)
      case atStart => exact ⟨1, Nat.le_refl _, hn1, by rw [HB0.out], by rw [HB0.out], rfl, rfl⟩
      case round =>
        obtain ⟨j, hj1, hj, rfl, rfl, rfl, rfl⟩ := hrel
        by_cases hlt : j < n2
        · have HDJ : Hid (dl T mm kk j = D j) := Lib.hid (by rw [HD.out])
          cases hb : betB true (D j) (bstF true D j).1
          · have HF := Lib.hid (bstF_no true D (by omega) hb)
            rw [← HDJ.out] at hb
            have hb2 : decide ((bstF true D j).1 < dl T mm kk j) = false := hb
            clear hb
            go_wp2_with (go_at_call 50; refine (delay_int _ _ _ (by rfl) (by rfl) (by rfl) (by omega) hk1 hk4 hcp htl4 HTB.out).mono ?_; rintro e w1 ⟨rfl, rfl⟩)
            go_roundw
            case rel => exact ⟨j + 1, by omega, by omega, by rw [HF.out], by rw [HF.out], by go_num, by first | rfl | trivial⟩
            case measure => simp [intOf]; omega
          · have HF := Lib.hid (bstF_yes true D hb)
            rw [← HDJ.out] at hb
            have hb2 : decide ((bstF true D j).1 < dl T mm kk j) = true := hb
            clear hb
            go_wp2_with (go_at_call 50; refine (delay_int _ _ _ (by rfl) (by rfl) (by rfl) (by omega) hk1 hk4 hcp htl4 HTB.out).mono ?_; rintro e w1 ⟨rfl, rfl⟩)
            go_roundw
            case rel => exact ⟨j + 1, by omega, by omega, by rw [HF.out, HDJ.out], by rw [HF.out], by go_num, by first | rfl | trivial⟩
            case measure => simp [intOf]; omega
        · have hjn : j = n2 := by omega
          have HJN := Lib.hid hjn
          clear hjn
          go_wp2
          go_ret3
          exact ⟨rIII_eq (by rw [HJN.out, HNL.out]) (by rw [HJN.out, HNL.out]) rfl, W2.out⟩
set_option maxRecDepth 10000 in
set_option maxHeartbeats 4000000 in
theorem extreme_false (a : Option Addr) (n c : Nat) (l : List P2) (m k : Int) (w : World) (hR : Rd w a n 2 (l.map enc2)) :
    Calls Try.prog 51 #[.slice a n c, .int .i64 m, .int .i64 k, .bool false] w fun e w' => e = rIII (farR false l m k).1 (farR false l m k).2.1 (farR false l m k).2.2 ∧ Below w.heap.size w w' := by
  have HR := Lib.hid hR
  clear hR
  unfold farR
  cases hq : (validS l && okR m 0 k)
  · rw [← askB_far] at hq
    go_enter Try.func51, Try.ntmps51
    go_wp2_with (go_at_call 53; refine (asks_val HR.out hq).mono ?_; rintro e w1 ⟨rfl, rfl⟩)
    go_ret3
    exact ⟨rIII_eq rfl rfl rfl, Below.refl _ _⟩
  · obtain ⟨hv, hr⟩ := Bool.and_eq_true_iff.1 hq
    obtain ⟨hm, ho, hk⟩ := okR_iff.1 hr
    obtain ⟨mm, rfl⟩ := Int.eq_ofNat_of_zero_le hm.1
    obtain ⟨kk, rfl⟩ := Int.eq_ofNat_of_zero_le (show 0 ≤ k by omega)
    have hk1 : 1 ≤ kk := by omega
    have hk4 : kk ≤ 100 := by omega
    obtain ⟨htl, htl4⟩ := tableS_len hv
    rw [if_pos rfl, Int.toNat_natCast]
    obtain ⟨T, hT⟩ : ∃ T, T = tableS l := ⟨_, rfl⟩
    rw [← hT] at htl htl4 ⊢
    rw [← askB_far] at hq
    have HT := Lib.hid hT
    have HV := Lib.hid hv; have HQ := Lib.hid hq
    clear hT hv hr hm ho hk hq
    by_cases hc0 : cnt T mm = 0
    · have hz : (((cnt T mm : Nat) : Int) == 0) = true := by rw [hc0]; rfl
      rw [if_pos hc0]
      clear hc0
      go_enter Try.func51, Try.ntmps51
      go_wp2_with (first
          | (go_at_call 53; (with_reducible refine (asks_val HR.out HQ.out).mono ?_); rintro e w1 ⟨rfl, rfl⟩)
          | (go_at_call 48; (with_reducible refine (table_val HR.out HV.out HT.out).mono ?_); rintro e w2 ⟨a2, n2, c2, rfl, ho, hb2⟩; have HTB := Lib.hid (ownsI_rd ho); have W2 := Lib.hid hb2; clear ho hb2)
          | (go_at_call 49; refine (count_any _ _ _ _ _ _ HTB.out).mono ?_; rintro e w1 ⟨rfl, rfl⟩))
      go_ret3
      exact ⟨rIII_eq rfl rfl rfl, W2.out⟩
    · have hz : (((cnt T mm : Nat) : Int) == 0) = false := by simp; omega
      rw [if_neg hc0]
      have hcp : 0 < cnt T mm := by omega
      clear hc0
      obtain ⟨D, hD⟩ : ∃ D, D = dl T mm kk := ⟨_, rfl⟩
      have HD := Lib.hid hD
      have HB0 : Hid (bstF false D 1 = (D 0, (0 : Int))) := Lib.hid (bstF_first false D rfl)
      have HD0 : Hid (dl T mm kk 0 = D 0) := Lib.hid (by rw [hD])
      rw [← hD]
      clear hD
      go_enter Try.func51, Try.ntmps51
      go_wp2_with (first
          | (go_at_call 53; (with_reducible refine (asks_val HR.out HQ.out).mono ?_); rintro e w1 ⟨rfl, rfl⟩)
          | (go_at_call 48; (with_reducible refine (table_val HR.out HV.out HT.out).mono ?_); rintro e w2 ⟨a2, n2, c2, rfl, ho, hb2⟩; have HTB := Lib.hid (ownsI_rd ho); have W2 := Lib.hid hb2; clear ho hb2)
          | (go_at_call 49; refine (count_any _ _ _ _ _ _ HTB.out).mono ?_; rintro e w1 ⟨rfl, rfl⟩)
          | (go_at_call 50; refine (delay_int (mo := 0) (k := kk) _ _ _ (by rfl) (by rfl) (by rfl) (by omega) hk1 hk4 hcp htl4 HTB.out).mono ?_; rintro e w1 ⟨rfl, rfl⟩))
      have hnl := HTB.out.length
      have HNL := Lib.hid hnl
      have hn1 : 1 ≤ n2 := by omega
      have hn4 : n2 ≤ 400 := by omega
      rw [HD0.out]
      clear hnl
      go_loopw [13, 14, 15] (fun u v i wr => ∃ j : Nat, 1 ≤ j ∧ j ≤ n2 ∧ u = .int .i64 (bstF false D j).1 ∧ v = .int .i64 (bstF false D j).2 ∧ i = .int .i64 j ∧ w2 = wr) (fun _ _ i _ => n2 - (intOf i).toNat)
      case atStart => exact ⟨1, Nat.le_refl _, hn1, by rw [HB0.out], by rw [HB0.out], rfl, rfl⟩
      case round =>
        obtain ⟨j, hj1, hj, rfl, rfl, rfl, rfl⟩ := hrel
        by_cases hlt : j < n2
        · have HDJ : Hid (dl T mm kk j = D j) := Lib.hid (by rw [HD.out])
          cases hb : betB false (D j) (bstF false D j).1
          · have HF := Lib.hid (bstF_no false D (by omega) hb)
            rw [← HDJ.out] at hb
            have hb2 : decide (dl T mm kk j < (bstF false D j).1) = false := hb
            clear hb
            go_wp2_with (go_at_call 50; refine (delay_int _ _ _ (by rfl) (by rfl) (by rfl) (by omega) hk1 hk4 hcp htl4 HTB.out).mono ?_; rintro e w1 ⟨rfl, rfl⟩)
            go_roundw
            case rel => exact ⟨j + 1, by omega, by omega, by rw [HF.out], by rw [HF.out], by go_num, by first | rfl | trivial⟩
            case measure => simp [intOf]; omega
          · have HF := Lib.hid (bstF_yes false D hb)
            rw [← HDJ.out] at hb
            have hb2 : decide (dl T mm kk j < (bstF false D j).1) = true := hb
            clear hb
            go_wp2_with (go_at_call 50; refine (delay_int _ _ _ (by rfl) (by rfl) (by rfl) (by omega) hk1 hk4 hcp htl4 HTB.out).mono ?_; rintro e w1 ⟨rfl, rfl⟩)
            go_roundw
            case rel => exact ⟨j + 1, by omega, by omega, by rw [HF.out, HDJ.out], by rw [HF.out], by go_num, by first | rfl | trivial⟩
            case measure => simp [intOf]; omega
        · have hjn : j = n2 := by omega
          have HJN := Lib.hid hjn
          clear hjn
          go_wp2
          go_ret3
          exact ⟨rIII_eq (by rw [HJN.out, HNL.out]) (by rw [HJN.out, HNL.out]) rfl, W2.out⟩
theorem rWorst_val {a : Option Addr} {n c : Nat} {l : List P2} {m k : Int} {w : World} {R : Int × Int × Int} (hR : Rd w a n 2 (l.map enc2)) (h : farR true l m k = R) :
    Calls Try.prog 18 #[.slice a n c, .int .i64 m, .int .i64 k] w fun e w' => e = rIII R.1 R.2.1 R.2.2 ∧ Below w.heap.size w w' := by
  have HC := Lib.hid (extreme_true a n c l m k w hR)
  rw [h] at HC
  clear hR h
  go_enter Try.func18, Try.ntmps18
  go_wp2_with (go_at_call 51; refine (HC.out).mono ?_; rintro e w1 ⟨rfl, hb1⟩; obtain ⟨hc1, hf1, hz1, hr1⟩ := bfacts hb1; (try simp only [World.size_alloc, World.size_setCell, World.size_drew, World.size_drewN] at hz1 hr1); (try have hw0 : w.heap.size < w1.heap.size := by omega); (try have hw1 : w.heap.size + 1 < w1.heap.size := by omega); (try have hw2 : w.heap.size + 1 + 1 < w1.heap.size := by omega))
  go_ret3
  exact ⟨rIII_eq rfl rfl rfl, by (repeat' (first | (with_reducible exact Below.refl _ _) | (with_reducible assumption) | (with_reducible refine Below.alloc ?_ ?_ _) | (with_reducible refine Below.drew ?_) | (with_reducible refine Below.draws ?_ _) | (with_reducible refine Below.setCell ?_ ?_ _) | (refine Below.then ?_ (by with_reducible assumption)) | go_size))⟩
theorem rBest_val {a : Option Addr} {n c : Nat} {l : List P2} {m k : Int} {w : World} {R : Int × Int × Int} (hR : Rd w a n 2 (l.map enc2)) (h : farR false l m k = R) :
    Calls Try.prog 20 #[.slice a n c, .int .i64 m, .int .i64 k] w fun e w' => e = rIII R.1 R.2.1 R.2.2 ∧ Below w.heap.size w w' := by
  have HC := Lib.hid (extreme_false a n c l m k w hR)
  rw [h] at HC
  clear hR h
  go_enter Try.func20, Try.ntmps20
  go_wp2_with (go_at_call 51; refine (HC.out).mono ?_; rintro e w1 ⟨rfl, hb1⟩; obtain ⟨hc1, hf1, hz1, hr1⟩ := bfacts hb1; (try simp only [World.size_alloc, World.size_setCell, World.size_drew, World.size_drewN] at hz1 hr1); (try have hw0 : w.heap.size < w1.heap.size := by omega); (try have hw1 : w.heap.size + 1 < w1.heap.size := by omega); (try have hw2 : w.heap.size + 1 + 1 < w1.heap.size := by omega))
  go_ret3
  exact ⟨rIII_eq rfl rfl rfl, by (repeat' (first | (with_reducible exact Below.refl _ _) | (with_reducible assumption) | (with_reducible refine Below.alloc ?_ ?_ _) | (with_reducible refine Below.drew ?_) | (with_reducible refine Below.draws ?_ _) | (with_reducible refine Below.setCell ?_ ?_ _) | (refine Below.then ?_ (by with_reducible assumption)) | go_size))⟩
theorem rEnd_val {a : Option Addr} {n c : Nat} {l : List P2} {m o k : Int} {w : World} {R : P2} (hR : Rd w a n 2 (l.map enc2)) (h : endR l m o k = R) :
    Calls Try.prog 17 #[.slice a n c, val3 m o k] w fun e w' => e = rII R.1 R.2 ∧ Below w.heap.size w w' := h ▸ rEnd_any a n c l m o k w hR
end Go.Proofs.Ytgldgomjlcojaaa
