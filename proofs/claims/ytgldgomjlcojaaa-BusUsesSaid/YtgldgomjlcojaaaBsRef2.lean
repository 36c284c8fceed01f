/- Contracts of the reference's windows, Least, Most, Period and Share, and of the program's Period and Share. The conditions: the slots read as named. -/
import Derived.Test.YtgldgomjlcojaaaBsRef
namespace Go.Proofs.Ytgldgomjlcojaaa
open Go.RowKit
set_option linter.unusedSimpArgs false
set_option linter.unusedVariables false
theorem mstF_one {f : Nat → Int} (h : ∀ j, 0 ≤ f j) : mstF f 1 = f 0 := by have := h 0; simp only [mstF]; omega
theorem owned_int {a : Option Addr} {n c : Nat} {t : List Int} {m : Int} {fr tk : Nat} (M O K : Int) (hM : M = m) (hO : O = fr) (hK : K = tk) (hf : fr ≤ 10000000) (ht : tk ≤ 10000000) (hn : 0 < t.length) (hn4 : t.length ≤ 400) {w : World} (hR : Rd w a n 1 (t.map enc1)) :
    Calls Try.prog 59 #[.slice a n c, .int .i64 M, .int .i64 O, .int .i64 K] w fun e w' => e = .returned (.int .i64 (wn t m tk fr)) ∧ Below w.heap.size w w' := by
  have := hR.length
  subst hM; subst hO; subst hK; exact owned_any a n c t M fr tk hf ht (by omega) (by omega) w hR
theorem wn_le (t : List Int) (m : Int) (w a : Nat) : wn t m w a ≤ w := by have := (cF_add (t := t) (m := m) a w).2; unfold wn; omega
set_option maxRecDepth 10000 in
set_option maxHeartbeats 4000000 in
theorem rwindows_any (a : Option Addr) (n c : Nat) (l : List P2) (m : Int) (v : Nat) (hv4 : v ≤ 10000) (w : World) (hR : Rd w a n 2 (l.map enc2)) (hv : validS l = true) :
    Calls Try.prog 54 #[.slice a n c, .int .i64 m, .int .i64 v] w fun e w' => e = rII (lstF (wn (tableS l) m v) (tableS l).length) (mstF (wn (tableS l) m v) (tableS l).length) ∧ Below w.heap.size w w' := by
  have HR := Lib.hid hR
  obtain ⟨htl, htl4⟩ := tableS_len hv
  obtain ⟨T, hT⟩ : ∃ T, T = tableS l := ⟨_, rfl⟩
  rw [← hT] at htl htl4 ⊢
  have HT := Lib.hid hT
  have HV := Lib.hid hv
  obtain ⟨F, hF⟩ : ∃ F, F = wn T m v := ⟨_, rfl⟩
  have HF := Lib.hid hF
  have HB : Hid (∀ j, 0 ≤ F j ∧ F j ≤ v) := Lib.hid (fun j => by rw [hF]; exact ⟨wn_nonneg v j, wn_le T m v j⟩)
  have HW0 : Hid (wn T m v 0 = F 0) := Lib.hid (by rw [hF])
  have HM1 : Hid (mstF F 1 = F 0) := Lib.hid (mstF_one (fun j => (HB.out j).1))
  have HL1 : Hid (lstF F 1 = F 0) := Lib.hid rfl
  rw [← hF]
  clear hT hv hR hF
  go_enter Try.func54, Try.ntmps54
  go_wp2_with (first
    | (go_at_call 48; (with_reducible refine (table_val HR.out HV.out HT.out).mono ?_); rintro e w2 ⟨a2, n2, c2, rfl, ho, hb2⟩; have HTB := Lib.hid (ownsI_rd ho); have W2 := Lib.hid hb2; clear ho hb2)
    | (go_at_call 59; refine (owned_int (fr := 0) (tk := v) _ _ _ (by rfl) (by rfl) (by rfl) (by omega) (by omega) htl htl4 (HTB.out.ext (by (repeat' (first | (with_reducible exact Below.refl _ _) | (with_reducible assumption) | (with_reducible refine Below.alloc ?_ ?_ _) | (with_reducible refine Below.drew ?_) | (with_reducible refine Below.draws ?_ _) | (with_reducible refine Below.setCell ?_ ?_ _) | (refine Below.then ?_ (by with_reducible assumption)) | go_size))))).mono ?_; rw [HW0.out]; rintro e w1 ⟨rfl, hb1⟩))
  have hb2 : Below w2.heap.size w2 w1 := by (repeat' (first | (with_reducible exact Below.refl _ _) | (with_reducible assumption) | (with_reducible refine Below.alloc ?_ ?_ _) | (with_reducible refine Below.drew ?_) | (with_reducible refine Below.draws ?_ _) | (with_reducible refine Below.setCell ?_ ?_ _) | (refine Below.then ?_ (by with_reducible assumption)) | go_size))
  have HB2 := Lib.hid hb2
  have hnl := HTB.out.length
  have HNL := Lib.hid hnl
  have hn1 : 1 ≤ n2 := by omega
  have hn4 : n2 ≤ 400 := by omega
  clear hnl hb2 hb1
  obtain ⟨w0, rfl⟩ : ∃ w0, w0 = w1 := ⟨_, rfl⟩
  go_loopw [9, 10, 11] (fun u v i wr => ∃ j : Nat, 1 ≤ j ∧ j ≤ n2 ∧ u = .int .i64 (lstF F j) ∧ v = .int .i64 (mstF F j) ∧ i = .int .i64 j ∧ Below w2.heap.size w2 wr) (fun _ _ i _ => n2 - (intOf i).toNat)
  case atStart => exact ⟨1, Nat.le_refl _, hn1, by rw [HL1.out], by rw [HM1.out], rfl, HB2.out⟩
  case round =>
    obtain ⟨j, hj1, hj, rfl, rfl, rfl, hB⟩ := hrel
    have HBB := Lib.hid hB
    clear hB
    by_cases hlt : j < n2
    · have HWJ : Hid (wn T m v j = F j) := Lib.hid (by rw [HF.out])
      have HL := Lib.hid (lstF_next F (k := j) (by omega))
      have HM := Lib.hid (mstF_next F j)
      go_wp2_with (go_at_call 59; refine (owned_int (fr := j) (tk := v) _ _ _ (by rfl) (by rfl) (by rfl) (by omega) (by omega) htl htl4 (HTB.out.ext HBB.out)).mono ?_; rw [HWJ.out]; rintro e w1 ⟨rfl, hb1⟩)
      go_roundw
      case rel => exact ⟨j + 1, by omega, by omega, by rw [HL.out], by rw [HM.out], by go_num, Below.then HBB.out hb1⟩
      case measure => simp [intOf]; omega
    · have hjn : j = n2 := by omega
      have HJN := Lib.hid hjn
      clear hjn
      go_wp2
      go_ret2
      exact ⟨rII_eq (by rw [HJN.out, HNL.out]) (by rw [HJN.out, HNL.out]), Below.then W2.out HBB.out⟩
theorem askB_win (l : List P2) (m w : Int) : askB l m w 0 10000 = winOk l m w := rfl
theorem rLeast_val {a : Option Addr} {n c : Nat} {l : List P2} {m wd : Int} {w : World} {R : Int × Int × Int} (hR : Rd w a n 2 (l.map enc2)) (h : winR l m wd = R) :
    Calls Try.prog 21 #[.slice a n c, .int .i64 m, .int .i64 wd] w fun e w' => e = rII R.1 R.2.2 ∧ Below w.heap.size w w' := by
  have HR := Lib.hid hR
  clear hR
  subst h
  unfold winR
  cases hq : winOk l m wd
  · rw [← askB_win] at hq
    go_enter Try.func21, Try.ntmps21
    go_wp2_with (go_at_call 53; (with_reducible refine (asks_val HR.out hq).mono ?_); rintro e w1 ⟨rfl, rfl⟩)
    go_ret2
    exact ⟨rII_eq rfl rfl, Below.refl _ _⟩
  · have hq2 := hq
    unfold winOk at hq2
    simp only [Bool.and_eq_true, inB_iff] at hq2
    obtain ⟨v, rfl⟩ := Int.eq_ofNat_of_zero_le hq2.2.1
    have HC := Lib.hid (rwindows_any a n c l m v (by omega) w HR.out hq2.1.1)
    rw [if_pos rfl, Int.toNat_natCast]
    rw [← askB_win] at hq
    clear hq2
    generalize lstF (wn (tableS l) m v) (tableS l).length = A at *
    generalize mstF (wn (tableS l) m v) (tableS l).length = B at *
    go_enter Try.func21, Try.ntmps21
    go_wp2_with (first | (go_at_call 53; (with_reducible refine (asks_val HR.out hq).mono ?_); rintro e w1 ⟨rfl, rfl⟩) | (go_at_call 54; (with_reducible refine HC.out.mono ?_); rintro e w1 ⟨rfl, hb1⟩))
    go_ret2
    exact ⟨rII_eq rfl rfl, hb1⟩
theorem rMost_val {a : Option Addr} {n c : Nat} {l : List P2} {m wd : Int} {w : World} {R : Int × Int × Int} (hR : Rd w a n 2 (l.map enc2)) (h : winR l m wd = R) :
    Calls Try.prog 23 #[.slice a n c, .int .i64 m, .int .i64 wd] w fun e w' => e = rII R.2.1 R.2.2 ∧ Below w.heap.size w w' := by
  have HR := Lib.hid hR
  clear hR
  subst h
  unfold winR
  cases hq : winOk l m wd
  · rw [← askB_win] at hq
    go_enter Try.func23, Try.ntmps23
    go_wp2_with (go_at_call 53; (with_reducible refine (asks_val HR.out hq).mono ?_); rintro e w1 ⟨rfl, rfl⟩)
    go_ret2
    exact ⟨rII_eq rfl rfl, Below.refl _ _⟩
  · have hq2 := hq
    unfold winOk at hq2
    simp only [Bool.and_eq_true, inB_iff] at hq2
    obtain ⟨v, rfl⟩ := Int.eq_ofNat_of_zero_le hq2.2.1
    have HC := Lib.hid (rwindows_any a n c l m v (by omega) w HR.out hq2.1.1)
    rw [if_pos rfl, Int.toNat_natCast]
    rw [← askB_win] at hq
    clear hq2
    generalize lstF (wn (tableS l) m v) (tableS l).length = A at *
    generalize mstF (wn (tableS l) m v) (tableS l).length = B at *
    go_enter Try.func23, Try.ntmps23
    go_wp2_with (first | (go_at_call 53; (with_reducible refine (asks_val HR.out hq).mono ?_); rintro e w1 ⟨rfl, rfl⟩) | (go_at_call 54; (with_reducible refine HC.out.mono ?_); rintro e w1 ⟨rfl, hb1⟩))
    go_ret2
    exact ⟨rII_eq rfl rfl, hb1⟩
def perR (l : List P2) : P2 := if validS l then ((tableS l).length, 0) else (0, 1)
def shrR (l : List P2) (m : Int) : P2 := if validS l && inB m 0 3 then (cnt (tableS l) m, 0) else (0, 1)
theorem askB_shr (l : List P2) (m : Int) : askB l m 0 0 0 = (validS l && inB m 0 3) := by unfold askB; rw [show inB 0 0 0 = true by decide, Bool.and_true]
theorem rPeriod_val {a : Option Addr} {n c : Nat} {l : List P2} {w : World} {R : P2} (hR : Rd w a n 2 (l.map enc2)) (h : perR l = R) :
    Calls Try.prog 24 #[.slice a n c] w fun e w' => e = rII R.1 R.2 ∧ Below w.heap.size w w' := by
  have HR := Lib.hid hR
  clear hR
  subst h
  unfold perR
  cases hv : validS l
  · go_enter Try.func24, Try.ntmps24
    go_wp2_with (go_at_call 12; refine (rvalid_val HR.out hv).mono ?_; rintro e w1 ⟨rfl, rfl⟩)
    go_ret2
    exact ⟨rII_eq rfl rfl, Below.refl _ _⟩
  · rw [if_pos rfl]
    go_enter Try.func24, Try.ntmps24
    go_wp2_with (first
      | (go_at_call 12; refine (rvalid_val HR.out hv).mono ?_; rintro e w1 ⟨rfl, rfl⟩)
      | (go_at_call 48; (with_reducible refine (table_any _ _ _ _ _ HR.out hv).mono ?_); rintro e w2 ⟨a2, n2, c2, rfl, ho, hb2⟩; have HTL := Lib.hid (ownsI_rd ho).length; have W2 := Lib.hid hb2; clear ho hb2))
    go_ret2
    exact ⟨rII_eq (by rw [HTL.out]) rfl, W2.out⟩
theorem rShare_val {a : Option Addr} {n c : Nat} {l : List P2} {m : Int} {w : World} {R : P2} (hR : Rd w a n 2 (l.map enc2)) (h : shrR l m = R) :
    Calls Try.prog 25 #[.slice a n c, .int .i64 m] w fun e w' => e = rII R.1 R.2 ∧ Below w.heap.size w w' := by
  have HR := Lib.hid hR
  clear hR
  subst h
  unfold shrR
  cases hq : (validS l && inB m 0 3)
  · rw [← askB_shr] at hq
    go_enter Try.func25, Try.ntmps25
    go_wp2_with (go_at_call 53; (with_reducible refine (asks_val HR.out hq).mono ?_); rintro e w1 ⟨rfl, rfl⟩)
    go_ret2
    exact ⟨rII_eq rfl rfl, Below.refl _ _⟩
  · obtain ⟨hv, hm⟩ := Bool.and_eq_true_iff.1 hq
    have HV := Lib.hid hv
    rw [if_pos rfl]
    rw [← askB_shr] at hq
    clear hv hm
    go_enter Try.func25, Try.ntmps25
    go_wp2_with (first
      | (go_at_call 53; (with_reducible refine (asks_val HR.out hq).mono ?_); rintro e w1 ⟨rfl, rfl⟩)
      | (go_at_call 48; (with_reducible refine (table_any _ _ _ _ _ HR.out HV.out).mono ?_); rintro e w2 ⟨a2, n2, c2, rfl, ho, hb2⟩; have HTB := Lib.hid (ownsI_rd ho); have W2 := Lib.hid hb2; clear ho hb2)
      | (go_at_call 49; refine (count_any _ _ _ _ _ _ HTB.out).mono ?_; rintro e w1 ⟨rfl, rfl⟩))
    go_ret2
    exact ⟨rII_eq rfl rfl, W2.out⟩
end Go.Proofs.Ytgldgomjlcojaaa
