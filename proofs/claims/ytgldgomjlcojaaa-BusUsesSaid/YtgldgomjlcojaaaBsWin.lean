/- Contracts of windows, Least and Most of both sides. The conditions: the slots read as named. -/
import Derived.Test.YtgldgomjlcojaaaBsWheel
namespace Go.Proofs.Ytgldgomjlcojaaa
open Go.RowKit
set_option linter.unusedSimpArgs false
set_option linter.unusedVariables false
abbrev rIII (a b c : Int) : Ending := .returned (.tuple #[.int .i64 a, .int .i64 b, .int .i64 c])
theorem rIII_eq {a b c d e f : Int} (h : a = d) (h' : b = e) (h'' : c = f) : Ending.returned (.tuple #[.int .i64 a, .int .i64 b, .int .i64 c]) = rIII d e f := by rw [h, h', h'']
theorem later_rdW {w w1 : World} {x : After w1} {h T} (hR : RdW w h T) (hb : Below w.heap.size w w1) : RdW (World.later w1 x) h T := (hR.ext hb).ext x.below
def winOk (l : List P2) (m w : Int) : Bool := validS l && inB m 0 3 && inB w 0 10000
def winR (l : List P2) (m w : Int) : Int × Int × Int := if winOk l m w then (lstF (wn (tableS l) m w.toNat) (tableS l).length, mstF (wn (tableS l) m w.toNat) (tableS l).length, 0) else (0, 0, 1)
theorem alloc5 (w : World) (h : Nat → Hdr) (t : TypeId) : (w.alloc (.cells #[.slice (h 0).a (h 0).n (h 0).c, .slice (h 1).a (h 1).n (h 1).c, .slice (h 2).a (h 2).n (h 2).c, .slice (h 3).a (h 3).n (h 3).c, .slice (h 4).a (h 4).n (h 4).c] t)).heap.size = w.heap.size + 1 := by simp
/-- a block that holds a wheel -/
structure WhC (q : Nat) (w : World) (h : Nat → Hdr) : Prop where
  lt : q < w.heap.size
  c0 : w.cell? ⟨q, 0, none⟩ = some (sl (h 0))
  c1 : w.cell? ⟨q, 1, none⟩ = some (sl (h 1))
  c2 : w.cell? ⟨q, 2, none⟩ = some (sl (h 2))
  c3 : w.cell? ⟨q, 3, none⟩ = some (sl (h 3))
  c4 : w.cell? ⟨q, 4, none⟩ = some (sl (h 4))
theorem WhC.mk' (w : World) (h : Nat → Hdr) (t : TypeId) : WhC w.heap.size (w.alloc (.cells #[.slice (h 0).a (h 0).n (h 0).c, .slice (h 1).a (h 1).n (h 1).c, .slice (h 2).a (h 2).n (h 2).c, .slice (h 3).a (h 3).n (h 3).c, .slice (h 4).a (h 4).n (h 4).c] t)) h :=
  ⟨by simp, by simp [go_sem], by simp [go_sem], by simp [go_sem], by simp [go_sem], by simp [go_sem]⟩
theorem WhC.ext {q : Nat} {w w' : World} {h} (hW : WhC q w h) (hb : Below w.heap.size w w') : WhC q w' h :=
  ⟨Nat.lt_of_lt_of_le hW.lt hb.size, (hb.cell hW.lt).trans hW.c0, (hb.cell hW.lt).trans hW.c1, (hb.cell hW.lt).trans hW.c2, (hb.cell hW.lt).trans hW.c3, (hb.cell hW.lt).trans hW.c4⟩
theorem before_int (h : Nat → Hdr) (T : List Int) (m mo : Nat) (M O : Int) (hM : M = m) (hO : O = mo) (hm : m < 4) (hmo : mo ≤ 100000000) (w : World) (hR : RdW w h T) (hT : 0 < T.length) (hT4 : T.length ≤ 400) :
    Calls Try.prog 58 #[whV h, .int .i64 M, .int .i64 O] w fun e w' => e = .returned (.int .i64 (cF T m mo)) ∧ Below w.heap.size w w' := by
  subst hM; subst hO; exact before_any h T m mo hm hmo w hR hT hT4
theorem lstF_first (f : Nat → Int) {k : Nat} (h : k = 0) : lstF f (k + 1) = f k := by subst h; rfl
theorem lstF_next (f : Nat → Int) {k : Nat} (h : 0 < k) : lstF f (k + 1) = min (lstF f k) (f k) := by rw [lstF, if_neg (by omega)]
theorem mstF_next (f : Nat → Int) (k : Nat) : mstF f (k + 1) = max (mstF f k) (f k) := rfl
set_option maxRecDepth 10000 in
set_option maxHeartbeats 4000000 in
theorem windows_any (a : Option Addr) (n c : Nat) (l : List P2) (m wd : Int) (w : World) (hR : Rd w a n 2 (l.map enc2)) :
    Calls Try.prog 41 #[.slice a n c, .int .i64 m, .int .i64 wd] w fun e w' => e = rIII (winR l m wd).1 (winR l m wd).2.1 (winR l m wd).2.2 ∧ Below w.heap.size w w' := by
  have HR := Lib.hid hR
  clear hR
  unfold winR winOk
  cases hv : validS l
  · go_enter Try.func41, Try.ntmps41
    go_wp2_with (go_at_call 32; (with_reducible refine (valid_val HR.out hv).mono ?_); rintro e w1 ⟨rfl, hb1⟩; have W1 := Lib.hid hb1; clear hb1)
    go_ret3
    exact ⟨rIII_eq rfl rfl rfl, W1.out⟩
  · cases hm : inB m 0 3
    · go_enter Try.func41, Try.ntmps41
      go_wp2_with (first | (go_at_call 32; (with_reducible refine (valid_val HR.out hv).mono ?_); rintro e w1 ⟨rfl, hb1⟩; have W1 := Lib.hid hb1; clear hb1) | (go_at_call 57; refine (isMaster_val hm).mono ?_; rintro e w1 ⟨rfl, rfl⟩))
      go_ret3
      exact ⟨rIII_eq rfl rfl rfl, W1.out⟩
    · cases hw : inB wd 0 10000
      · go_enter Try.func41, Try.ntmps41
        go_wp2_with (first | (go_at_call 32; (with_reducible refine (valid_val HR.out hv).mono ?_); rintro e w1 ⟨rfl, hb1⟩; have W1 := Lib.hid hb1; clear hb1) | (go_at_call 57; refine (isMaster_val hm).mono ?_; rintro e w1 ⟨rfl, rfl⟩) | (go_at_call 56; refine (within_val hw).mono ?_; rintro e w1 ⟨rfl, rfl⟩))
        go_ret3
        exact ⟨rIII_eq rfl rfl rfl, W1.out⟩
      · obtain ⟨hw1, hw2⟩ := inB_iff.1 hw
        obtain ⟨hm1, hm2⟩ := inB_iff.1 hm
        obtain ⟨v, rfl⟩ := Int.eq_ofNat_of_zero_le hw1
        obtain ⟨mm, rfl⟩ := Int.eq_ofNat_of_zero_le hm1
        have hm4 : mm < 4 := by omega
        have hv4 : v ≤ 10000 := by omega
        obtain ⟨htl, htl4⟩ := tableS_len hv
        rw [show (true && true && true) = true from rfl, if_pos rfl, Int.toNat_natCast]
        simp only []
        have HM := Lib.hid hm; have HWD := Lib.hid hw; have HV := Lib.hid hv
        clear hm hw
        obtain ⟨T, hT⟩ : ∃ T, T = tableS l := ⟨_, rfl⟩
        have HT := Lib.hid hT
        rw [← hT] at htl htl4 ⊢
        clear hT
        go_enter Try.func41, Try.ntmps41
        go_wp2_with (first
          | (go_at_call 32; (with_reducible refine (valid_val HR.out hv).mono ?_); rintro e w1 ⟨rfl, hb1⟩; have W1 := Lib.hid hb1; clear hb1)
          | (go_at_call 57; refine (isMaster_val HM.out).mono ?_; rintro e w1 ⟨rfl, rfl⟩)
          | (go_at_call 56; refine (within_val HWD.out).mono ?_; rintro e w1 ⟨rfl, rfl⟩)
          | (go_at_call 45; (with_reducible refine (turning_any _ _ _ l _ (HR.out.ext W1.out) hv).mono ?_); rw [← HT.out]; rintro e w2 ⟨h, rfl, hrows, hb2⟩; have W2 := Lib.hid (Below.then W1.out hb2); have HRW := Lib.hid hrows.rdW; clear hrows hb2)
          | (go_at_call 55; refine (period_any h _).mono ?_; rintro e w1 ⟨rfl, hb1⟩; obtain ⟨hc1, hf1, hz1, hr1⟩ := bfacts hb1; (try simp only [World.size_alloc, World.size_setCell, World.size_drew, World.size_drewN] at hz1 hr1); (try have hw0 : w.heap.size < w1.heap.size := by omega); (try have hw1 : w.heap.size + 1 < w1.heap.size := by omega); (try have hw2 : w.heap.size + 1 + 1 < w1.heap.size := by omega)))
        have HQ := Lib.hid ((WhC.mk' w2 h 59).ext hb1)
        have hbq : Below w2.heap.size w2 w1 := Below.then (by (repeat' (first | (with_reducible exact Below.refl _ _) | (with_reducible assumption) | (with_reducible refine Below.alloc ?_ ?_ _) | (with_reducible refine Below.drew ?_) | (with_reducible refine Below.draws ?_ _) | (with_reducible refine Below.setCell ?_ ?_ _) | (refine Below.then ?_ (by with_reducible assumption)) | go_size))) hb1
        have W3 := Lib.hid (Below.then W2.out hbq)
        have HRQ := Lib.hid (HRW.out.ext hbq)
        obtain ⟨q, hq⟩ : ∃ q, q = w2.heap.size := ⟨_, rfl⟩
        rw [← hq] at HQ ⊢
        have hn0 : (h 0).n = T.length := HRW.out.len
        have HN0 := Lib.hid hn0
        have hnl : 1 ≤ (h 0).n := by omega
        have hnl4 : (h 0).n ≤ 400 := by omega
        obtain ⟨N, hN⟩ : ∃ N, N = (h 0).n := ⟨_, rfl⟩
        have HNN := Lib.hid hN
        obtain ⟨F, hF⟩ : ∃ F, F = wn T mm v := ⟨_, rfl⟩
        have HF := Lib.hid hF
        clear hc1 hf1 hz1 hr1 hb1 hbq hq HRW W1 W2 hn0 hF HR HM HWD HV hv hm1 hm2
        rw [← hN] at hnl hnl4 ⊢
        clear hN
        obtain ⟨wq, rfl⟩ : ∃ wq, wq = w1 := ⟨_, rfl⟩
        go_loopw [6, 7, 29] (fun u v i wr => ∃ k : Nat, k ≤ N ∧ u = .int .i64 (lstF F k) ∧ v = .int .i64 (mstF F k) ∧ i = .int .i64 k ∧ Below wq.heap.size wq wr) (fun _ _ i _ => N - (intOf i).toNat)
        case atStart => exact ⟨0, Nat.zero_le _, rfl, rfl, rfl, Below.refl _ _⟩
        case round =>
          obtain ⟨k, hk, rfl, rfl, rfl, hB⟩ := hrel
          have HB := Lib.hid hB
          clear hB
          obtain ⟨hcr, hfr, hzr, hrr⟩ := bfacts HB.out
          by_cases hlt : k < N
          · obtain ⟨q0, q1, q2, q3, q4, q5⟩ := HQ.out
            have hqr : q < wr.heap.size := by omega
            have hFk : F k = (cF T mm (k + v) : Int) - (cF T mm k : Int) := by rw [HF.out]; rfl
            have hb1 := cF_add (t := T) (m := mm) k v
            have hb0 := cF_add (t := T) (m := mm) 0 k
            rw [Nat.zero_add] at hb0
            simp only [cF] at hb0
            have HB1 : Hid (∀ w', RdW w' h T → Calls Try.prog 58 #[whV h, .int .i64 mm, .int .i64 ((k : Int) + (v : Int))] w' fun e w'' => e = .returned (.int .i64 (cF T mm (k + v))) ∧ Below w'.heap.size w' w'') := Lib.hid (fun w' hR => before_int h T mm (k + v) _ _ rfl (by simp) hm4 (by omega) w' hR htl htl4)
            have HB2 : Hid (∀ w', RdW w' h T → Calls Try.prog 58 #[whV h, .int .i64 mm, .int .i64 k] w' fun e w'' => e = .returned (.int .i64 (cF T mm k)) ∧ Below w'.heap.size w' w'') := Lib.hid (fun w' hR => before_int h T mm k _ _ rfl rfl hm4 (by omega) w' hR htl htl4)
            have HFK := Lib.hid hFk
            have hlk := fun hk0 : 0 < k => lstF_next F hk0
            have HL1 := Lib.hid hlk
            have HL0 := Lib.hid (fun hk0 : k = 0 => lstF_first F hk0)
            have HM1 := Lib.hid (mstF_next F k)
            clear hFk hlk
            generalize cF T mm (k + v) = A at *
            generalize cF T mm k = B at *
            by_cases hk0 : k = 0
            · have e0 : ((k : Int) == 0) = true := by simp [hk0]
              have HK0 := Lib.hid hk0
              clear hk0
              go_wp2_with (refine wp_region_later_lit (by kernel_rfl) (by kernel_rfl) ?_; (repeat (go_big_quiet_step ((go_at_call 58; first | (with_reducible exact later_of (HB1.out _ (later_rdW HRQ.out HB.out))) | (with_reducible exact later_of (HB2.out _ (later_rdW HRQ.out HB.out))))))); refine wpQuiet_nil ?_; intro w1 hb1; obtain ⟨hc1, hf1, hz1, hr1⟩ := bfacts hb1; (try simp only [World.size_alloc, World.size_setCell, World.size_drew, World.size_drewN] at hz1 hr1); (try have hw0 : w.heap.size < w1.heap.size := by omega); (try have hw1 : w.heap.size + 1 < w1.heap.size := by omega); (try have hw2 : w.heap.size + 1 + 1 < w1.heap.size := by omega))
              go_roundw
              case rel => exact ⟨k + 1, by omega, by rw [HL0.out HK0.out, HFK.out], by rw [HM1.out, HFK.out], by go_num, Below.then HB.out hb1⟩
              case measure => simp [intOf]; omega
            · have e0 : ((k : Int) == 0) = false := by simp [hk0]
              have hk1 : 0 < k := by omega
              go_wp2_with (refine wp_region_later_lit (by kernel_rfl) (by kernel_rfl) ?_; (repeat (go_big_quiet_step ((go_at_call 58; first | (with_reducible exact later_of (HB1.out _ (later_rdW HRQ.out HB.out))) | (with_reducible exact later_of (HB2.out _ (later_rdW HRQ.out HB.out))))))); refine wpQuiet_nil ?_; intro w1 hb1; obtain ⟨hc1, hf1, hz1, hr1⟩ := bfacts hb1; (try simp only [World.size_alloc, World.size_setCell, World.size_drew, World.size_drewN] at hz1 hr1); (try have hw0 : w.heap.size < w1.heap.size := by omega); (try have hw1 : w.heap.size + 1 < w1.heap.size := by omega); (try have hw2 : w.heap.size + 1 + 1 < w1.heap.size := by omega))
              go_roundw
              case rel => exact ⟨k + 1, by omega, by rw [HL1.out hk1, HFK.out], by rw [HM1.out, HFK.out], by go_num, Below.then HB.out hb1⟩
              case measure => simp [intOf]; omega
          · have hkN : k = N := by omega
            have HKN := Lib.hid hkN
            clear hkN
            go_wp2
            go_ret3
            exact ⟨rIII_eq (by rw [HKN.out, HF.out, HNN.out, HN0.out]) (by rw [HKN.out, HF.out, HNN.out, HN0.out]) rfl, Below.then W3.out HB.out⟩
/-- one of two results -/
theorem Least_any (a : Option Addr) (n c : Nat) (l : List P2) (m wd : Int) (w : World) (hR : Rd w a n 2 (l.map enc2)) :
    Calls Try.prog 14 #[.slice a n c, .int .i64 m, .int .i64 wd] w fun e w' => e = rII (winR l m wd).1 (winR l m wd).2.2 ∧ Below w.heap.size w w' := by
  have HC := Lib.hid (windows_any a n c l m wd w hR)
  clear hR
  generalize winR l m wd = R at *
  go_enter Try.func14, Try.ntmps14
  go_wp2_with (go_at_call 41; refine (HC.out).mono ?_; rintro e w1 ⟨rfl, hb1⟩; obtain ⟨hc1, hf1, hz1, hr1⟩ := bfacts hb1; (try simp only [World.size_alloc, World.size_setCell, World.size_drew, World.size_drewN] at hz1 hr1); (try have hw0 : w.heap.size < w1.heap.size := by omega); (try have hw1 : w.heap.size + 1 < w1.heap.size := by omega); (try have hw2 : w.heap.size + 1 + 1 < w1.heap.size := by omega))
  go_ret2
  exact ⟨rII_eq rfl rfl, by (repeat' (first | (with_reducible exact Below.refl _ _) | (with_reducible assumption) | (with_reducible refine Below.alloc ?_ ?_ _) | (with_reducible refine Below.drew ?_) | (with_reducible refine Below.draws ?_ _) | (with_reducible refine Below.setCell ?_ ?_ _) | (refine Below.then ?_ (by with_reducible assumption)) | go_size))⟩
theorem Most_any (a : Option Addr) (n c : Nat) (l : List P2) (m wd : Int) (w : World) (hR : Rd w a n 2 (l.map enc2)) :
    Calls Try.prog 22 #[.slice a n c, .int .i64 m, .int .i64 wd] w fun e w' => e = rII (winR l m wd).2.1 (winR l m wd).2.2 ∧ Below w.heap.size w w' := by
  have HC := Lib.hid (windows_any a n c l m wd w hR)
  clear hR
  generalize winR l m wd = R at *
  go_enter Try.func22, Try.ntmps22
  go_wp2_with (go_at_call 41; refine (HC.out).mono ?_; rintro e w1 ⟨rfl, hb1⟩; obtain ⟨hc1, hf1, hz1, hr1⟩ := bfacts hb1; (try simp only [World.size_alloc, World.size_setCell, World.size_drew, World.size_drewN] at hz1 hr1); (try have hw0 : w.heap.size < w1.heap.size := by omega); (try have hw1 : w.heap.size + 1 < w1.heap.size := by omega); (try have hw2 : w.heap.size + 1 + 1 < w1.heap.size := by omega))
  go_ret2
  exact ⟨rII_eq rfl rfl, by (repeat' (first | (with_reducible exact Below.refl _ _) | (with_reducible assumption) | (with_reducible refine Below.alloc ?_ ?_ _) | (with_reducible refine Below.drew ?_) | (with_reducible refine Below.draws ?_ _) | (with_reducible refine Below.setCell ?_ ?_ _) | (refine Below.then ?_ (by with_reducible assumption)) | go_size))⟩
end Go.Proofs.Ytgldgomjlcojaaa
