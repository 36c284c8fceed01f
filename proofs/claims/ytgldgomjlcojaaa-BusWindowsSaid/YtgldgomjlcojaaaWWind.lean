/- The walk of BusWindows: it returns true. The conditions: the slots read as named. -/
import Derived.Test.YtgldgomjlcojaaaBsRef2
import Derived.Test.YtgldgomjlcojaaaBsDel
namespace Go.Proofs.Ytgldgomjlcojaaa
open Go.RowKit
set_option linter.unusedSimpArgs false
set_option linter.unusedVariables false
theorem win_bad {l : List P2} {m wd : Int} (h : winOk l m wd = false) : winR l m wd = (0, 0, 1) := by unfold winR; rw [h]; rfl
theorem wn_mult (t : List Int) (m : Int) (q x : Nat) : wn t m (q * t.length) x = (q : Int) * (cnt t m : Int) := by
  have h := cF_mul (t := t) (m := m) x q
  unfold wn
  rw [Nat.add_comm x, h]; push_cast; omega
/-- the facts of windows -/
theorem win_facts {l : List P2} {m wd : Int} (h : winOk l m wd = true) : ∃ (v P s q r : Nat) (a c : Int), wd = v ∧ v ≤ 10000 ∧ 0 < P ∧ P ≤ 400 ∧ s ≤ 400 ∧ winR l m wd = (a, c, 0) ∧ perR l = ((P : Int), 0) ∧ shrR l m = ((s : Int), 0) ∧ v / P = q ∧ v % P = r ∧
    a ≤ c ∧ 0 ≤ a ∧ a ≤ v ∧ (r = 0 → a = (q : Int) * (s : Int) ∧ c = a) ∧ (v < 10000 → ∃ b d : Int, winR l m (wd + 1) = (b, d, 0) ∧ a ≤ b ∧ b ≤ a + 1) := by
  have hq2 := h
  unfold winOk at hq2
  simp only [Bool.and_eq_true, inB_iff] at hq2
  obtain ⟨⟨hv, hm⟩, hw⟩ := hq2
  obtain ⟨v, rfl⟩ := Int.eq_ofNat_of_zero_le hw.1
  obtain ⟨hl1, hl2⟩ := tableS_len hv
  have hlen : 0 < (tableS l).length := by omega
  have hcl := cnt_le (tableS l) m
  refine ⟨v, (tableS l).length, cnt (tableS l) m, _, _, lstF (wn (tableS l) m v) (tableS l).length, mstF (wn (tableS l) m v) (tableS l).length, rfl, by omega, hlen, hl2, by omega, ?_, ?_, ?_, rfl, rfl, lst_le_mst hlen, ?_, ?_, ?_, ?_⟩
  · unfold winR; rw [h, if_pos rfl, Int.toNat_natCast]
  · unfold perR; rw [hv]; rfl
  · unfold shrR; rw [hv, inB_iff.2 hm]; rfl
  · obtain ⟨j, _, e⟩ := lstF_mem (f := wn (tableS l) m v) hlen
    rw [e]; exact wn_nonneg v j
  · obtain ⟨j, _, e⟩ := lstF_mem (f := wn (tableS l) m v) hlen
    rw [e]
    have := (cF_add (t := tableS l) (m := m) j v).2
    unfold wn; omega
  · intro hr
    have e : v = v / (tableS l).length * (tableS l).length := by
      have := Nat.div_add_mod v (tableS l).length
      rw [hr, Nat.mul_comm] at this; omega
    have hW : ∀ x, wn (tableS l) m v x = ((v / (tableS l).length : Nat) : Int) * (cnt (tableS l) m : Int) := fun x => by
      have := wn_mult (tableS l) m (v / (tableS l).length) x
      rw [← e] at this; exact this
    obtain ⟨j, _, e1⟩ := lstF_mem (f := wn (tableS l) m v) hlen
    obtain ⟨j2, _, e2⟩ := mstF_mem (f := wn (tableS l) m v) (fun x => wn_nonneg v x) hlen
    rw [e1, e2, hW, hW]
    exact ⟨rfl, rfl⟩
  · intro hv2
    have hs := lst_step (t := tableS l) (m := m) v hlen
    refine ⟨_, mstF (wn (tableS l) m (v + 1)) (tableS l).length, ?_, hs.1, hs.2⟩
    unfold winR winOk
    rw [hv, inB_iff.2 hm, inB_iff.2 ⟨by omega, by omega⟩, show ((v : Int) + 1).toNat = v + 1 by omega]
    rfl
set_option maxRecDepth 100000 in
set_option maxHeartbeats 8000000 in
theorem busWindows_walk {w : World} (a : Option Addr) (n c : Nat) (l : List P2) (hR : Rd w a n 2 (l.map enc2)) (hN : n = 0 → (a = none ∧ c = 0) ∨ ∃ ad, a = some ad) (m : Int) (bm : -9223372036854775808 ≤ m ∧ m ≤ 9223372036854775807) (wd : Int) (bw : -9223372036854775808 ≤ wd ∧ wd ≤ 9223372036854775807) :
    Calls Try.prog 5 #[.slice a n c, .int .i64 m, .int .i64 wd] w fun e w' => e = .returned (.bool true) ∧ Below w.heap.size w w' := by
  have HR := Lib.hid hR
  have hs := hR.small
  clear hR hN bm bw
  by_cases h60 : n ≤ 60
  · have HF := Lib.hid (few_yes (a := a) (b := none) (n := n) (c := c) (k := 0) (d := 0) (w := w) h60 (by omega))
    cases hq : winOk l m wd
    · have HW := Lib.hid (win_bad hq)
      clear hq
      go_enter Try.func5, Try.ntmps5
      go_wp2_with (first
        | (go_at_call 11; refine (HF.out).mono ?_; rintro e w1 ⟨rfl, rfl⟩)
        | (go_at_call 14; (with_reducible refine (Least_val HR.out HW.out).mono ?_); rintro e w1 ⟨rfl, hb1⟩; have W1 := Lib.hid hb1; clear hb1)
        | (go_at_call 21; (with_reducible refine (rLeast_val (HR.out.ext W1.out) HW.out).mono ?_); rintro e w2 ⟨rfl, hb2⟩; have W2 := Lib.hid (Below.then W1.out hb2); clear hb2)
        | (go_at_call 22; (with_reducible refine (Most_val (HR.out.ext W2.out) HW.out).mono ?_); rintro e w3 ⟨rfl, hb3⟩; have W3 := Lib.hid (Below.then W2.out hb3); clear hb3)
        | (go_at_call 23; (with_reducible refine (rMost_val (HR.out.ext W3.out) HW.out).mono ?_); rintro e w4 ⟨rfl, hb4⟩; have W4 := Lib.hid (Below.then W3.out hb4); clear hb4)
        | (go_at_call 13; (with_reducible refine (sane_any _).mono ?_); rintro e w9 ⟨rfl, hb9⟩; have W9 := Lib.hid (Below.then W4.out hb9); clear hb9))
      go_ret
      exact ⟨rfl, W9.out⟩
    · obtain ⟨v, P, s, q, r, x, y, rfl, hv4, hP, hP4, hs4, hW, hPR, hSR, hqe, hre, hxy, hx0, hxv, hmul, hnext⟩ := win_facts hq
      have HW := Lib.hid hW; have HPR := Lib.hid hPR; have HSR := Lib.hid hSR; have HNX := Lib.hid hnext
      have e1 : (v : Int) / (P : Int) = (q : Int) := by rw [Int.div_nat, hqe]
      have e2 : (v : Int) % (P : Int) = (r : Int) := by rw [Int.mod_nat, hre]
      have hqv : q ≤ v := hqe ▸ Nat.div_le_self _ _
      obtain ⟨p, hp⟩ : ∃ p, q * s = p := ⟨_, rfl⟩
      have e3 : (q : Int) * (s : Int) = (p : Int) := by rw [← hp]; simp
      have hp4 : p ≤ 4000000 := by rw [← hp]; have := Nat.mul_le_mul (show q ≤ 10000 by omega) hs4; omega
      rw [e3] at hmul
      have HMU := Lib.hid hmul
      clear hq hW hPR hSR hqe hre hp hmul hnext
      have i1 : (0 : Int) < (P : Int) := by omega
      by_cases hr : r = 0
      · obtain ⟨h1, h2⟩ := HMU.out hr
        have q0 : ((r : Int) == 0) = true := by simp [hr]
        have q1 : (x != (p : Int)) = false := by simp [h1]
        have q2 : (y != x) = false := by simp [h2]
        clear hr h1 h2 HMU
        by_cases hlt : v < 10000
        · obtain ⟨b, d, hW2, hb1, hb2⟩ := HNX.out hlt
          have HW2 := Lib.hid hW2
          clear hW2
          go_enter Try.func5, Try.ntmps5
          go_wp2_with (first
        | (go_at_call 11; refine (HF.out).mono ?_; rintro e w1 ⟨rfl, rfl⟩)
        | (go_at_call 14; (with_reducible refine (Least_val HR.out HW.out).mono ?_); rintro e w1 ⟨rfl, hb1⟩; have W1 := Lib.hid hb1; clear hb1)
        | (go_at_call 21; (with_reducible refine (rLeast_val (HR.out.ext W1.out) HW.out).mono ?_); rintro e w2 ⟨rfl, hb2⟩; have W2 := Lib.hid (Below.then W1.out hb2); clear hb2)
        | (go_at_call 22; (with_reducible refine (Most_val (HR.out.ext W2.out) HW.out).mono ?_); rintro e w3 ⟨rfl, hb3⟩; have W3 := Lib.hid (Below.then W2.out hb3); clear hb3)
        | (go_at_call 23; (with_reducible refine (rMost_val (HR.out.ext W3.out) HW.out).mono ?_); rintro e w4 ⟨rfl, hb4⟩; have W4 := Lib.hid (Below.then W3.out hb4); clear hb4)
        | (go_at_call 24; (with_reducible refine (rPeriod_val (HR.out.ext W4.out) HPR.out).mono ?_); rintro e w5 ⟨rfl, hb5⟩; have W5 := Lib.hid (Below.then W4.out hb5); clear hb5)
        | (go_at_call 25; (with_reducible refine (rShare_val (HR.out.ext W5.out) HSR.out).mono ?_); rintro e w6 ⟨rfl, hb6⟩; have W6 := Lib.hid (Below.then W5.out hb6); clear hb6)
        | (go_at_call 14; (with_reducible refine (Least_val (HR.out.ext W6.out) HW2.out).mono ?_); rintro e w7 ⟨rfl, hb7⟩; have W7 := Lib.hid (Below.then W6.out hb7); clear hb7)
        | (go_at_call 13; (with_reducible refine (sane_any _).mono ?_); rintro e w9 ⟨rfl, hb9⟩; have W9 := Lib.hid (Below.then W7.out hb9); clear hb9))
          go_ret
          exact ⟨rfl, W9.out⟩
        · go_enter Try.func5, Try.ntmps5
          go_wp2_with (first
        | (go_at_call 11; refine (HF.out).mono ?_; rintro e w1 ⟨rfl, rfl⟩)
        | (go_at_call 14; (with_reducible refine (Least_val HR.out HW.out).mono ?_); rintro e w1 ⟨rfl, hb1⟩; have W1 := Lib.hid hb1; clear hb1)
        | (go_at_call 21; (with_reducible refine (rLeast_val (HR.out.ext W1.out) HW.out).mono ?_); rintro e w2 ⟨rfl, hb2⟩; have W2 := Lib.hid (Below.then W1.out hb2); clear hb2)
        | (go_at_call 22; (with_reducible refine (Most_val (HR.out.ext W2.out) HW.out).mono ?_); rintro e w3 ⟨rfl, hb3⟩; have W3 := Lib.hid (Below.then W2.out hb3); clear hb3)
        | (go_at_call 23; (with_reducible refine (rMost_val (HR.out.ext W3.out) HW.out).mono ?_); rintro e w4 ⟨rfl, hb4⟩; have W4 := Lib.hid (Below.then W3.out hb4); clear hb4)
        | (go_at_call 24; (with_reducible refine (rPeriod_val (HR.out.ext W4.out) HPR.out).mono ?_); rintro e w5 ⟨rfl, hb5⟩; have W5 := Lib.hid (Below.then W4.out hb5); clear hb5)
        | (go_at_call 25; (with_reducible refine (rShare_val (HR.out.ext W5.out) HSR.out).mono ?_); rintro e w6 ⟨rfl, hb6⟩; have W6 := Lib.hid (Below.then W5.out hb6); clear hb6)
        | (go_at_call 13; (with_reducible refine (sane_any _).mono ?_); rintro e w9 ⟨rfl, hb9⟩; have W9 := Lib.hid (Below.then W6.out hb9); clear hb9))
          go_ret
          exact ⟨rfl, W9.out⟩
      · have q0 : ((r : Int) == 0) = false := by simp [hr]
        clear hr HMU
        by_cases hlt : v < 10000
        · obtain ⟨b, d, hW2, hb1, hb2⟩ := HNX.out hlt
          have HW2 := Lib.hid hW2
          clear hW2
          go_enter Try.func5, Try.ntmps5
          go_wp2_with (first
        | (go_at_call 11; refine (HF.out).mono ?_; rintro e w1 ⟨rfl, rfl⟩)
        | (go_at_call 14; (with_reducible refine (Least_val HR.out HW.out).mono ?_); rintro e w1 ⟨rfl, hb1⟩; have W1 := Lib.hid hb1; clear hb1)
        | (go_at_call 21; (with_reducible refine (rLeast_val (HR.out.ext W1.out) HW.out).mono ?_); rintro e w2 ⟨rfl, hb2⟩; have W2 := Lib.hid (Below.then W1.out hb2); clear hb2)
        | (go_at_call 22; (with_reducible refine (Most_val (HR.out.ext W2.out) HW.out).mono ?_); rintro e w3 ⟨rfl, hb3⟩; have W3 := Lib.hid (Below.then W2.out hb3); clear hb3)
        | (go_at_call 23; (with_reducible refine (rMost_val (HR.out.ext W3.out) HW.out).mono ?_); rintro e w4 ⟨rfl, hb4⟩; have W4 := Lib.hid (Below.then W3.out hb4); clear hb4)
        | (go_at_call 24; (with_reducible refine (rPeriod_val (HR.out.ext W4.out) HPR.out).mono ?_); rintro e w5 ⟨rfl, hb5⟩; have W5 := Lib.hid (Below.then W4.out hb5); clear hb5)
        | (go_at_call 25; (with_reducible refine (rShare_val (HR.out.ext W5.out) HSR.out).mono ?_); rintro e w6 ⟨rfl, hb6⟩; have W6 := Lib.hid (Below.then W5.out hb6); clear hb6)
        | (go_at_call 14; (with_reducible refine (Least_val (HR.out.ext W6.out) HW2.out).mono ?_); rintro e w7 ⟨rfl, hb7⟩; have W7 := Lib.hid (Below.then W6.out hb7); clear hb7)
        | (go_at_call 13; (with_reducible refine (sane_any _).mono ?_); rintro e w9 ⟨rfl, hb9⟩; have W9 := Lib.hid (Below.then W7.out hb9); clear hb9))
          go_ret
          exact ⟨rfl, W9.out⟩
        · go_enter Try.func5, Try.ntmps5
          go_wp2_with (first
        | (go_at_call 11; refine (HF.out).mono ?_; rintro e w1 ⟨rfl, rfl⟩)
        | (go_at_call 14; (with_reducible refine (Least_val HR.out HW.out).mono ?_); rintro e w1 ⟨rfl, hb1⟩; have W1 := Lib.hid hb1; clear hb1)
        | (go_at_call 21; (with_reducible refine (rLeast_val (HR.out.ext W1.out) HW.out).mono ?_); rintro e w2 ⟨rfl, hb2⟩; have W2 := Lib.hid (Below.then W1.out hb2); clear hb2)
        | (go_at_call 22; (with_reducible refine (Most_val (HR.out.ext W2.out) HW.out).mono ?_); rintro e w3 ⟨rfl, hb3⟩; have W3 := Lib.hid (Below.then W2.out hb3); clear hb3)
        | (go_at_call 23; (with_reducible refine (rMost_val (HR.out.ext W3.out) HW.out).mono ?_); rintro e w4 ⟨rfl, hb4⟩; have W4 := Lib.hid (Below.then W3.out hb4); clear hb4)
        | (go_at_call 24; (with_reducible refine (rPeriod_val (HR.out.ext W4.out) HPR.out).mono ?_); rintro e w5 ⟨rfl, hb5⟩; have W5 := Lib.hid (Below.then W4.out hb5); clear hb5)
        | (go_at_call 25; (with_reducible refine (rShare_val (HR.out.ext W5.out) HSR.out).mono ?_); rintro e w6 ⟨rfl, hb6⟩; have W6 := Lib.hid (Below.then W5.out hb6); clear hb6)
        | (go_at_call 13; (with_reducible refine (sane_any _).mono ?_); rintro e w9 ⟨rfl, hb9⟩; have W9 := Lib.hid (Below.then W6.out hb9); clear hb9))
          go_ret
          exact ⟨rfl, W9.out⟩
  · have HF := Lib.hid (few_no (a := a) (b := none) (n := n) (c := c) (k := 0) (d := 0) (w := w) hs (by omega) (by omega))
    go_enter Try.func5, Try.ntmps5
    go_wp2_with (first | (go_at_call 11; refine (HF.out).mono ?_; rintro e w1 ⟨rfl, rfl⟩) | (go_at_call 13; refine (sane_any _).mono ?_; rintro e w1 ⟨rfl, hb1⟩; obtain ⟨hc1, hf1, hz1, hr1⟩ := bfacts hb1; (try simp only [World.size_alloc, World.size_setCell, World.size_drew, World.size_drewN] at hz1 hr1); (try have hw0 : w.heap.size < w1.heap.size := by omega); (try have hw1 : w.heap.size + 1 < w1.heap.size := by omega); (try have hw2 : w.heap.size + 1 + 1 < w1.heap.size := by omega)))
    go_ret
    exact ⟨rfl, by (repeat' (first | (with_reducible exact Below.refl _ _) | (with_reducible assumption) | (with_reducible refine Below.alloc ?_ ?_ _) | (with_reducible refine Below.drew ?_) | (with_reducible refine Below.draws ?_ _) | (with_reducible refine Below.setCell ?_ ?_ _) | (refine Below.then ?_ (by with_reducible assumption)) | go_size))⟩
end Go.Proofs.Ytgldgomjlcojaaa
