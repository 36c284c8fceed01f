/- Contracts of Period, Owner, Share and Owned of the program, of Owner and Owned of the reference, and of Same at equal lists. The conditions: the slots read as named. -/
import Derived.Test.YtgldgomjlcojaaaBsRef2
import Derived.Laws.StructEq
import Derived.Deep.Cut
namespace Go.Proofs.Ytgldgomjlcojaaa
open Go.RowKit
set_option linter.unusedSimpArgs false
set_option linter.unusedVariables false
theorem wh_field (h : Nat → Hdr) (w : World) : (Instr.field 59 (whV h) 1).run Try.prog w = .ok (.agg #[sl (h 1), sl (h 2), sl (h 3), sl (h 4)]) w := by kernel_rfl
theorem wh_ix0 (h : Nat → Hdr) (w : World) : (Instr.index 57 (.agg #[sl (h 1), sl (h 2), sl (h 3), sl (h 4)]) (.int .i64 0)).run Try.prog w = .ok (sl (h 1)) w := by kernel_rfl
theorem wh_ix1 (h : Nat → Hdr) (w : World) : (Instr.index 57 (.agg #[sl (h 1), sl (h 2), sl (h 3), sl (h 4)]) (.int .i64 1)).run Try.prog w = .ok (sl (h 2)) w := by kernel_rfl
theorem wh_ix2 (h : Nat → Hdr) (w : World) : (Instr.index 57 (.agg #[sl (h 1), sl (h 2), sl (h 3), sl (h 4)]) (.int .i64 2)).run Try.prog w = .ok (sl (h 3)) w := by kernel_rfl
theorem wh_ix3 (h : Nat → Hdr) (w : World) : (Instr.index 57 (.agg #[sl (h 1), sl (h 2), sl (h 3), sl (h 4)]) (.int .i64 3)).run Try.prog w = .ok (sl (h 4)) w := by kernel_rfl
theorem Period_val {a : Option Addr} {n c : Nat} {l : List P2} {w : World} {R : P2} (hR : Rd w a n 2 (l.map enc2)) (h : perR l = R) :
    Calls Try.prog 26 #[.slice a n c] w fun e w' => e = rII R.1 R.2 ∧ Below w.heap.size w w' := by
  have HR := Lib.hid hR
  clear hR
  subst h
  unfold perR
  cases hv : validS l
  · go_enter Try.func26, Try.ntmps26
    go_wp2_with (go_at_call 32; (with_reducible refine (valid_val HR.out hv).mono ?_); rintro e w1 ⟨rfl, hb1⟩; have W1 := Lib.hid hb1; clear hb1)
    go_ret2
    exact ⟨rII_eq rfl rfl, W1.out⟩
  · rw [if_pos rfl]
    go_enter Try.func26, Try.ntmps26
    go_wp2_with (first
      | (go_at_call 32; (with_reducible refine (valid_val HR.out hv).mono ?_); rintro e w1 ⟨rfl, hb1⟩; have W1 := Lib.hid hb1; clear hb1)
      | (go_at_call 45; (with_reducible refine (turning_any _ _ _ l _ (HR.out.ext W1.out) hv).mono ?_); rintro e w2 ⟨h, rfl, hrows, hb2⟩; have W2 := Lib.hid (Below.then W1.out hb2); have HRW := Lib.hid hrows.rdW; clear hrows hb2)
      | (go_at_call 55; (with_reducible refine (period_any h _).mono ?_); rintro e w3 ⟨rfl, hb3⟩; have W3 := Lib.hid (Below.then W2.out hb3); clear hb3))
    go_ret2
    exact ⟨rII_eq (by rw [HRW.out.len]) rfl, W3.out⟩
theorem Share_val {a : Option Addr} {n c : Nat} {l : List P2} {m : Int} {w : World} {R : P2} (hR : Rd w a n 2 (l.map enc2)) (h : shrR l m = R) :
    Calls Try.prog 29 #[.slice a n c, .int .i64 m] w fun e w' => e = rII R.1 R.2 ∧ Below w.heap.size w w' := by
  have HR := Lib.hid hR
  clear hR
  subst h
  unfold shrR
  cases hv : validS l
  · go_enter Try.func29, Try.ntmps29
    go_wp2_with (go_at_call 32; (with_reducible refine (valid_val HR.out hv).mono ?_); rintro e w1 ⟨rfl, hb1⟩; have W1 := Lib.hid hb1; clear hb1)
    go_ret2
    exact ⟨rII_eq rfl rfl, W1.out⟩
  · cases hm : inB m 0 3
    · go_enter Try.func29, Try.ntmps29
      go_wp2_with (first | (go_at_call 32; (with_reducible refine (valid_val HR.out hv).mono ?_); rintro e w1 ⟨rfl, hb1⟩; have W1 := Lib.hid hb1; clear hb1) | (go_at_call 57; refine (isMaster_val hm).mono ?_; rintro e w1 ⟨rfl, rfl⟩))
      go_ret2
      exact ⟨rII_eq rfl rfl, W1.out⟩
    · obtain ⟨hm1, hm2⟩ := inB_iff.1 hm
      have HM := Lib.hid hm
      rw [show (true && true) = true from rfl, if_pos rfl]
      have hm' : m = 0 ∨ m = 1 ∨ m = 2 ∨ m = 3 := by omega
      clear hm hm1 hm2
      rcases hm' with rfl | rfl | rfl | rfl
      all_goals
        have f0 := wh_field
        have f1 := wh_ix0
        have f2 := wh_ix1
        have f3 := wh_ix2
        have f4 := wh_ix3
        go_enter Try.func29, Try.ntmps29
        go_wp2_with (first | (go_at_call 32; (with_reducible refine (valid_val HR.out hv).mono ?_); rintro e w1 ⟨rfl, hb1⟩; have W1 := Lib.hid hb1; clear hb1) | (go_at_call 57; refine (isMaster_val HM.out).mono ?_; rintro e w1 ⟨rfl, rfl⟩) | (go_at_call 45; (with_reducible refine (turning_any _ _ _ l _ (HR.out.ext W1.out) hv).mono ?_); rintro e w2 ⟨h, rfl, hrows, hb2⟩; have W2 := Lib.hid (Below.then W1.out hb2); have HRW := Lib.hid hrows.rdW; clear hrows hb2))
        go_ret2
        exact ⟨rII_eq (by first | exact congrArg _ (HRW.out.cnt (m := 0) (by omega)) | exact congrArg _ (HRW.out.cnt (m := 1) (by omega)) | exact congrArg _ (HRW.out.cnt (m := 2) (by omega)) | exact congrArg _ (HRW.out.cnt (m := 3) (by omega))) rfl, W2.out⟩
def ownR (l : List P2) (t : Int) : P2 := if validS l && inB t 0 1000000 then (((tableS l)[t.toNat % (tableS l).length]?).getD 0, 0) else (0, 1)
def owdR (l : List P2) (m f t : Int) : P2 := if validS l && inB m 0 3 && inB f 0 1000000 && inB t 0 1000000 && decide (f ≤ t) then ((cF (tableS l) m t.toNat : Int) - cF (tableS l) m f.toNat, 0) else (0, 1)
set_option maxRecDepth 10000 in
set_option maxHeartbeats 2000000 in
theorem Owner_val {a : Option Addr} {n c : Nat} {l : List P2} {t : Int} {w : World} {R : P2} (hR : Rd w a n 2 (l.map enc2)) (h : ownR l t = R) :
    Calls Try.prog 27 #[.slice a n c, .int .i64 t] w fun e w' => e = rII R.1 R.2 ∧ Below w.heap.size w w' := by
  have HR := Lib.hid hR
  clear hR
  subst h
  unfold ownR
  cases hv : validS l
  · go_enter Try.func27, Try.ntmps27
    go_wp2_with (go_at_call 32; (with_reducible refine (valid_val HR.out hv).mono ?_); rintro e w1 ⟨rfl, hb1⟩; have W1 := Lib.hid hb1; clear hb1)
    go_ret2
    exact ⟨rII_eq rfl rfl, W1.out⟩
  · cases hm : inB t 0 1000000
    · go_enter Try.func27, Try.ntmps27
      go_wp2_with (first | (go_at_call 32; (with_reducible refine (valid_val HR.out hv).mono ?_); rintro e w1 ⟨rfl, hb1⟩; have W1 := Lib.hid hb1; clear hb1) | (go_at_call 56; refine (within_val hm).mono ?_; rintro e w1 ⟨rfl, rfl⟩))
      go_ret2
      exact ⟨rII_eq rfl rfl, W1.out⟩
    · obtain ⟨ht1, ht2⟩ := inB_iff.1 hm
      obtain ⟨v, rfl⟩ := Int.eq_ofNat_of_zero_le ht1
      have HM := Lib.hid hm
      obtain ⟨htl, htl4⟩ := tableS_len hv
      rw [show (true && true) = true from rfl, if_pos rfl, Int.toNat_natCast]
      obtain ⟨r, hr⟩ : ∃ r, v % (tableS l).length = r := ⟨_, rfl⟩
      have hrl : r < (tableS l).length := hr ▸ Nat.mod_lt _ (by omega)
      have hrm : (v : Int) % ((tableS l).length : Int) = (r : Int) := by rw [Int.mod_nat, hr]
      have HRM := Lib.hid hrm
      rw [hr]
      obtain ⟨x, hx⟩ : ∃ x, (tableS l)[r]? = some x := ⟨_, List.getElem?_eq_getElem hrl⟩
      have HX := Lib.hid hx
      rw [hx]
      simp only [Option.getD_some]
      clear hm hr hrm hx
      go_enter Try.func27, Try.ntmps27
      go_upto_region 4 with (first | (go_at_call 32; (with_reducible refine (valid_val HR.out hv).mono ?_); rintro e w1 ⟨rfl, hb1⟩; have W1 := Lib.hid hb1; clear hb1) | (go_at_call 56; refine (within_val HM.out).mono ?_; rintro e w1 ⟨rfl, rfl⟩) | (go_at_call 45; (with_reducible refine (turning_any _ _ _ l _ (HR.out.ext W1.out) hv).mono ?_); rintro e w2 ⟨h, rfl, hrows, hb2⟩; have W2 := Lib.hid (Below.then W1.out hb2); have HRW := Lib.hid hrows.rdW; clear hrows hb2))
      have hn0 := HRW.out.len
      obtain ⟨x', b, off, hax, hb, hcx, hx'⟩ := (HRW.out.row 0 (by omega)).idx r (by rw [hn0]; exact hrl)
      obtain rfl : x' = x := by have h1 : (tableS l)[r]? = some x' := hx'; rw [HX.out] at h1; simpa using h1.symm
      have e2 : (v : Int) % ((h 0).n : Int) = (r : Int) := by rw [hn0]; exact HRM.out
      have hrn : r < (h 0).n := by omega
      have i1 : (0 : Int) < ((h 0).n : Int) := by omega
      clear hx' hn0
      simp only [whV, sl, hax]
      clear hax
      have hb4 : b < w2.heap.size + 1 := by omega
      go_wp2_with (refine wp_region_later_lit (by kernel_rfl) (by kernel_rfl) ?_; (repeat (go_big_quiet_step ((go_at_call 55; exact later_of (period5 _ _ _ _ _ _ _ _ _ _ _ _ _ _ _ _))))); refine wpQuiet_nil ?_; intro w1 hb1; obtain ⟨hc1, hf1, hz1, hr1⟩ := bfacts hb1; (try simp only [World.size_alloc, World.size_setCell, World.size_drew, World.size_drewN] at hz1 hr1); (try have hw0 : w.heap.size < w1.heap.size := by omega); (try have hw1 : w.heap.size + 1 < w1.heap.size := by omega); (try have hw2 : w.heap.size + 1 + 1 < w1.heap.size := by omega))
      go_ret2
      exact ⟨rII_eq rfl rfl, Below.then W2.out (Below.then (by (repeat' (first | (with_reducible exact Below.refl _ _) | (with_reducible assumption) | (with_reducible refine Below.alloc ?_ ?_ _) | (with_reducible refine Below.drew ?_) | (with_reducible refine Below.draws ?_ _) | (with_reducible refine Below.setCell ?_ ?_ _) | (refine Below.then ?_ (by with_reducible assumption)) | go_size))) hb1)⟩
theorem askB_own (l : List P2) (t : Int) : askB l 0 t 0 1000000 = (validS l && inB t 0 1000000) := by unfold askB; rw [show inB 0 0 3 = true by decide, Bool.and_true]
theorem rOwner_val {a : Option Addr} {n c : Nat} {l : List P2} {t : Int} {w : World} {R : P2} (hR : Rd w a n 2 (l.map enc2)) (h : ownR l t = R) :
    Calls Try.prog 28 #[.slice a n c, .int .i64 t] w fun e w' => e = rII R.1 R.2 ∧ Below w.heap.size w w' := by
  have HR := Lib.hid hR
  clear hR
  subst h
  unfold ownR
  cases hq : (validS l && inB t 0 1000000)
  · rw [← askB_own] at hq
    go_enter Try.func28, Try.ntmps28
    go_wp2_with (go_at_call 53; (with_reducible refine (asks_val HR.out hq).mono ?_); rintro e w1 ⟨rfl, rfl⟩)
    go_ret2
    exact ⟨rII_eq rfl rfl, Below.refl _ _⟩
  · obtain ⟨hv, hm⟩ := Bool.and_eq_true_iff.1 hq
    obtain ⟨ht1, ht2⟩ := inB_iff.1 hm
    obtain ⟨v, rfl⟩ := Int.eq_ofNat_of_zero_le ht1
    obtain ⟨htl, htl4⟩ := tableS_len hv
    have HV := Lib.hid hv
    rw [if_pos rfl, Int.toNat_natCast]
    obtain ⟨r, hr⟩ : ∃ r, v % (tableS l).length = r := ⟨_, rfl⟩
    have hrl : r < (tableS l).length := hr ▸ Nat.mod_lt _ (by omega)
    have HRM : Hid ((v : Int) % ((tableS l).length : Int) = (r : Int)) := Lib.hid (by rw [Int.mod_nat, hr])
    rw [hr]
    obtain ⟨x, hx⟩ : ∃ x, (tableS l)[r]? = some x := ⟨_, List.getElem?_eq_getElem hrl⟩
    have HX := Lib.hid hx
    rw [hx]
    simp only [Option.getD_some]
    rw [← askB_own] at hq
    clear hm hr hx hv
    go_enter Try.func28, Try.ntmps28
    go_upto_region 5 with (first
      | (go_at_call 53; (with_reducible refine (asks_val HR.out hq).mono ?_); rintro e w1 ⟨rfl, rfl⟩)
      | (go_at_call 48; (with_reducible refine (table_any _ _ _ _ _ HR.out HV.out).mono ?_); rintro e w2 ⟨a2, n2, c2, rfl, ho, hb2⟩; have HTB := Lib.hid (ownsI_rd ho); have W2 := Lib.hid hb2; clear ho hb2))
    have hn0 := HTB.out.length
    obtain ⟨x', b, off, rfl, hb, hcx, hx'⟩ := HTB.out.idx r (by omega)
    obtain rfl : x' = x := by rw [HX.out] at hx'; simpa using hx'.symm
    have e2 : (v : Int) % (n2 : Int) = (r : Int) := by rw [← hn0]; exact HRM.out
    have hrn : r < n2 := by omega
    have i1 : (0 : Int) < (n2 : Int) := by omega
    clear hx' hn0
    go_wp2
    go_ret2
    exact ⟨rII_eq rfl rfl, W2.out⟩
def owdOk (l : List P2) (m f t : Int) : Bool := validS l && inB m 0 3 && inB f 0 1000000 && inB t 0 1000000 && decide (f ≤ t)
theorem owdOk_iff {l : List P2} {m f t : Int} : owdOk l m f t = true ↔ validS l = true ∧ (0 ≤ m ∧ m ≤ 3) ∧ (0 ≤ f ∧ f ≤ 1000000) ∧ (0 ≤ t ∧ t ≤ 1000000) ∧ f ≤ t := by
  unfold owdOk; simp only [Bool.and_eq_true, inB_iff, decide_eq_true_eq, and_assoc]
theorem owdR_eq (l : List P2) (m f t : Int) : owdR l m f t = if owdOk l m f t = true then ((cF (tableS l) m t.toNat : Int) - cF (tableS l) m f.toNat, 0) else (0, 1) := rfl
set_option maxRecDepth 10000 in
set_option maxHeartbeats 2000000 in
theorem Owned_val {a : Option Addr} {n c : Nat} {l : List P2} {m f t : Int} {w : World} {R : P2} (hR : Rd w a n 2 (l.map enc2)) (h : owdR l m f t = R) :
    Calls Try.prog 30 #[.slice a n c, .int .i64 m, .int .i64 f, .int .i64 t] w fun e w' => e = rII R.1 R.2 ∧ Below w.heap.size w w' := by
  have HR := Lib.hid hR
  clear hR
  subst h
  cases hq : owdOk l m f t
  · rw [owdR_eq, hq, if_neg (by simp)]
    cases hv : validS l
    · go_enter Try.func30, Try.ntmps30
      go_wp2_with (go_at_call 32; (with_reducible refine (valid_val HR.out hv).mono ?_); rintro e w1 ⟨rfl, hb1⟩; have W1 := Lib.hid hb1; clear hb1)
      go_ret2
      exact ⟨rII_eq rfl rfl, W1.out⟩
    · cases hm : inB m 0 3
      · go_enter Try.func30, Try.ntmps30
        go_wp2_with (first | (go_at_call 32; (with_reducible refine (valid_val HR.out hv).mono ?_); rintro e w1 ⟨rfl, hb1⟩; have W1 := Lib.hid hb1; clear hb1) | (go_at_call 57; refine (isMaster_val hm).mono ?_; rintro e w1 ⟨rfl, rfl⟩))
        go_ret2
        exact ⟨rII_eq rfl rfl, W1.out⟩
      · cases hf : inB f 0 1000000
        · go_enter Try.func30, Try.ntmps30
          go_wp2_with (first | (go_at_call 32; (with_reducible refine (valid_val HR.out hv).mono ?_); rintro e w1 ⟨rfl, hb1⟩; have W1 := Lib.hid hb1; clear hb1) | (go_at_call 57; refine (isMaster_val hm).mono ?_; rintro e w1 ⟨rfl, rfl⟩) | (go_at_call 56; refine (within_val hf).mono ?_; rintro e w1 ⟨rfl, rfl⟩))
          go_ret2
          exact ⟨rII_eq rfl rfl, W1.out⟩
        · cases ht : inB t 0 1000000
          · go_enter Try.func30, Try.ntmps30
            go_wp2_with (first
              | (go_at_call 32; (with_reducible refine (valid_val HR.out hv).mono ?_); rintro e w1 ⟨rfl, hb1⟩; have W1 := Lib.hid hb1; clear hb1)
              | (go_at_call 57; refine (isMaster_val hm).mono ?_; rintro e w1 ⟨rfl, rfl⟩)
              | (go_at_call 56; (with_reducible refine (within_val hf).mono ?_); rintro e w2 ⟨rfl, rfl⟩)
              | (go_at_call 56; (with_reducible refine (within_val ht).mono ?_); rintro e w2 ⟨rfl, rfl⟩))
            go_ret2
            exact ⟨rII_eq rfl rfl, W1.out⟩
          · have hft : decide (f ≤ t) = false := by unfold owdOk at hq; rw [hv, hm, hf, ht] at hq; exact hq
            have hft2 : t < f := by simpa using hft
            have HT := Lib.hid ht; have HF := Lib.hid hf; have HM := Lib.hid hm
            clear hq hft ht hf hm
            go_enter Try.func30, Try.ntmps30
            go_wp2_with (first
              | (go_at_call 32; (with_reducible refine (valid_val HR.out hv).mono ?_); rintro e w1 ⟨rfl, hb1⟩; have W1 := Lib.hid hb1; clear hb1)
              | (go_at_call 57; refine (isMaster_val HM.out).mono ?_; rintro e w1 ⟨rfl, rfl⟩)
              | (go_at_call 56; (with_reducible refine (within_val HF.out).mono ?_); rintro e w2 ⟨rfl, rfl⟩)
              | (go_at_call 56; (with_reducible refine (within_val HT.out).mono ?_); rintro e w2 ⟨rfl, rfl⟩))
            go_ret2
            exact ⟨rII_eq rfl rfl, W1.out⟩
  · obtain ⟨hv, hm, hf, ht, hft⟩ := owdOk_iff.1 hq
    rw [owdR_eq, hq, if_pos rfl]
    obtain ⟨mm, rfl⟩ := Int.eq_ofNat_of_zero_le hm.1
    obtain ⟨ff, rfl⟩ := Int.eq_ofNat_of_zero_le hf.1
    obtain ⟨tt, rfl⟩ := Int.eq_ofNat_of_zero_le ht.1
    have hm4 : mm < 4 := by omega
    have HT := Lib.hid (inB_iff.2 ht); have HF := Lib.hid (inB_iff.2 hf); have HM := Lib.hid (inB_iff.2 hm)
    obtain ⟨htl, htl4⟩ := tableS_len hv
    simp only [Int.toNat_natCast]
    have hb1 := cF_add (t := tableS l) (m := mm) 0 tt
    have hb2 := cF_add (t := tableS l) (m := mm) 0 ff
    rw [Nat.zero_add] at hb1 hb2
    simp only [cF] at hb1 hb2
    clear hq hm
    go_enter Try.func30, Try.ntmps30
    go_upto_region 4 with (first
      | (go_at_call 32; (with_reducible refine (valid_val HR.out hv).mono ?_); rintro e w1 ⟨rfl, hb1⟩; have W1 := Lib.hid hb1; clear hb1)
      | (go_at_call 57; refine (isMaster_val HM.out).mono ?_; rintro e w1 ⟨rfl, rfl⟩)
      | (go_at_call 56; (with_reducible refine (within_val HF.out).mono ?_); rintro e w2 ⟨rfl, rfl⟩)
      | (go_at_call 56; (with_reducible refine (within_val HT.out).mono ?_); rintro e w2 ⟨rfl, rfl⟩)
      | (go_at_call 45; (with_reducible refine (turning_any _ _ _ l _ (HR.out.ext W1.out) hv).mono ?_); rintro e w2 ⟨h, rfl, hrows, hb2⟩; have W2 := Lib.hid (Below.then W1.out hb2); have HRW := Lib.hid hrows.rdW; clear hrows hb2))
    have HB1 : Hid (∀ w', RdW w' h (tableS l) → Calls Try.prog 58 #[whV h, .int .i64 mm, .int .i64 tt] w' fun e w'' => e = .returned (.int .i64 (cF (tableS l) mm tt)) ∧ Below w'.heap.size w' w'') := Lib.hid (fun w' hR => before_int h (tableS l) mm tt _ _ rfl rfl hm4 (by omega) w' hR htl htl4)
    have HB2 : Hid (∀ w', RdW w' h (tableS l) → Calls Try.prog 58 #[whV h, .int .i64 mm, .int .i64 ff] w' fun e w'' => e = .returned (.int .i64 (cF (tableS l) mm ff)) ∧ Below w'.heap.size w' w'') := Lib.hid (fun w' hR => before_int h (tableS l) mm ff _ _ rfl rfl hm4 (by omega) w' hR htl htl4)
    obtain ⟨A, hA⟩ : ∃ A, A = cF (tableS l) mm tt := ⟨_, rfl⟩
    obtain ⟨B, hB⟩ : ∃ B, B = cF (tableS l) mm ff := ⟨_, rfl⟩
    rw [← hA] at HB1 hb1
    rw [← hB] at HB2 hb2
    have HA := Lib.hid hA; have HB := Lib.hid hB
    clear hA hB
    go_wp2_with (refine wp_region_later_lit (by kernel_rfl) (by kernel_rfl) ?_; (repeat (go_big_quiet_step ((go_at_call 58; first | (with_reducible exact later_of (HB1.out _ (later_rdW HRW.out (by (repeat' (first | (with_reducible exact Below.refl _ _) | (with_reducible assumption) | (with_reducible refine Below.alloc ?_ ?_ _) | (with_reducible refine Below.drew ?_) | (with_reducible refine Below.draws ?_ _) | (with_reducible refine Below.setCell ?_ ?_ _) | (refine Below.then ?_ (by with_reducible assumption)) | go_size)))))) | (with_reducible exact later_of (HB2.out _ (later_rdW HRW.out (by (repeat' (first | (with_reducible exact Below.refl _ _) | (with_reducible assumption) | (with_reducible refine Below.alloc ?_ ?_ _) | (with_reducible refine Below.drew ?_) | (with_reducible refine Below.draws ?_ _) | (with_reducible refine Below.setCell ?_ ?_ _) | (refine Below.then ?_ (by with_reducible assumption)) | go_size)))))))))); refine wpQuiet_nil ?_; intro w1 hb1; obtain ⟨hc1, hf1, hz1, hr1⟩ := bfacts hb1; (try simp only [World.size_alloc, World.size_setCell, World.size_drew, World.size_drewN] at hz1 hr1); (try have hw0 : w.heap.size < w1.heap.size := by omega); (try have hw1 : w.heap.size + 1 < w1.heap.size := by omega); (try have hw2 : w.heap.size + 1 + 1 < w1.heap.size := by omega))
    go_ret2
    exact ⟨rII_eq (by rw [HA.out, HB.out]) rfl, Below.then W2.out (Below.then (Below.alloc (Below.refl _ _) (Nat.le_refl _) _) hb1)⟩
set_option maxHeartbeats 2000000 in
theorem rOwned_val {a : Option Addr} {n c : Nat} {l : List P2} {m f t : Int} {w : World} {R : P2} (hR : Rd w a n 2 (l.map enc2)) (h : owdR l m f t = R) :
    Calls Try.prog 31 #[.slice a n c, .int .i64 m, .int .i64 f, .int .i64 t] w fun e w' => e = rII R.1 R.2 ∧ Below w.heap.size w w' := by
  have HR := Lib.hid hR
  clear hR
  subst h
  cases hq : owdOk l m f t
  · rw [owdR_eq, hq, if_neg (by simp)]
    cases ha : askB l m f 0 1000000
    · go_enter Try.func31, Try.ntmps31
      go_wp2_with (go_at_call 53; (with_reducible refine (asks_val HR.out ha).mono ?_); rintro e w1 ⟨rfl, rfl⟩)
      go_ret2
      exact ⟨rII_eq rfl rfl, Below.refl _ _⟩
    · have ha2 := ha
      unfold askB at ha2
      simp only [Bool.and_eq_true, inB_iff] at ha2
      have hb : ¬ (f ≤ t ∧ t ≤ 1000000) := fun hb => by
        have := owdOk_iff.2 ⟨ha2.1.1, ha2.1.2, ha2.2, ⟨by omega, hb.2⟩, hb.1⟩
        rw [this] at hq; exact absurd hq (by simp)
      clear hq ha2
      by_cases hlt : t < f
      · go_enter Try.func31, Try.ntmps31
        go_wp2_with (go_at_call 53; (with_reducible refine (asks_val HR.out ha).mono ?_); rintro e w1 ⟨rfl, rfl⟩)
        go_ret2
        exact ⟨rII_eq rfl rfl, Below.refl _ _⟩
      · have hgt : 1000000 < t := by omega
        clear hb
        go_enter Try.func31, Try.ntmps31
        go_wp2_with (go_at_call 53; (with_reducible refine (asks_val HR.out ha).mono ?_); rintro e w1 ⟨rfl, rfl⟩)
        go_ret2
        exact ⟨rII_eq rfl rfl, Below.refl _ _⟩
  · obtain ⟨hv, hm, hf, ht, hft⟩ := owdOk_iff.1 hq
    rw [owdR_eq, hq, if_pos rfl]
    have ha : askB l m f 0 1000000 = true := by unfold askB; rw [hv, inB_iff.2 hm, inB_iff.2 hf]; rfl
    obtain ⟨ff, rfl⟩ := Int.eq_ofNat_of_zero_le hf.1
    obtain ⟨tt, rfl⟩ := Int.eq_ofNat_of_zero_le ht.1
    obtain ⟨htl, htl4⟩ := tableS_len hv
    have HV := Lib.hid hv
    simp only [Int.toNat_natCast]
    have HW : Hid (wn (tableS l) m (tt - ff) ff = (cF (tableS l) m tt : Int) - cF (tableS l) m ff) := Lib.hid (by unfold wn; rw [show ff + (tt - ff) = tt by omega])
    clear hq hm hv
    go_enter Try.func31, Try.ntmps31
    go_wp2_with (first
      | (go_at_call 53; (with_reducible refine (asks_val HR.out ha).mono ?_); rintro e w1 ⟨rfl, rfl⟩)
      | (go_at_call 48; (with_reducible refine (table_any _ _ _ _ _ HR.out HV.out).mono ?_); rintro e w2 ⟨a2, n2, c2, rfl, ho, hb2⟩; have HTB := Lib.hid (ownsI_rd ho); have W2 := Lib.hid hb2; clear ho hb2)
      | (go_at_call 59; refine (owned_int (fr := ff) (tk := tt - ff) _ _ _ (by rfl) (by rfl) (by omega) (by omega) (by omega) htl htl4 HTB.out).mono ?_; rw [HW.out]; rintro e w1 ⟨rfl, hb1⟩))
    go_ret2
    exact ⟨rII_eq rfl rfl, Below.then W2.out hb1⟩
theorem eqS (a b x y : Int) (w : World) : (Op.equalIn 10000 27 (.agg #[.int .i64 a, .int .i64 b]) (.agg #[.int .i64 x, .int .i64 y])).run Try.prog w = .ok (a == x && b == y) w := by
  have hS : Try.prog.underlying 27 = some (.struct (Try.prog.fieldsOf 27)) := by kernel_rfl
  have hp : Try.prog.stoodInHeld 27 = false := by kernel_rfl
  have u3 := Try.underlying3
  have a3 := Try.isAgg3
  have z3 := Try.sizeOf3
  rw [show (10000 : Nat) = 9999 + 1 from rfl, run_equalIn_agg w 9999 27 _ _ hS hp]
  simp only [Program.fieldsOf, Try.underlying27]
  go_simp
  by_cases e1 : a = x <;> by_cases e2 : b = y <;> simp [e1, e2]
theorem sameS_eq (a b : Option Addr) (n m c d : Nat) (xs : List P2) (w : World) (hA : Rd w a n 2 (xs.map enc2)) (hB : Rd w b m 2 (xs.map enc2)) :
    Calls Try.prog 33 #[.slice a n c, .slice b m d] w fun e w' => e = .returned (.bool true) ∧ Below w.heap.size w w' := by
  obtain rfl : m = n := by rw [← hA.length, ← hB.length]
  have hs := hA.small
  have HA := Lib.hid hA; have HB := Lib.hid hB
  clear hA hB
  have hEq := eqS
  have hGd := fun (op : BinOp) (x y : Operand) (xs ys : Array Value) (w : World) => run_eqGuard_agg (P := Try.prog) w op 27 x y xs ys (by kernel_rfl)
  go_enter Try.func33, Try.ntmps33
  go_wp2
  go_loopw [5] (fun i wr => ∃ k : Nat, k ≤ m ∧ i = .int .i64 k ∧ Below w.heap.size w wr) (fun i _ => m - (intOf i).toNat)
  case atStart => exact ⟨0, Nat.zero_le _, rfl, by (repeat' (first | (with_reducible exact Below.refl _ _) | (with_reducible assumption) | (with_reducible refine Below.alloc ?_ ?_ _) | (with_reducible refine Below.drew ?_) | (with_reducible refine Below.draws ?_ _) | (with_reducible refine Below.setCell ?_ ?_ _) | (refine Below.then ?_ (by with_reducible assumption)) | go_size))⟩
  case round =>
    obtain ⟨k, hk, rfl, hb⟩ := hrel
    have HW := Lib.hid hb
    clear hb
    by_cases hlt : k < m
    · obtain ⟨⟨x, x'⟩, b1, o1, rfl, hb1, hx, hx', HD⟩ := (HA.out.ext HW.out).next2 k hlt
      obtain ⟨⟨y, y'⟩, b2, o2, rfl, hb2, hy, hy', HD2⟩ := (HB.out.ext HW.out).next2 k hlt
      obtain ⟨rfl, rfl⟩ : x = y ∧ x' = y' := by have h1 := HD.out; rw [HD2.out] at h1; simp at h1; exact ⟨h1.1.symm, h1.2.symm⟩
      simp only [] at hx hx' hy hy'
      clear HD HD2
      go_wp2_with (refine wp_region_later_lit (by kernel_rfl) (by kernel_rfl) ?_; (repeat (go_big_quiet_step (fail))); refine wpQuiet_nil ?_; intro w1 hb1; obtain ⟨hc1, hf1, hz1, hr1⟩ := bfacts hb1; (try simp only [World.size_alloc, World.size_setCell, World.size_drew, World.size_drewN] at hz1 hr1); (try have hw0 : w.heap.size < w1.heap.size := by omega); (try have hw1 : w.heap.size + 1 < w1.heap.size := by omega); (try have hw2 : w.heap.size + 1 + 1 < w1.heap.size := by omega))
      go_roundw
      case rel => exact ⟨k + 1, by omega, by go_num, Below.then HW.out hb1⟩
      case measure => simp [intOf]; omega
    · go_wp2
      go_ret
      exact ⟨rfl, HW.out⟩
end Go.Proofs.Ytgldgomjlcojaaa
