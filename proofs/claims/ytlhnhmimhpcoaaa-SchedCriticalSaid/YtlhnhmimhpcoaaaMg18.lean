/- The contract of Critical of the reference. The conditions: the tasks read as named. -/
import Derived.Test.YtlhnhmimhpcoaaaMg16
import Derived.Test.YtlhnhmimhpcoaaaMg12
import Derived.BigRegion
import Derived.Deep.Cut
import Derived.Deep.RegionHeld3
namespace Go.Proofs.Ytlhnhmimhpcoaaa
open Go.RowKit
set_option linter.unusedSimpArgs false
set_option linter.unusedVariables false
set_option maxRecDepth 100000 in
set_option maxHeartbeats 40000000 in
theorem rCritical_any (a : Option Addr) (n c : Nat) (L : List Ta) (F S task : Int) (w : World) (hL : RdL w a n L) (hN : NilOk a n c) (hn : n ≤ 100) :
    Calls Try.prog 33 #[.slice a n c, .agg #[.int .i64 F, .int .i64 S], .int .i64 task] w (OutCr w (critR L F S task).1 (critR L F S task).2) := by
  have HL := Lib.hid hL; have HN := Lib.hid hN
  have hln := hL.length
  have wl : IntKind.i64.wrap ((n : Int) - 1) = (n : Int) - 1 := IntWalk.i64_in _ (by omega)
  unfold critR critC
  obtain ⟨V, hV⟩ : ∃ V, validL L = V := ⟨_, rfl⟩
  obtain ⟨SV, hSV⟩ : ∃ V, supB F S = V := ⟨_, rfl⟩
  obtain ⟨IN, hIN⟩ : ∃ V, inB task 0 ((L.length : Int) - 1) = V := ⟨_, rfl⟩
  have HV := Lib.hid hV; have HSV := Lib.hid hSV
  have HIN : Hid (inB task 0 ((n : Int) - 1) = IN) := Lib.hid (by rw [← hln]; exact hIN)
  rw [hV, hSV, hIN]
  cases V
  · rw [if_neg (by simp)]
    clear hL hN hV hSV hIN
    go_enter Try.func33, Try.ntmps33
    go_upto_region 2 with (go_at_call 50; (with_reducible refine (rValid_is (HL.out.ext (by (repeat' (first | (with_reducible exact Below.refl _ _) | (with_reducible assumption) | (with_reducible refine Below.alloc ?_ ?_ _) | (with_reducible refine Below.drew ?_) | (with_reducible refine Below.draws ?_ _) | (with_reducible refine Below.setCell ?_ ?_ _) | (refine Below.then ?_ (by with_reducible assumption)) | go_size)))) HV.out).mono ?_); rintro e w1 ⟨rfl, hb1⟩; have HS1 : Hid (Sup2 w1 w.heap.size F S) := Lib.hid (Sup2.ext ⟨by simp, by simp, by simp; omega⟩ hb1); have HR1 : Hid (Blk w1 (w.heap.size + 1) #[.slice none 0 0, .int .i64 0, .int .i64 0, .slice none 0 0, .slice none 0 0, .slice none 0 0]) := Lib.hid (Blk.extC (Blk.at _ _ _ _ (by simp)) hb1); have B1 : Hid (Below w.heap.size w w1) := Lib.hid (Below.trans (by (repeat' (first | (with_reducible exact Below.refl _ _) | (with_reducible assumption) | (with_reducible refine Below.alloc ?_ ?_ _) | (with_reducible refine Below.drew ?_) | (with_reducible refine Below.draws ?_ _) | (with_reducible refine Below.setCell ?_ ?_ _) | (refine Below.then ?_ (by with_reducible assumption)) | go_size))) (hb1.mono (by simp; omega))); obtain ⟨s0, s1, sz⟩ := HS1.out; have rz := HR1.out.l; clear hb1)
    have HRX := HR1; have BX := B1
    have x0 := HRX.out.c 0; have x1 := HRX.out.c 1; have x2 := HRX.out.c 2; have x3 := HRX.out.c 3; have x4 := HRX.out.c 4; have x5 := HRX.out.c 5; simp at x0 x1 x2 x3 x4 x5; have f0 := HRX.out.f 0; have f1 := HRX.out.f 1; have f2 := HRX.out.f 2; have f3 := HRX.out.f 3; have f4 := HRX.out.f 4; have f5 := HRX.out.f 5
    go_wp2
    (refine bodyPost_ret (v := .tuple #[.agg #[.slice none 0 0, .int .i64 0, .int .i64 0, .slice none 0 0, .slice none 0 0, .slice none 0 0], .int .i64 1]) (by simp [results, Try.results33, go_sem, x0, x1, x2, x3, x4, x5]) rfl ?_)
    exact ⟨⟨none, 0, 0, none, 0, 0, none, 0, 0, none, 0, 0⟩, rfl, r0_read _, (Below.setCell (Below.setCell (Below.setCell (Below.setCell (Below.setCell (Below.setCell BX.out (by simp) _) (by simp) _) (by simp) _) (by simp) _) (by simp) _) (by simp) _)⟩
  · cases SV
    · rw [if_neg (by simp)]
      clear hL hN hV hSV hIN
      go_enter Try.func33, Try.ntmps33
      go_upto_region 2 with (first | (go_at_call 50; (with_reducible refine (rValid_is (HL.out.ext (by (repeat' (first | (with_reducible exact Below.refl _ _) | (with_reducible assumption) | (with_reducible refine Below.alloc ?_ ?_ _) | (with_reducible refine Below.drew ?_) | (with_reducible refine Below.draws ?_ _) | (with_reducible refine Below.setCell ?_ ?_ _) | (refine Below.then ?_ (by with_reducible assumption)) | go_size)))) HV.out).mono ?_); rintro e w1 ⟨rfl, hb1⟩; have HS1 : Hid (Sup2 w1 w.heap.size F S) := Lib.hid (Sup2.ext ⟨by simp, by simp, by simp; omega⟩ hb1); have HR1 : Hid (Blk w1 (w.heap.size + 1) #[.slice none 0 0, .int .i64 0, .int .i64 0, .slice none 0 0, .slice none 0 0, .slice none 0 0]) := Lib.hid (Blk.extC (Blk.at _ _ _ _ (by simp)) hb1); have B1 : Hid (Below w.heap.size w w1) := Lib.hid (Below.trans (by (repeat' (first | (with_reducible exact Below.refl _ _) | (with_reducible assumption) | (with_reducible refine Below.alloc ?_ ?_ _) | (with_reducible refine Below.drew ?_) | (with_reducible refine Below.draws ?_ _) | (with_reducible refine Below.setCell ?_ ?_ _) | (refine Below.then ?_ (by with_reducible assumption)) | go_size))) (hb1.mono (by simp; omega))); obtain ⟨s0, s1, sz⟩ := HS1.out; have rz := HR1.out.l; clear hb1) | (go_at_call 51; (with_reducible refine (rsupV_is HSV.out).mono ?_); rintro e w2 ⟨rfl, hb2⟩; have HS2 := Lib.hid (HS1.out.ext hb2); have HR2 := Lib.hid (HR1.out.extC hb2); have B2 := Lib.hid (Below.then B1.out hb2); clear hb2 s0 s1 sz rz; obtain ⟨s0, s1, sz⟩ := HS2.out; have rz := HR2.out.l))
      have HRX := HR2; have BX := B2
      have x0 := HRX.out.c 0; have x1 := HRX.out.c 1; have x2 := HRX.out.c 2; have x3 := HRX.out.c 3; have x4 := HRX.out.c 4; have x5 := HRX.out.c 5; simp at x0 x1 x2 x3 x4 x5; have f0 := HRX.out.f 0; have f1 := HRX.out.f 1; have f2 := HRX.out.f 2; have f3 := HRX.out.f 3; have f4 := HRX.out.f 4; have f5 := HRX.out.f 5
      go_wp2
      (refine bodyPost_ret (v := .tuple #[.agg #[.slice none 0 0, .int .i64 0, .int .i64 0, .slice none 0 0, .slice none 0 0, .slice none 0 0], .int .i64 1]) (by simp [results, Try.results33, go_sem, x0, x1, x2, x3, x4, x5]) rfl ?_)
      exact ⟨⟨none, 0, 0, none, 0, 0, none, 0, 0, none, 0, 0⟩, rfl, r0_read _, (Below.setCell (Below.setCell (Below.setCell (Below.setCell (Below.setCell (Below.setCell BX.out (by simp) _) (by simp) _) (by simp) _) (by simp) _) (by simp) _) (by simp) _)⟩
    · cases IN
      · rw [if_neg (by simp)]
        clear hL hN hV hSV hIN
        go_enter Try.func33, Try.ntmps33
        go_upto_region 2 with (first | (go_at_call 50; (with_reducible refine (rValid_is (HL.out.ext (by (repeat' (first | (with_reducible exact Below.refl _ _) | (with_reducible assumption) | (with_reducible refine Below.alloc ?_ ?_ _) | (with_reducible refine Below.drew ?_) | (with_reducible refine Below.draws ?_ _) | (with_reducible refine Below.setCell ?_ ?_ _) | (refine Below.then ?_ (by with_reducible assumption)) | go_size)))) HV.out).mono ?_); rintro e w1 ⟨rfl, hb1⟩; have HS1 : Hid (Sup2 w1 w.heap.size F S) := Lib.hid (Sup2.ext ⟨by simp, by simp, by simp; omega⟩ hb1); have HR1 : Hid (Blk w1 (w.heap.size + 1) #[.slice none 0 0, .int .i64 0, .int .i64 0, .slice none 0 0, .slice none 0 0, .slice none 0 0]) := Lib.hid (Blk.extC (Blk.at _ _ _ _ (by simp)) hb1); have B1 : Hid (Below w.heap.size w w1) := Lib.hid (Below.trans (by (repeat' (first | (with_reducible exact Below.refl _ _) | (with_reducible assumption) | (with_reducible refine Below.alloc ?_ ?_ _) | (with_reducible refine Below.drew ?_) | (with_reducible refine Below.draws ?_ _) | (with_reducible refine Below.setCell ?_ ?_ _) | (refine Below.then ?_ (by with_reducible assumption)) | go_size))) (hb1.mono (by simp; omega))); obtain ⟨s0, s1, sz⟩ := HS1.out; have rz := HR1.out.l; clear hb1) | (go_at_call 51; (with_reducible refine (rsupV_is HSV.out).mono ?_); rintro e w2 ⟨rfl, hb2⟩; have HS2 := Lib.hid (HS1.out.ext hb2); have HR2 := Lib.hid (HR1.out.extC hb2); have B2 := Lib.hid (Below.then B1.out hb2); clear hb2 s0 s1 sz rz; obtain ⟨s0, s1, sz⟩ := HS2.out; have rz := HR2.out.l) | (go_at_call 47; (with_reducible refine (cin_is HIN.out).mono ?_); rintro e wq ⟨rfl, rfl⟩))
        have HRX := HR2; have BX := B2
        have x0 := HRX.out.c 0; have x1 := HRX.out.c 1; have x2 := HRX.out.c 2; have x3 := HRX.out.c 3; have x4 := HRX.out.c 4; have x5 := HRX.out.c 5; simp at x0 x1 x2 x3 x4 x5; have f0 := HRX.out.f 0; have f1 := HRX.out.f 1; have f2 := HRX.out.f 2; have f3 := HRX.out.f 3; have f4 := HRX.out.f 4; have f5 := HRX.out.f 5
        go_wp2
        (refine bodyPost_ret (v := .tuple #[.agg #[.slice none 0 0, .int .i64 0, .int .i64 0, .slice none 0 0, .slice none 0 0, .slice none 0 0], .int .i64 1]) (by simp [results, Try.results33, go_sem, x0, x1, x2, x3, x4, x5]) rfl ?_)
        exact ⟨⟨none, 0, 0, none, 0, 0, none, 0, 0, none, 0, 0⟩, rfl, r0_read _, (Below.setCell (Below.setCell (Below.setCell (Below.setCell (Below.setCell (Below.setCell BX.out (by simp) _) (by simp) _) (by simp) _) (by simp) _) (by simp) _) (by simp) _)⟩
      · rw [if_pos (by simp)]
        obtain ⟨i0, i1⟩ := inB_iff.1 hIN
        obtain ⟨tk, rfl⟩ := Int.eq_ofNat_of_zero_le i0
        have htk : tk < n := by omega
        have hv := valid_of hV
        have hn5 : n ≤ 5 := by rw [← hln]; exact hv.r.len
        have HRK := Lib.hid (ranks_ok hv.r)
        have HVL := Lib.hid hV; have HVT := Lib.hid hv; have HSP := Lib.hid hSV
        have hsp := supB_iff.1 hSV
        have hgb := critGo_bd hV hSV
        obtain ⟨G, hG⟩ : ∃ G, critGo F L 0 = G := ⟨_, rfl⟩
        rw [hG] at hgb
        have HG0 : Hid (critGo F (L.drop 0) 0 = G) := Lib.hid hG
        have HG9 := Lib.hid hG
        have HPB : Hid (∀ t ∈ L, vpat t.first t.gap t.jit = true ∧ (0 ≤ t.first ∧ t.first ≤ 10000) ∧ (1 ≤ t.gap ∧ t.gap ≤ 10000) ∧ (0 ≤ t.jit ∧ t.jit ≤ 10000)) := Lib.hid (fun t ht => pat_bd hV ht)
        clear hL hN hV hSV hIN hv hG
        go_enter Try.func33, Try.ntmps33
        go_wp2_with (first | (go_at_call 50; (with_reducible refine (rValid_is (HL.out.ext (by (repeat' (first | (with_reducible exact Below.refl _ _) | (with_reducible assumption) | (with_reducible refine Below.alloc ?_ ?_ _) | (with_reducible refine Below.drew ?_) | (with_reducible refine Below.draws ?_ _) | (with_reducible refine Below.setCell ?_ ?_ _) | (refine Below.then ?_ (by with_reducible assumption)) | go_size)))) HV.out).mono ?_); rintro e w1 ⟨rfl, hb1⟩; have HS1 : Hid (Sup2 w1 w.heap.size F S) := Lib.hid (Sup2.ext ⟨by simp, by simp, by simp; omega⟩ hb1); have HR1 : Hid (Blk w1 (w.heap.size + 1) #[.slice none 0 0, .int .i64 0, .int .i64 0, .slice none 0 0, .slice none 0 0, .slice none 0 0]) := Lib.hid (Blk.extC (Blk.at _ _ _ _ (by simp)) hb1); have B1 : Hid (Below w.heap.size w w1) := Lib.hid (Below.trans (by (repeat' (first | (with_reducible exact Below.refl _ _) | (with_reducible assumption) | (with_reducible refine Below.alloc ?_ ?_ _) | (with_reducible refine Below.drew ?_) | (with_reducible refine Below.draws ?_ _) | (with_reducible refine Below.setCell ?_ ?_ _) | (refine Below.then ?_ (by with_reducible assumption)) | go_size))) (hb1.mono (by simp; omega))); obtain ⟨s0, s1, sz⟩ := HS1.out; have rz := HR1.out.l; clear hb1) | (go_at_call 51; (with_reducible refine (rsupV_is HSV.out).mono ?_); rintro e w2 ⟨rfl, hb2⟩; have HS2 := Lib.hid (HS1.out.ext hb2); have HR2 := Lib.hid (HR1.out.extC hb2); have B2 := Lib.hid (Below.then B1.out hb2); clear hb2 s0 s1 sz rz; obtain ⟨s0, s1, sz⟩ := HS2.out; have rz := HR2.out.l) | (go_at_call 47; (with_reducible refine (cin_is HIN.out).mono ?_); rintro e wq ⟨rfl, rfl⟩))
        go_loopw [8, 9] (fun v8 v9 wr => ∃ (k : Nat) (A : Int), k ≤ n ∧ v8 = .int .i64 A ∧ v9 = .int .i64 k ∧ critGo F (L.drop k) A = G ∧ 0 ≤ A ∧ (∃ c : Int, A = c * F) ∧ Below w2.heap.size w2 wr) (fun _ v _ => n - (intOf v).toNat)
        case atStart => exact ⟨0, 0, Nat.zero_le _, rfl, rfl, HG0.out, Int.le_refl _, ⟨0, by simp⟩, Below.refl _ _⟩
        case round =>
          clear HG0
          obtain ⟨k, A, hk, rfl, rfl, hc, hA, hm, hB⟩ := hrel
          obtain ⟨wo, hwo⟩ : ∃ wo : World, wo = wr := ⟨_, rfl⟩
          subst hwo
          have HB := Lib.hid hB
          by_cases hlt : k < n
          · obtain ⟨t, b, off, pa, pn, pc, rfl, hb, -, -, c2, -, c4, -, -, -, hLk, HD⟩ := (HL.out.ext (Below.then B2.out hB)).at_ k hlt
            have hpb := (HPB.out t (List.mem_of_getElem? hLk)).2
            rw [critGo_drop HD.out] at hc
            obtain ⟨q, p, e1, e2, e3, q1, q2, q3, q4⟩ := ceilF_parts hsp.1 (x := t.first + t.jit) (by omega)
            obtain ⟨M, hM⟩ : ∃ M, max A (ceilF F (t.first + t.jit)) = M := ⟨_, rfl⟩
            have hMG : M ≤ G := by rw [hM] at hc; rw [← hc]; exact critGo_ge _ _ _
            rw [hM] at hc
            have HM := Lib.hid hM; have HMU := Lib.hid hm
            have HC := Lib.hid hc
            have HSo := Lib.hid (HS2.out.ext hB)
            obtain ⟨pri, dl, f, ga, j, ps⟩ := t
            simp only [] at c2 c4 hpb HM
            have hA5 : A ≤ 500000 := by have : A ≤ M := by rw [← HM.out]; omega
                                        omega
            clear hB hc hLk HD e3 e1 e2 q1 q2 q3 q4 hM hm
            go_wp2_with fail
            go_loopw [8] (fun v8 wr => ∃ (A : Int), v8 = .int .i64 A ∧ max A (ceilF F (f + j)) = M ∧ 0 ≤ A ∧ A ≤ 500000 ∧ (∃ c : Int, A = c * F) ∧ Below wo.heap.size wo wr) (fun v _ => (f + j - intOf v).toNat)
            case atStart => exact ⟨A, rfl, HM.out, hA, hA5, HMU.out, Below.refl _ _⟩
            case round =>
              clear hA hA5 HM HMU
              obtain ⟨A, rfl, hM, hA, hA5, hm, hB⟩ := hrel
              have HB2 := Lib.hid hB
              have c2' := (hB.cell (p := ⟨b, off + k * 6 + 2, none⟩) hb).trans c2
              have c4' := (hB.cell (p := ⟨b, off + k * 6 + 4, none⟩) hb).trans c4
              have hbz := Nat.lt_of_lt_of_le hb hB.size
              obtain ⟨s0, s1, sz⟩ := HSo.out.ext hB
              obtain ⟨cc, rfl⟩ := hm
              by_cases hx : cc * F < f + j
              · have hst := climb_step hsp.1.1 hx
                rw [hM] at hst
                have hst2 : (cc + 1) * F = cc * F + F := by rw [Int.add_mul]; omega
                have HST := Lib.hid hst; have HST2 := Lib.hid hst2
                obtain ⟨D, hD⟩ : ∃ D, cc * F = D := ⟨_, rfl⟩
                rw [hD] at hx hA hA5 HST2 ⊢
                have hx' : decide (D < f + j) = true := by simpa using hx
                have hDM : D ≤ 20000 := by omega
                have wj : IntKind.i64.wrap (f + j) = f + j := IntWalk.i64_in _ (by omega)
                clear hB hst hst2 hM hD c2 c4
                go_wp2_with ((refine wp_region_later_lit (by kernel_rfl) (by kernel_rfl) ?_; (repeat (go_big_quiet_step (fail))); refine wpQuiet_nil ?_; intro w5 hb5); have t0 := keep_c hb5 s0; have tz := Nat.lt_of_lt_of_le sz hb5.size)
                exact ⟨⟨D + F, rfl, by rw [← HST2.out]; exact HST.out, by omega, by omega, ⟨cc + 1, HST2.out.symm⟩, Below.then HB2.out hb5⟩, by simp [intOf]; omega⟩
              · have hMe := climb_end hsp.1.1 (show f + j ≤ cc * F by omega)
                rw [hM] at hMe
                obtain ⟨D, hD⟩ : ∃ D, cc * F = D := ⟨_, rfl⟩
                have HMU2 : Hid (∃ c : Int, M = c * F) := Lib.hid ⟨cc, hMe⟩
                rw [hD] at hx hA hA5 hMe ⊢
                subst hMe
                have hx' : decide (M < f + j) = false := by simpa using hx
                have wj : IntKind.i64.wrap (f + j) = f + j := IntWalk.i64_in _ (by omega)
                clear hB hM hD c2 c4
                go_wp2_with (refine wp_region_later_lit (by kernel_rfl) (by kernel_rfl) ?_; (repeat (go_big_quiet_step (fail))); refine wpQuiet_nil ?_; intro w5 hb5)
                go_roundw
                case rel => exact ⟨k + 1, M, hlt, rfl, by go_num, HC.out, hA, HMU2.out, Below.then HB.out (Below.then HB2.out hb5)⟩
                case measure => simp [intOf]; omega
          · obtain rfl : k = n := by omega
            have hAG : A = G := by rw [List.drop_of_length_le (by omega)] at hc; exact hc
            subst hAG
            have HS4 := Lib.hid (HS2.out.ext hB); have HR4 := Lib.hid (HR2.out.extC hB); have B4 := Lib.hid (Below.then B2.out hB)
            have HL4 := Lib.hid (HL.out.ext B4.out)
            clear hB hc hk hlt s0 s1 sz rz HB hm
            obtain ⟨s0, s1, sz⟩ := HS4.out
            have rz := HR4.out.l
            have hmk1 := run_make_row' (P := Try.prog) 26 3 (.int .i64 0) 8 Try.underlying26 (by kernel_rfl) rfl .i64 .i64 k (by omega) (by omega)
            have hmk2 := run_make_row' (P := Try.prog) 25 27 (.slice none 0 0) 24 Try.underlying25 (by kernel_rfl) rfl .i64 .i64 k (by omega) (by omega)
            go_upto_region 9 with fail
            go_cut [10] (fun v wx => ∃ (p E Bb : Nat), v = .pointer (some ⟨p, 0, none⟩) ∧ Blk wx p #[.slice none 0 0, .int .i64 F, .int .i64 S, .slice (some ⟨E, 0, none⟩) k k, .slice (some ⟨Bb, 0, none⟩) k k, .slice none 0 0] ∧ Blk wx E (madeCells #[.slice none 0 0] k) ∧ Blk wx Bb (madeCells #[.int .i64 0] k) ∧ (wo.heap.size ≤ p ∧ wo.heap.size ≤ E ∧ wo.heap.size ≤ Bb) ∧ (p ≠ E ∧ p ≠ Bb ∧ E ≠ Bb) ∧ Below wo.heap.size wo wx)
            case first =>
              clear HV HSV HIN i0 i1 htk hn5 HRK HVL HVT HSP hsp hgb HPB HS1 HR1 B1 HS2 HR2 B2 HS4 HR4 B4 HL hln wl hn hA HG9 HL4 HN
              go_region_held3 (fun w' => w'.cell? ⟨w.heap.size, 0, none⟩ = some (.int .i64 F) ∧ w'.cell? ⟨w.heap.size, 1, none⟩ = some (.int .i64 S)) (first | exact ⟨keep_c (w := wo) (by repeat' (first | (with_reducible exact Below.refl _ _) | (with_reducible assumption) | (with_reducible refine Below.alloc ?_ ?_ _) | (with_reducible refine Below.drew ?_) | (with_reducible refine Below.draws ?_ _) | (with_reducible refine Below.setCell ?_ ?_ _) | (refine Below.then ?_ (Hid.out (by with_reducible assumption))) | (refine Below.then ?_ (by with_reducible assumption)) | go_size)) s0, keep_c (w := wo) (by repeat' (first | (with_reducible exact Below.refl _ _) | (with_reducible assumption) | (with_reducible refine Below.alloc ?_ ?_ _) | (with_reducible refine Below.drew ?_) | (with_reducible refine Below.draws ?_ _) | (with_reducible refine Below.setCell ?_ ?_ _) | (refine Below.then ?_ (Hid.out (by with_reducible assumption))) | (refine Below.then ?_ (by with_reducible assumption)) | go_size)) s1⟩ | go_keep) (fail)
              all_goals
                go_wp2_with fail
                go_meet
                refine' ⟨_, _, _, rfl, ?bp, ?be, ?bb, ?ge, ?ne, ?bw⟩
                case bp => (repeat' (first | (with_reducible refine Blk.at _ _ _ _ ?_; simp only [World.size_alloc, World.size_drew, World.size_setCell]; done) | (with_reducible refine Blk.old ?_ _) | (with_reducible refine Blk.drew ?_) | (with_reducible refine Blk.set6z ?_) | (with_reducible refine Blk.far ?_ ?_ _) | (simp only [World.size_alloc, World.size_drew, World.size_setCell]; omega) | omega))
                case be => (repeat' (first | (with_reducible refine Blk.at _ _ _ _ ?_; simp only [World.size_alloc, World.size_drew, World.size_setCell]; done) | (with_reducible refine Blk.old ?_ _) | (with_reducible refine Blk.drew ?_) | (with_reducible refine Blk.set6z ?_) | (with_reducible refine Blk.far ?_ ?_ _) | (simp only [World.size_alloc, World.size_drew, World.size_setCell]; omega) | omega))
                case bb => (repeat' (first | (with_reducible refine Blk.at _ _ _ _ ?_; simp only [World.size_alloc, World.size_drew, World.size_setCell]; done) | (with_reducible refine Blk.old ?_ _) | (with_reducible refine Blk.drew ?_) | (with_reducible refine Blk.set6z ?_) | (with_reducible refine Blk.far ?_ ?_ _) | (simp only [World.size_alloc, World.size_drew, World.size_setCell]; omega) | omega))
                case ge => ((try simp only [World.size_alloc, World.size_drew, World.size_setCell]); omega)
                case ne => ((try simp only [World.size_alloc, World.size_drew, World.size_setCell]); omega)
                case bw => exact (by repeat' (first | (with_reducible exact Below.refl _ _) | (with_reducible assumption) | (with_reducible refine Below.alloc ?_ ?_ _) | (with_reducible refine Below.drew ?_) | (with_reducible refine Below.draws ?_ _) | (with_reducible refine Below.setCell ?_ ?_ _) | (refine Below.then ?_ (Hid.out (by with_reducible assumption))) | (refine Below.then ?_ (by with_reducible assumption)) | go_size))
            case rest =>
              obtain ⟨p, E, Bb, rfl, kp, kE, kB, hge, hne, hbc⟩ := hcut
              have HS5 := Lib.hid (HS4.out.ext hbc); have HR5 := Lib.hid (HR4.out.extC hbc)
              have B5 := Lib.hid (Below.then B4.out hbc)
              obtain ⟨g, hg0, hgL⟩ := HL4.out
              have HG := Lib.hid hg0; have HGL := Lib.hid hgL
              have HGN := Lib.hid hg0.length
              have HH : Hid (∀ t ∈ g, t.n ≤ 1000) := Lib.hid (fun t ht => by
                have h1 := (HVT.out.r.pcs t.ta (by rw [← hgL]; exact List.mem_map_of_mem ht)).2
                have h2 := (hg0.ok t ht).1.length
                have h3 : t.ta.pcs.length = t.pcs.length := rfl
                omega)
              have hpc := kp.l; have hEc := kE.l; have hBc := kB.l
              have HC0 : Hid (CrR wc.heap.size p E Bb k F S wc none 0 0 []) := Lib.hid ⟨⟨hpc, hEc, hBc⟩, ⟨hne.1, fun q => hne.2.2 q.symm, hne.2.1⟩, kp, kB, kE, ⟨⟨World.ownsRow_nil _ _ _ _, by simp⟩, List.Pairwise.nil⟩, Nat.le_refl _⟩
              have HBC := Lib.hid hbc
              have hzc := hbc.size
              have e1 := EPc
              have e2 := ETk
              clear hmk1 hmk2 s0 s1 sz rz kp kE kB hbc hg0 hgL
              go_wp2_with fail
              go_loopw [11] (fun v wr => ∃ (j : Nat) (a' : Option Addr) (c' : Nat) (g' : List TaV), j ≤ k ∧ v = .int .i64 j ∧ CrR wc.heap.size p E Bb k F S wr a' j c' g' ∧ g'.map TaV.ta = (g.take j).map TaV.ta ∧ Below wo.heap.size wo wr) (fun v _ => k - (intOf v).toNat)
              case atStart => exact ⟨0, none, 0, [], Nat.zero_le _, rfl, HC0.out, rfl, HBC.out⟩
              case round =>
                clear HC0
                obtain ⟨j, a', c', g', hj, rfl, hC, hg', hB⟩ := hrel
                have HC := Lib.hid hC; have HG' := Lib.hid hg'; have HB := Lib.hid hB
                have hz := hB.size
                have hz2 := hC.z
                by_cases hlt : j < k
                · have hkl : j < g.length := by rw [HGN.out]; exact hlt
                  have hgd : g.drop j = g[j] :: g.drop (j + 1) := List.drop_eq_getElem_cons hkl
                  have hgm : g[j] ∈ g := List.getElem_mem hkl
                  obtain ⟨t, ht⟩ : ∃ t, g[j] = t := ⟨_, rfl⟩
                  rw [ht] at hgd hgm
                  obtain ⟨b, off, rfl, hb0, hc⟩ := HG.out.rd.at_ (by omega)
                  have hgk : (g.map encTa)[j]'(by simpa using hkl) = encTa t := by rw [List.getElem_map, ht]
                  have x0 := hc j (by simpa using hkl) 0 (by omega)
                  have x1 := hc j (by simpa using hkl) 1 (by omega)
                  have x2 := hc j (by simpa using hkl) 2 (by omega)
                  have x3 := hc j (by simpa using hkl) 3 (by omega)
                  have x4 := hc j (by simpa using hkl) 4 (by omega)
                  have x5 := hc j (by simpa using hkl) 5 (by omega)
                  rw [hgk] at x0 x1 x2 x3 x4 x5
                  clear hgk hc
                  have hok := (HG.out.ok t hgm).ext HB.out
                  have htn : t.n ≤ 1000 := HH.out _ hgm
                  obtain ⟨pri, dl, fi, gap, jit, ta, tn, tc, pcs⟩ := t
                  simp [encTa] at x0 x1 x2 x3 x4 x5
                  simp only [] at htn
                  have h0 := (HB.out.cell (p := ⟨b, off + j * 6, none⟩) hb0).trans x0
                  have h1 := (HB.out.cell (p := ⟨b, off + j * 6 + 1, none⟩) hb0).trans x1
                  have h2 := (HB.out.cell (p := ⟨b, off + j * 6 + 2, none⟩) hb0).trans x2
                  have h3 := (HB.out.cell (p := ⟨b, off + j * 6 + 3, none⟩) hb0).trans x3
                  have h4 := (HB.out.cell (p := ⟨b, off + j * 6 + 4, none⟩) hb0).trans x4
                  have h5 := (HB.out.cell (p := ⟨b, off + j * 6 + 5, none⟩) hb0).trans x5
                  have hb : b < wr.heap.size := by omega
                  have HT1 : Hid (Rd wr ta tn 2 (pcs.map enc2)) := Lib.hid hok.1
                  have HT2 : Hid (NilOk ta tn tc) := Lib.hid hok.2
                  have HTK := Lib.hid (take_of_drop hgd)
                  have d0 := hC.bp.c 0
                  have df := hC.bp.f 0
                  simp at d0
                  have hpz : p < wr.heap.size := by omega
                  have hpn : p ≠ wr.heap.size := by omega
                  have hj100 : j ≤ 100 := by omega
                  clear ht hok hgd hgm x0 x1 x2 x3 x4 x5 hC hg' hB
                  go_wp2_with (first
                    | (at_builtin; refine wpList_pushAll (B := wr.heap.size + 1) (n := 0) (xs := []) (v := .slice none 0 0) rfl _ _ _ rfl e1 enc2_len enc2_one rfl (World.ownsRow_nil _ _ _ _) rfl (HT1.out.ext (by (repeat' (first | (with_reducible exact Below.refl _ _) | (with_reducible assumption) | (with_reducible refine Below.alloc ?_ ?_ _) | (with_reducible refine Below.drew ?_) | (with_reducible refine Below.draws ?_ _) | (with_reducible refine Below.setCell ?_ ?_ _) | (refine Below.then ?_ (by with_reducible assumption)) | go_size)))) HT2.out (by omega) (by decide) (by simp) ?_
                       intro v2 w2 hown2 hv2 hb2
                       rw [Nat.zero_add, List.nil_append] at hown2
                       obtain ⟨a2, c2, rfl⟩ := hv2
                       rw [Nat.zero_add] at hown2 ⊢
                       have HB2 := Lib.hid hb2
                       have HO2 := Lib.hid hown2
                       have hz2' := hb2.size
                       simp only [World.size_alloc] at hz2'
                       have hc0 := (hb2.cell (p := ⟨wr.heap.size, 0, none⟩) (by simp)).trans (show _ = some (.int .i64 pri) by simp [go_sem])
                       have hc1 := (hb2.cell (p := ⟨wr.heap.size, 1, none⟩) (by simp)).trans (show _ = some (.int .i64 dl) by simp [go_sem])
                       have hc2 := (hb2.cell (p := ⟨wr.heap.size, 2, none⟩) (by simp)).trans (show _ = some (.int .i64 fi) by simp [go_sem])
                       have hc3 := (hb2.cell (p := ⟨wr.heap.size, 3, none⟩) (by simp)).trans (show _ = some (.int .i64 gap) by simp [go_sem])
                       have hc4 := (hb2.cell (p := ⟨wr.heap.size, 4, none⟩) (by simp)).trans (show _ = some (.int .i64 jit) by simp [go_sem])
                       have hc5 := (hb2.cell (p := ⟨wr.heap.size, 5, none⟩) (by simp)).trans (show _ = some (.slice ta tn tc) by simp [go_sem])
                       have hf5 := (hb2.frozen (p := ⟨wr.heap.size, 5, none⟩) (by simp)).trans (show _ = false by simp [go_sem])
                       have HBW : Hid (Below wr.heap.size wr w2) := Lib.hid (((Below.refl wr.heap.size wr).alloc (Nat.le_refl _) _).trans (hb2.mono (by omega)))
                       have d0' := (HBW.out.cell (p := ⟨p, 0, none⟩) hpz).trans d0
                       have df' := (HBW.out.frozen (p := ⟨p, 0, none⟩) hpz).trans df
                       have hpz2 := Nat.lt_of_lt_of_le hpz HBW.out.size
                       clear hown2 hb2)
                    | (at_builtin; refine wpList_pushM (N := w2.heap.size) (v := .slice a' j c') (by simp) rfl _ _ _ rfl e2 rfl (owns_ext HC.out.mt.own.own (HBW.out.setCell (p := ⟨wr.heap.size, 5, none⟩) (Nat.le_refl _) _)) rfl rfl (by intro u hu; simp at hu; rcases hu with rfl | rfl | rfl | rfl | rfl | rfl <;> rfl) (by omega) (by decide) (by simp; omega) ?_; intro a3 c3 w3 hown3 hb3; have HO3 := Lib.hid hown3; have HB3 := Lib.hid hb3; have hbW : Below wc.heap.size wr w3 := ((((HBW.out.setCell (p := ⟨wr.heap.size, 5, none⟩) (Nat.le_refl _) (.slice a2 tn c2)).mono hz2).alloc (by simp; omega) _).grown hb3 (by simp; omega) (fun q hq => (HC.out.mt.own.own.lt q hq).1)); have d0'' := (hbW.cell (p := ⟨p, 0, none⟩) hpc).trans d0; have df'' := (hbW.frozen (p := ⟨p, 0, none⟩) hpc).trans df; have HBW3 := Lib.hid hbW; clear hown3 hb3 hbW))
                  go_roundw
                  case rel =>
                    have hS : Below wr.heap.size wr (w2.setCell ⟨wr.heap.size, 5, none⟩ (.slice a2 tn c2)) := HBW.out.setCell (p := ⟨wr.heap.size, 5, none⟩) (Nat.le_refl _) _
                    have hM := MutT.push HC.out.mt hz2 hS (owns_far HO2.out (Nat.lt_succ_self _) _) HO3.out HB3.out
                    refine ⟨j + 1, a3, c3, _, hlt, by go_num, HC.out.push HBW3.out hM, by rw [HTK.out, List.map_append, List.map_append, HG'.out]; rfl, ?_⟩
                    exact (HB.out.trans (HBW3.out.mono hzc)).setCell (p := ⟨p, 0, none⟩) hge.1 _
                  case measure => simp [intOf]; omega
                · obtain rfl : j = k := by omega
                  obtain ⟨P, hP⟩ : ∃ P : CrP, P = ⟨wo.heap.size, wr.heap.size, p, E, Bb, j, a', c', F, S, g', wc.heap.size, wr.heap.size⟩ := ⟨_, rfl⟩
                  have HPF : Hid (CrF P) := Lib.hid (by rw [hP]; exact ⟨⟨hge.1, Nat.lt_of_lt_of_le hpc hz2⟩, ⟨hge.2.1, Nat.lt_of_lt_of_le hEc hz2⟩, ⟨hge.2.2, Nat.lt_of_lt_of_le hBc hz2⟩, hC.ne.1 |> fun q => ⟨q, hC.ne.2.1⟩, .inl hEc, hC.mt.in_⟩)
                  have HM0 : Hid (CrM P wr (fun _ => ⟨none, 0, 0, []⟩)) := Lib.hid (by rw [hP]; exact ⟨hC.bp, hC.bb, EvB.start hC.be, hC.mt.mono hzc⟩)
                  have HGF : Hid (g'.map TaV.ta = L) := Lib.hid (by rw [hg', List.take_of_length_le (by rw [HGN.out]; exact Nat.le_refl _)]; exact HGL.out)
                  have HPP := Lib.hid hP
                  have hEb : wo.heap.size ≤ E := hge.2.1
                  have hEp : E ≠ p := fun q => hne.1 q.symm
                  have HLr := Lib.hid (HL4.out.ext hB)
                  have HRr := Lib.hid (HR4.out.extC hB)
                  obtain ⟨w0, hw0⟩ : ∃ x : World, x = wr := ⟨_, rfl⟩
                  subst hw0
                  obtain ⟨pp, hpp⟩ : ∃ pp, cnt L (tk : Int) = pp := ⟨_, rfl⟩
                  have hrk : (rankL L)[pp]? = some (tk : Int) := by rw [← hpp]; exact rank_at (by omega) (by omega)
                  have hppk : pp < j := by have := (List.getElem?_eq_some_iff.1 hrk).1; rw [rank_len, hln] at this; exact this
                  have HPQ := Lib.hid hpp
                  have HGM : Hid (∀ t ∈ L, t.first + t.jit ≤ A) := Lib.hid (fun t ht => by have := critGo_mem hsp.1.1 L 0 t ht; rw [HG9.out] at this; exact this)
                  clear hC hg' hB hP hpp hrk HC HG'
                  go_upto_region 18 with (go_at_call 24; (with_reducible refine (rRanks_is HLr.out HRK.out).mono ?_); rintro e w6 ⟨ra, rn, rc, rfl, hr6, hb6⟩; have HK6 := Lib.hid hr6; have HB6 := Lib.hid hb6; clear hr6 hb6)
                  obtain rfl : rn = j := by rw [← (ownsI_rd HK6.out).length, rank_len, hln]
                  have HM6 := Lib.hid (HM0.out.ext HB6.out)
                  go_loopw [15] (fun v wr => ∃ (i : Nat) (r : Nat → EvV), i ≤ pp ∧ v = .int .i64 i ∧ CrM P wr r ∧ (∀ x, (r x).es = evU ((rankL L).take i) L A x) ∧ wr.ownsRow w0.heap.size 3 1 (.slice ra rn rc) rn ((rankL L).flatMap enc1) ∧ Below wo.heap.size wo wr) (fun v _ => pp - (intOf v).toNat)
                  case atStart => exact ⟨0, _, Nat.zero_le _, rfl, HM6.out, fun i => by unfold evU; simp, HK6.out, HB.out.trans (HB6.out.mono HB.out.size)⟩
                  case round =>
                    clear HM0 HM6 HK6
                    obtain ⟨i, r, hi, rfl, hM, hE, hO, hB⟩ := hrel
                    have HM := Lib.hid hM; have HE := Lib.hid hE; have HB := Lib.hid hB; have HOR := Lib.hid hO
                    obtain ⟨x, b1, o1, rfl, hb1, hx1, hx⟩ := (ownsI_rd hO).idx i (by omega)
                    have hxm := rank_mem.1 (List.mem_of_getElem? hx)
                    obtain ⟨x, rfl⟩ := Int.eq_ofNat_of_zero_le hxm.1
                    have hxk : x < rn := by omega
                    have hcx := rank_cnt hx
                    by_cases hjp : i < pp
                    · have hxt : x ≠ tk := by rintro rfl; have := HPQ.out; omega
                      have hxt' : ((x : Int) != (tk : Int)) = true := by simp; omega
                      obtain ⟨t, b, off, pa, pn, pc, rfl, hb, -, -, c2, c3, c4, -, -, -, hLk, -⟩ := HL4.out.at_ x hxk
                      replace c2 := (hB.cell (p := ⟨b, off + x * 6 + 2, none⟩) hb).trans c2
                      replace c3 := (hB.cell (p := ⟨b, off + x * 6 + 3, none⟩) hb).trans c3
                      replace c4 := (hB.cell (p := ⟨b, off + x * 6 + 4, none⟩) hb).trans c4
                      have hpb2 := HPB.out t (List.mem_of_getElem? hLk)
                      have hge2 := HGM.out t (List.mem_of_getElem? hLk)
                      have htx : taAt L x = t := taAt_of hLk
                      have HX := Lib.hid hx
                      have HTX := Lib.hid htx
                      obtain ⟨pri, dl, f, ga, jt, ps⟩ := t
                      simp only [] at c2 c3 c4 hpb2 hge2
                      obtain ⟨l, hl⟩ : ∃ l, bunchL (max f (A - jt)) ga A 6 = l := ⟨_, rfl⟩
                      have HLL := Lib.hid hl
                      have HV2 := Lib.hid hpb2.1
                      have d3 : wr.cell? ⟨p, 3, none⟩ = some (.slice (some ⟨E, 0, none⟩) rn rn) := by have := hM.bp.c 3; rw [HPP.out] at this; exact this
                      have dE : wr.cell? ⟨E, x, none⟩ = some (.slice (r x).a (r x).n (r x).c) := by have := hM.ev.be x (by rw [HPP.out]; exact hxk); rw [HPP.out] at this; exact this
                      have dF : wr.frozen? ⟨E, x, none⟩ = false := by have := hM.ev.fe x; rw [HPP.out] at this; exact this
                      have hzE := World.block_lt_of_cell? _ _ dE
                      simp only [] at hzE
                      obtain ⟨va, hva⟩ : ∃ v, r x = v := ⟨_, rfl⟩
                      rw [hva] at dE
                      clear hM hE hB hO hx hLk htx hl hpb2 hva hxm hcx
                      go_upto_region 21 with (go_at_call 74; (with_reducible refine (rBunch_is HV2.out hge2 hgb.2 HLL.out).mono ?_); rintro e w5 ⟨a5, n5, c5, rfl, ho5, hb5⟩; have y3 := keep_c hb5 d3; have y1 := keep_c hb5 hx1; have yE := keep_c hb5 dE; have yF := (hb5.frozen (p := ⟨E, x, none⟩) hzE).trans dF; have HB5 := Lib.hid hb5; have HO5 : Hid (w5.ownsRow wr.heap.size 44 2 (.slice a5 n5 c5) n5 (l.flatMap enc2)) := Lib.hid ho5; clear ho5 hb5)
                      go_region
                      all_goals
                        go_wp2_with fail
                        go_roundw
                        case rel =>
                          have hM5 := HM.out.ext HB5.out
                          have hz5 := HM.out.ev.z
                          have hs := hM5.set HPF.out (i := x) (by rw [HPP.out]; exact hxk) ⟨a5, n5, c5, l⟩ (owns_mono HO5.out hz5)
                          have hEP : P.E < P.B1 := HPF.out.E.2
                          refine ⟨i + 1, _, hjp, by go_num, ((show CrM P _ _ by rw [HPP.out] at hs ⊢; exact hs).ext (by (repeat' (first | (with_reducible exact Below.refl _ _) | (with_reducible assumption) | (with_reducible refine Below.alloc ?_ ?_ _) | (with_reducible refine Below.drew ?_) | (with_reducible refine Below.draws ?_ _) | (with_reducible refine Below.setCell ?_ ?_ _) | (refine Below.then ?_ (by with_reducible assumption)) | go_size)))), fun y => ?_, owns_ext (owns_far (owns_ext HOR.out HB5.out) (by rw [HPP.out] at hEP; exact hEP) _) (by (repeat' (first | (with_reducible exact Below.refl _ _) | (with_reducible assumption) | (with_reducible refine Below.alloc ?_ ?_ _) | (with_reducible refine Below.drew ?_) | (with_reducible refine Below.draws ?_ _) | (with_reducible refine Below.setCell ?_ ?_ _) | (refine Below.then ?_ (by with_reducible assumption)) | go_size))), ?_⟩
                          · rw [evU_step HX.out, HTX.out]
                            by_cases q : y = x
                            · rw [if_pos q, if_pos q]; exact HLL.out.symm
                            · rw [if_neg q, if_neg q]; exact HE.out y
                          · exact Below.then ((Below.then HB.out HB5.out).setCell (p := ⟨E, x, none⟩) hEb _) (by (repeat' (first | (with_reducible exact Below.refl _ _) | (with_reducible assumption) | (with_reducible refine Below.alloc ?_ ?_ _) | (with_reducible refine Below.drew ?_) | (with_reducible refine Below.draws ?_ _) | (with_reducible refine Below.setCell ?_ ?_ _) | (refine Below.then ?_ (by with_reducible assumption)) | go_size)))
                        case measure => simp [intOf]; omega
                    · obtain rfl : i = pp := by omega
                      have hrt := rank_at (L := L) (x := (tk : Int)) (by omega) (by omega)
                      rw [HPQ.out] at hrt
                      obtain rfl : tk = x := by have := Option.some.inj (hx.symm.trans hrt); omega
                      clear hx hrt hxm hcx
                      obtain ⟨t, b, off, pa, pn, pc, rfl, hb, -, -, -, -, c4, -, -, -, hLk, -⟩ := HL4.out.at_ tk htk
                      replace c4 := (hB.cell (p := ⟨b, off + tk * 6 + 4, none⟩) hb).trans c4
                      have hpb2 := HPB.out t (List.mem_of_getElem? hLk)
                      have hge2 := HGM.out t (List.mem_of_getElem? hLk)
                      have htx : taAt L tk = t := taAt_of hLk
                      have HTX := Lib.hid htx
                      obtain ⟨pri, dl, f, ga, jt, ps⟩ := t
                      simp only [] at c4 hpb2 hge2
                      have hsub : 0 ≤ A - jt ∧ A - jt ≤ 500000 := by omega
                      have d3 : wr.cell? ⟨p, 3, none⟩ = some (.slice (some ⟨E, 0, none⟩) rn rn) := by have := hM.bp.c 3; rw [HPP.out] at this; exact this
                      have dE : wr.cell? ⟨E, tk, none⟩ = some (.slice (r tk).a (r tk).n (r tk).c) := by have := hM.ev.be tk (by rw [HPP.out]; exact htk); rw [HPP.out] at this; exact this
                      have dF : wr.frozen? ⟨E, tk, none⟩ = false := by have := hM.ev.fe tk; rw [HPP.out] at this; exact this
                      have hzE := World.block_lt_of_cell? _ _ dE
                      have hzp := World.block_lt_of_cell? _ _ d3
                      simp only [] at hzE hzp
                      have n1 : E ≠ b := by omega
                      obtain ⟨va, hva⟩ : ∃ v, r tk = v := ⟨_, rfl⟩
                      rw [hva] at dE
                      have HRW := Lib.hid (HR4.out.extC hB)
                      clear hM hE hB hLk htx hpb2 hva
                      go_upto_region 24 with fail
                      obtain ⟨w9, hw9⟩ : ∃ x, x = (wr.setCell ⟨E, tk, none⟩ (.slice (some ⟨wr.heap.size, 0, none⟩) 1 1)).alloc (.cells #[.int .i64 (A - jt), .int .i64 jt] 44) := ⟨_, rfl⟩
                      have hM9 : CrM P w9 (fun q => if q = tk then ⟨some ⟨wr.heap.size, 0, none⟩, 1, 1, [(A - jt, jt)]⟩ else r q) := by
                        have h1 := (HM.out.ext (Below.alloc (Below.refl _ _) (Nat.le_refl _) (.cells #[.int .i64 (A - jt), .int .i64 jt] 44))).set HPF.out (i := tk) (by rw [HPP.out]; exact htk) ⟨some ⟨wr.heap.size, 0, none⟩, 1, 1, [(A - jt, jt)]⟩ (owns_mono (one_ev wr (A - jt) jt) HM.out.ev.z)
                        rw [hw9, ← World.setCell_alloc_past _ _ _ _ hzE]
                        have e : P.E = E := by rw [HPP.out]
                        rw [e] at h1
                        exact h1
                      have hR9 : Blk w9 (w.heap.size + 1) #[.slice none 0 0, .int .i64 0, .int .i64 0, .slice none 0 0, .slice none 0 0, .slice none 0 0] := by rw [hw9]; exact (HRW.out.far (by have := HR4.out.l; omega) _).old _
                      have hB9 : Below wo.heap.size wo w9 := by rw [hw9]; exact Below.alloc (HB.out.setCell (p := ⟨E, tk, none⟩) hEb _) (by simpa using HB.out.size) _
                      rw [← hw9]
                      have HM9 := Lib.hid hM9; have HRX := Lib.hid hR9; have HB9 := Lib.hid hB9
                      have hbp := hM9.bp
                      rw [HPP.out] at hbp
                      have p0 := hbp.c 0; have p1 := hbp.c 1; have p2 := hbp.c 2; have p3 := hbp.c 3; have p4 := hbp.c 4; have p5 := hbp.c 5
                      simp at p0 p1 p2 p3 p4 p5
                      clear hw9 hM9 hR9 hB9 hbp d3 dE dF hzE hzp c4
                      have x0 := HRX.out.c 0; have x1 := HRX.out.c 1; have x2 := HRX.out.c 2; have x3 := HRX.out.c 3; have x4 := HRX.out.c 4; have x5 := HRX.out.c 5; simp at x0 x1 x2 x3 x4 x5; have f0 := HRX.out.f 0; have f1 := HRX.out.f 1; have f2 := HRX.out.f 2; have f3 := HRX.out.f 3; have f4 := HRX.out.f 4; have f5 := HRX.out.f 5
                      have rz4 : w.heap.size + 1 < wo.heap.size := HR4.out.l
                      go_wp2
                      refine bodyPost_ret (v := .tuple #[.agg #[.slice a' rn c', .int .i64 F, .int .i64 S, .slice (some ⟨E, 0, none⟩) rn rn, .slice (some ⟨Bb, 0, none⟩) rn rn, .slice none 0 0], .int .i64 0]) (by simp [results, Try.results33, go_sem, x0, x1, x2, x3, x4, x5]) rfl ?_
                      refine ⟨⟨a', rn, c', some ⟨E, 0, none⟩, rn, rn, some ⟨Bb, 0, none⟩, rn, rn, none, 0, 0⟩, rfl, ?_, ?_⟩
                      · have hq : w.heap.size + 1 < P.B0 := by rw [HPP.out]; exact rz4
                        have hL2 := HGF.out
                        have h9 := (((((HM9.out.far HPF.out (q := w.heap.size + 1) (i := 0) hq (.slice a' rn c')).far HPF.out (i := 1) hq (.int .i64 F)).far HPF.out (i := 2) hq (.int .i64 S)).far HPF.out (i := 3) hq (.slice (some ⟨E, 0, none⟩) rn rn)).far HPF.out (i := 4) hq (.slice (some ⟨Bb, 0, none⟩) rn rn)).far HPF.out (i := 5) hq (.slice none 0 0)
                        have h10 := h9.run (L := L) (EV := critL L F (tk : Int)) (by rw [HPP.out]; show rn ≤ 1000; omega) (by rw [HPP.out]; exact hL2) (by rw [HPP.out]; exact hln) (by
                          rw [HPP.out]
                          unfold critL
                          rw [hln, HPQ.out, HG9.out, Int.toNat_natCast]
                          refine List.map_congr_left (fun i _ => ?_)
                          rw [critEv_of, HTX.out]
                          by_cases q : i = tk
                          · rw [if_pos q, if_pos q]
                          · rw [if_neg q, if_neg q]; exact (HE.out i).symm)
                        rw [HPP.out] at h10
                        exact h10
                      · have hb := Below.then B4.out HB9.out
                        exact Below.setCell (Below.setCell (Below.setCell (Below.setCell (Below.setCell (Below.setCell hb (by simp) _) (by simp) _) (by simp) _) (by simp) _) (by simp) _) (by simp) _
end Go.Proofs.Ytlhnhmimhpcoaaa
