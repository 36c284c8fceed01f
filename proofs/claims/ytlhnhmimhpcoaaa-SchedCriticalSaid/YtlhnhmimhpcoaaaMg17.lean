/- The contract of Critical of the program. The conditions: the tasks read as named. -/
import Derived.Test.YtlhnhmimhpcoaaaMg16
import Derived.Deep.RegionWith
import Derived.BigRegion
import Derived.Deep.Cut
import Derived.Deep.RegionHeld3
namespace Go.Proofs.Ytlhnhmimhpcoaaa
open Go.RowKit
set_option linter.unusedSimpArgs false
set_option linter.unusedVariables false
set_option maxRecDepth 100000 in
set_option maxHeartbeats 40000000 in
theorem Critical_any (a : Option Addr) (n c : Nat) (L : List Ta) (F S task : Int) (w : World) (hL : RdL w a n L) (hN : NilOk a n c) (hn : n ≤ 100) :
    Calls Try.prog 32 #[.slice a n c, .agg #[.int .i64 F, .int .i64 S], .int .i64 task] w (OutCr w (critR L F S task).1 (critR L F S task).2) := by
  have HL := Lib.hid hL; have HN := Lib.hid hN
  have hln := hL.length
  have wl : IntKind.i64.wrap ((n : Int) - 1) = (n : Int) - 1 := IntWalk.i64_in _ (by omega)
  unfold critR critC
  obtain ⟨V, hV⟩ : ∃ V, validL L = V := ⟨_, rfl⟩
  obtain ⟨SV, hSV⟩ : ∃ V, supB F S = V := ⟨_, rfl⟩
  obtain ⟨IN, hIN⟩ : ∃ V, inB task 0 ((L.length : Int) - 1) = V := ⟨_, rfl⟩
  have HV := Lib.hid hV; have HSV := Lib.hid hSV
  have HIN : Hid (inB task 0 ((n : Int) - 1) = IN) := Lib.hid (by rw [← hln]; exact hIN)
  rw [hV, hSV, hIN]
  cases V
  · rw [if_neg (by simp)]
    clear hL hN hV hSV hIN
    go_enter Try.func32, Try.ntmps32
    go_upto_region 2 with (go_at_call 56; (with_reducible refine (valid_is (HL.out.ext (by (repeat' (first | (with_reducible exact Below.refl _ _) | (with_reducible assumption) | (with_reducible refine Below.alloc ?_ ?_ _) | (with_reducible refine Below.drew ?_) | (with_reducible refine Below.draws ?_ _) | (with_reducible refine Below.setCell ?_ ?_ _) | (refine Below.then ?_ (by with_reducible assumption)) | go_size)))) HV.out).mono ?_); rintro e w1 ⟨rfl, hb1⟩; have HS1 : Hid (Sup2 w1 w.heap.size F S) := Lib.hid (Sup2.ext ⟨by simp, by simp, by simp; omega⟩ hb1); have HR1 : Hid (Blk w1 (w.heap.size + 1) #[.slice none 0 0, .int .i64 0, .int .i64 0, .slice none 0 0, .slice none 0 0, .slice none 0 0]) := Lib.hid (Blk.extC (Blk.at _ _ _ _ (by simp)) hb1); have B1 : Hid (Below w.heap.size w w1) := Lib.hid (Below.trans (by (repeat' (first | (with_reducible exact Below.refl _ _) | (with_reducible assumption) | (with_reducible refine Below.alloc ?_ ?_ _) | (with_reducible refine Below.drew ?_) | (with_reducible refine Below.draws ?_ _) | (with_reducible refine Below.setCell ?_ ?_ _) | (refine Below.then ?_ (by with_reducible assumption)) | go_size))) (hb1.mono (by simp; omega))); obtain ⟨s0, s1, sz⟩ := HS1.out; have rz := HR1.out.l; clear hb1)
    have HRX := HR1; have BX := B1
    have x0 := HRX.out.c 0; have x1 := HRX.out.c 1; have x2 := HRX.out.c 2; have x3 := HRX.out.c 3; have x4 := HRX.out.c 4; have x5 := HRX.out.c 5; simp at x0 x1 x2 x3 x4 x5; have f0 := HRX.out.f 0; have f1 := HRX.out.f 1; have f2 := HRX.out.f 2; have f3 := HRX.out.f 3; have f4 := HRX.out.f 4; have f5 := HRX.out.f 5
    go_wp2
    (refine bodyPost_ret (v := .tuple #[.agg #[.slice none 0 0, .int .i64 0, .int .i64 0, .slice none 0 0, .slice none 0 0, .slice none 0 0], .int .i64 1]) (by simp [results, Try.results32, go_sem, x0, x1, x2, x3, x4, x5]) rfl ?_)
    exact ⟨⟨none, 0, 0, none, 0, 0, none, 0, 0, none, 0, 0⟩, rfl, r0_read _, (Below.setCell (Below.setCell (Below.setCell (Below.setCell (Below.setCell (Below.setCell BX.out (by simp) _) (by simp) _) (by simp) _) (by simp) _) (by simp) _) (by simp) _)⟩
  · cases SV
    · rw [if_neg (by simp)]
      clear hL hN hV hSV hIN
      go_enter Try.func32, Try.ntmps32
      go_upto_region 2 with (first | (go_at_call 56; (with_reducible refine (valid_is (HL.out.ext (by (repeat' (first | (with_reducible exact Below.refl _ _) | (with_reducible assumption) | (with_reducible refine Below.alloc ?_ ?_ _) | (with_reducible refine Below.drew ?_) | (with_reducible refine Below.draws ?_ _) | (with_reducible refine Below.setCell ?_ ?_ _) | (refine Below.then ?_ (by with_reducible assumption)) | go_size)))) HV.out).mono ?_); rintro e w1 ⟨rfl, hb1⟩; have HS1 : Hid (Sup2 w1 w.heap.size F S) := Lib.hid (Sup2.ext ⟨by simp, by simp, by simp; omega⟩ hb1); have HR1 : Hid (Blk w1 (w.heap.size + 1) #[.slice none 0 0, .int .i64 0, .int .i64 0, .slice none 0 0, .slice none 0 0, .slice none 0 0]) := Lib.hid (Blk.extC (Blk.at _ _ _ _ (by simp)) hb1); have B1 : Hid (Below w.heap.size w w1) := Lib.hid (Below.trans (by (repeat' (first | (with_reducible exact Below.refl _ _) | (with_reducible assumption) | (with_reducible refine Below.alloc ?_ ?_ _) | (with_reducible refine Below.drew ?_) | (with_reducible refine Below.draws ?_ _) | (with_reducible refine Below.setCell ?_ ?_ _) | (refine Below.then ?_ (by with_reducible assumption)) | go_size))) (hb1.mono (by simp; omega))); obtain ⟨s0, s1, sz⟩ := HS1.out; have rz := HR1.out.l; clear hb1) | (go_at_call 57; (with_reducible refine (supV_is HSV.out).mono ?_); rintro e w2 ⟨rfl, hb2⟩; have HS2 := Lib.hid (HS1.out.ext hb2); have HR2 := Lib.hid (HR1.out.extC hb2); have B2 := Lib.hid (Below.then B1.out hb2); clear hb2 s0 s1 sz rz; obtain ⟨s0, s1, sz⟩ := HS2.out; have rz := HR2.out.l))
      have HRX := HR2; have BX := B2
      have x0 := HRX.out.c 0; have x1 := HRX.out.c 1; have x2 := HRX.out.c 2; have x3 := HRX.out.c 3; have x4 := HRX.out.c 4; have x5 := HRX.out.c 5; simp at x0 x1 x2 x3 x4 x5; have f0 := HRX.out.f 0; have f1 := HRX.out.f 1; have f2 := HRX.out.f 2; have f3 := HRX.out.f 3; have f4 := HRX.out.f 4; have f5 := HRX.out.f 5
      go_wp2
      (refine bodyPost_ret (v := .tuple #[.agg #[.slice none 0 0, .int .i64 0, .int .i64 0, .slice none 0 0, .slice none 0 0, .slice none 0 0], .int .i64 1]) (by simp [results, Try.results32, go_sem, x0, x1, x2, x3, x4, x5]) rfl ?_)
      exact ⟨⟨none, 0, 0, none, 0, 0, none, 0, 0, none, 0, 0⟩, rfl, r0_read _, (Below.setCell (Below.setCell (Below.setCell (Below.setCell (Below.setCell (Below.setCell BX.out (by simp) _) (by simp) _) (by simp) _) (by simp) _) (by simp) _) (by simp) _)⟩
    · cases IN
      · rw [if_neg (by simp)]
        clear hL hN hV hSV hIN
        go_enter Try.func32, Try.ntmps32
        go_upto_region 2 with (first | (go_at_call 56; (with_reducible refine (valid_is (HL.out.ext (by (repeat' (first | (with_reducible exact Below.refl _ _) | (with_reducible assumption) | (with_reducible refine Below.alloc ?_ ?_ _) | (with_reducible refine Below.drew ?_) | (with_reducible refine Below.draws ?_ _) | (with_reducible refine Below.setCell ?_ ?_ _) | (refine Below.then ?_ (by with_reducible assumption)) | go_size)))) HV.out).mono ?_); rintro e w1 ⟨rfl, hb1⟩; have HS1 : Hid (Sup2 w1 w.heap.size F S) := Lib.hid (Sup2.ext ⟨by simp, by simp, by simp; omega⟩ hb1); have HR1 : Hid (Blk w1 (w.heap.size + 1) #[.slice none 0 0, .int .i64 0, .int .i64 0, .slice none 0 0, .slice none 0 0, .slice none 0 0]) := Lib.hid (Blk.extC (Blk.at _ _ _ _ (by simp)) hb1); have B1 : Hid (Below w.heap.size w w1) := Lib.hid (Below.trans (by (repeat' (first | (with_reducible exact Below.refl _ _) | (with_reducible assumption) | (with_reducible refine Below.alloc ?_ ?_ _) | (with_reducible refine Below.drew ?_) | (with_reducible refine Below.draws ?_ _) | (with_reducible refine Below.setCell ?_ ?_ _) | (refine Below.then ?_ (by with_reducible assumption)) | go_size))) (hb1.mono (by simp; omega))); obtain ⟨s0, s1, sz⟩ := HS1.out; have rz := HR1.out.l; clear hb1) | (go_at_call 57; (with_reducible refine (supV_is HSV.out).mono ?_); rintro e w2 ⟨rfl, hb2⟩; have HS2 := Lib.hid (HS1.out.ext hb2); have HR2 := Lib.hid (HR1.out.extC hb2); have B2 := Lib.hid (Below.then B1.out hb2); clear hb2 s0 s1 sz rz; obtain ⟨s0, s1, sz⟩ := HS2.out; have rz := HR2.out.l) | (go_at_call 59; (with_reducible refine (cwithin_is HIN.out).mono ?_); rintro e wq ⟨rfl, rfl⟩))
        have HRX := HR2; have BX := B2
        have x0 := HRX.out.c 0; have x1 := HRX.out.c 1; have x2 := HRX.out.c 2; have x3 := HRX.out.c 3; have x4 := HRX.out.c 4; have x5 := HRX.out.c 5; simp at x0 x1 x2 x3 x4 x5; have f0 := HRX.out.f 0; have f1 := HRX.out.f 1; have f2 := HRX.out.f 2; have f3 := HRX.out.f 3; have f4 := HRX.out.f 4; have f5 := HRX.out.f 5
        go_wp2
        (refine bodyPost_ret (v := .tuple #[.agg #[.slice none 0 0, .int .i64 0, .int .i64 0, .slice none 0 0, .slice none 0 0, .slice none 0 0], .int .i64 1]) (by simp [results, Try.results32, go_sem, x0, x1, x2, x3, x4, x5]) rfl ?_)
        exact ⟨⟨none, 0, 0, none, 0, 0, none, 0, 0, none, 0, 0⟩, rfl, r0_read _, (Below.setCell (Below.setCell (Below.setCell (Below.setCell (Below.setCell (Below.setCell BX.out (by simp) _) (by simp) _) (by simp) _) (by simp) _) (by simp) _) (by simp) _)⟩
      · rw [if_pos (by simp)]
        obtain ⟨i0, i1⟩ := inB_iff.1 hIN
        obtain ⟨tk, rfl⟩ := Int.eq_ofNat_of_zero_le i0
        have htk : tk < n := by omega
        have hv := valid_of hV
        have hn5 : n ≤ 5 := by rw [← hln]; exact hv.r.len
        have HRK := Lib.hid (ranks_ok hv.r)
        have HVL := Lib.hid hV; have HVT := Lib.hid hv; have HSP := Lib.hid hSV
        have hsp := supB_iff.1 hSV
        have hgb := critGo_bd hV hSV
        obtain ⟨G, hG⟩ : ∃ G, critGo F L 0 = G := ⟨_, rfl⟩
        rw [hG] at hgb
        have HG0 : Hid (critGo F (L.drop 0) 0 = G) := Lib.hid hG
        have HG9 := Lib.hid hG
        have HPB : Hid (∀ t ∈ L, vpat t.first t.gap t.jit = true ∧ (0 ≤ t.first ∧ t.first ≤ 10000) ∧ (1 ≤ t.gap ∧ t.gap ≤ 10000) ∧ (0 ≤ t.jit ∧ t.jit ≤ 10000)) := Lib.hid (fun t ht => pat_bd hV ht)
        clear hL hN hV hSV hIN hv hG
        go_enter Try.func32, Try.ntmps32
        go_upto_region 4 with (first | (go_at_call 56; (with_reducible refine (valid_is (HL.out.ext (by (repeat' (first | (with_reducible exact Below.refl _ _) | (with_reducible assumption) | (with_reducible refine Below.alloc ?_ ?_ _) | (with_reducible refine Below.drew ?_) | (with_reducible refine Below.draws ?_ _) | (with_reducible refine Below.setCell ?_ ?_ _) | (refine Below.then ?_ (by with_reducible assumption)) | go_size)))) HV.out).mono ?_); rintro e w1 ⟨rfl, hb1⟩; have HS1 : Hid (Sup2 w1 w.heap.size F S) := Lib.hid (Sup2.ext ⟨by simp, by simp, by simp; omega⟩ hb1); have HR1 : Hid (Blk w1 (w.heap.size + 1) #[.slice none 0 0, .int .i64 0, .int .i64 0, .slice none 0 0, .slice none 0 0, .slice none 0 0]) := Lib.hid (Blk.extC (Blk.at _ _ _ _ (by simp)) hb1); have B1 : Hid (Below w.heap.size w w1) := Lib.hid (Below.trans (by (repeat' (first | (with_reducible exact Below.refl _ _) | (with_reducible assumption) | (with_reducible refine Below.alloc ?_ ?_ _) | (with_reducible refine Below.drew ?_) | (with_reducible refine Below.draws ?_ _) | (with_reducible refine Below.setCell ?_ ?_ _) | (refine Below.then ?_ (by with_reducible assumption)) | go_size))) (hb1.mono (by simp; omega))); obtain ⟨s0, s1, sz⟩ := HS1.out; have rz := HR1.out.l; clear hb1) | (go_at_call 57; (with_reducible refine (supV_is HSV.out).mono ?_); rintro e w2 ⟨rfl, hb2⟩; have HS2 := Lib.hid (HS1.out.ext hb2); have HR2 := Lib.hid (HR1.out.extC hb2); have B2 := Lib.hid (Below.then B1.out hb2); clear hb2 s0 s1 sz rz; obtain ⟨s0, s1, sz⟩ := HS2.out; have rz := HR2.out.l) | (go_at_call 59; (with_reducible refine (cwithin_is HIN.out).mono ?_); rintro e wq ⟨rfl, rfl⟩) | (go_at_call 70; (with_reducible refine (schRanks_is (HL.out.ext B2.out) HRK.out).mono ?_); rintro e w3 ⟨ra, rn, rc, rfl, hr3, hb3⟩; have HK3 := Lib.hid (ownsI_rd hr3); have hrc := owns_capC hr3; have HS3 := Lib.hid (HS2.out.ext hb3); have HR3 := Lib.hid (HR2.out.extC hb3); have B3 := Lib.hid (Below.then B2.out hb3); clear hr3 hb3 s0 s1 sz rz; obtain ⟨s0, s1, sz⟩ := HS3.out; have rz := HR3.out.l))
        obtain rfl : rn = n := by rw [← HK3.out.length, rank_len, hln]
        have hF0 : (F == 0) = false := by simp; omega
        go_wp2_with fail
        go_loopw [10, 42] (fun v10 v42 wr => ∃ (k : Nat) (A : Int), k ≤ rn ∧ v10 = .int .i64 A ∧ v42 = .int .i64 k ∧ critGo F (L.drop k) A = G ∧ 0 ≤ A ∧ Below w3.heap.size w3 wr) (fun _ v _ => rn - (intOf v).toNat)
        case atStart => exact ⟨0, 0, Nat.zero_le _, rfl, rfl, HG0.out, Int.le_refl _, Below.refl _ _⟩
        case round =>
          clear HG0
          obtain ⟨k, A, hk, rfl, rfl, hc, hA, hB⟩ := hrel
          have HB := Lib.hid hB
          by_cases hlt : k < rn
          · obtain ⟨t, b, off, pa, pn, pc, rfl, hb, c0, c1, c2, c3, c4, c5, -, -, hLk, HD⟩ := (HL.out.ext (Below.then B3.out hB)).at_ k hlt
            have hpb := (HPB.out t (List.mem_of_getElem? hLk)).2
            rw [critGo_drop HD.out] at hc
            obtain ⟨q, p, e1, e2, e3, q1, q2, q3, q4⟩ := ceilF_parts hsp.1 (x := t.first + t.jit) (by omega)
            rw [e3] at hc
            have hAG : max A p ≤ G := by rw [← hc]; exact critGo_ge _ _ _
            have HC := Lib.hid hc
            obtain ⟨s0, s1, sz⟩ := HS3.out.ext hB
            obtain ⟨pri, dl, f, ga, j, ps⟩ := t
            simp only [] at c0 c1 c2 c3 c4 e1 hpb q3 q4
            clear hB hc hLk HD e3
            have hp0 : 0 ≤ p := by omega
            have hmx : 0 ≤ max A p := by omega
            obtain ⟨M, hM⟩ : ∃ M, max A p = M := ⟨_, rfl⟩
            rw [hM] at HC hAG hmx
            have hkn2 : k + 1 ≤ rn := hlt
            clear hpb
            go_wp2_with (refine wp_region_later_lit (by kernel_rfl) (by kernel_rfl) ?_; (repeat (go_big_quiet_step (fail))); refine wpQuiet_nil ?_; intro w5 hb5)
            exact ⟨⟨k + 1, M, hlt, rfl, by go_num, HC.out, hmx, Below.then HB.out (Below.then (by (repeat' (first | (with_reducible exact Below.refl _ _) | (with_reducible assumption) | (with_reducible refine Below.alloc ?_ ?_ _) | (with_reducible refine Below.drew ?_) | (with_reducible refine Below.draws ?_ _) | (with_reducible refine Below.setCell ?_ ?_ _) | (refine Below.then ?_ (by with_reducible assumption)) | go_size))) hb5)⟩, by simp [intOf]; omega⟩
          · obtain rfl : k = rn := by omega
            have hAG : A = G := by rw [List.drop_of_length_le (by omega)] at hc; exact hc
            subst hAG
            have HS4 := Lib.hid (HS3.out.ext hB); have HR4 := Lib.hid (HR3.out.extC hB); have HK4 := Lib.hid (HK3.out.ext hB); have B4 := Lib.hid (Below.then B3.out hB)
            have HL4 := Lib.hid (HL.out.ext B4.out)
            clear hB hc hk hlt s0 s1 sz rz HB
            obtain ⟨s0, s1, sz⟩ := HS4.out
            have rz := HR4.out.l
            have hmk1 := run_make_row' (P := Try.prog) 26 3 (.int .i64 0) 8 Try.underlying26 (by kernel_rfl) rfl .i64 .i64 k (by omega) (by omega)
            have hmk2 := run_make_row' (P := Try.prog) 25 27 (.slice none 0 0) 24 Try.underlying25 (by kernel_rfl) rfl .i64 .i64 k (by omega) (by omega)
            have hP4 : ∀ t ∈ L, t.pcs.length ≤ 1000 := fun t ht => by have := (HVT.out.r.pcs t ht).2; omega
            have HP4 := Lib.hid hP4
            clear hP4
            have hq01 : w.heap.size < wr.heap.size + 1 := by omega
            have hq02 : w.heap.size < wr.heap.size + 1 + 1 := by omega
            have hq03 : w.heap.size < wr.heap.size + 2 := by omega
            have hq04 : w.heap.size < wr.heap.size + 1 + 1 + 1 := by omega
            have hq05 : w.heap.size < wr.heap.size + 3 := by omega
            go_upto_region 11 with fail
            go_cut [14] (fun v wx => ∃ (p E Bb : Nat) (ta : Option Addr) (tc : Nat) (g : List TaV) (K Z : Nat), v = .pointer (some ⟨p, 0, none⟩) ∧ Blk wx p #[.slice ta k tc, .int .i64 F, .int .i64 S, .slice (some ⟨E, 0, none⟩) k k, .slice (some ⟨Bb, 0, none⟩) k k, .slice none 0 0] ∧ Blk wx E (madeCells #[.slice none 0 0] k) ∧ Blk wx Bb (madeCells #[.int .i64 0] k) ∧ MutT wr.heap.size wx ta k tc g ∧ TkIn K Z ta k tc g ∧ (E < K ∨ Z ≤ E) ∧ g.map TaV.ta = L ∧ (wr.heap.size ≤ p ∧ wr.heap.size ≤ E ∧ wr.heap.size ≤ Bb) ∧ (p ≠ E ∧ p ≠ Bb ∧ E ≠ Bb) ∧ Below wr.heap.size wr wx)
            case first =>
              have hk100 : k ≤ 1000 := by omega
              clear HV HSV HIN i0 i1 htk hn5 HRK HVL HVT HSP hsp hgb HPB HS1 HR1 B1 HS2 HR2 B2 HK3 hrc HS3 HR3 B3 hF0 HS4 HR4 HK4 B4 HL hln wl hn hA
              go_region_held3 (fun w' => w'.cell? ⟨w.heap.size, 0, none⟩ = some (.int .i64 F) ∧ w'.cell? ⟨w.heap.size, 1, none⟩ = some (.int .i64 S)) (first | exact ⟨keep_c (w := wr) (by repeat' (first | (with_reducible exact Below.refl _ _) | (with_reducible assumption) | (with_reducible refine Below.alloc ?_ ?_ _) | (with_reducible refine Below.drew ?_) | (with_reducible refine Below.draws ?_ _) | (with_reducible refine Below.setCell ?_ ?_ _) | (refine Below.then ?_ (Hid.out (by with_reducible assumption))) | (refine Below.then ?_ (by with_reducible assumption)) | go_size)) s0, keep_c (w := wr) (by repeat' (first | (with_reducible exact Below.refl _ _) | (with_reducible assumption) | (with_reducible refine Below.alloc ?_ ?_ _) | (with_reducible refine Below.drew ?_) | (with_reducible refine Below.draws ?_ _) | (with_reducible refine Below.setCell ?_ ?_ _) | (refine Below.then ?_ (Hid.out (by with_reducible assumption))) | (refine Below.then ?_ (by with_reducible assumption)) | go_size)) s1⟩ | go_keep) (first | (go_at_call 71; (with_reducible refine (sclone_M _ _ _ L hk100 HP4.out _ (HL4.out.ext (by (repeat' (first | (with_reducible exact Below.refl _ _) | (with_reducible assumption) | (with_reducible refine Below.alloc ?_ ?_ _) | (with_reducible refine Below.drew ?_) | (with_reducible refine Below.draws ?_ _) | (with_reducible refine Below.setCell ?_ ?_ _) | (refine Below.then ?_ (by with_reducible assumption)) | go_size)))) HN.out).mono ?_); rintro e w5 ⟨ta, tc, g, rfl, hm5, hg5, hb5⟩; have HM5 := Lib.hid hm5; have HG5 := Lib.hid hg5; have HI5 := Lib.hid hm5.in_; have hb5' : Below wr.heap.size wr w5 := Below.trans (by (repeat' (first | (with_reducible exact Below.refl _ _) | (with_reducible assumption) | (with_reducible refine Below.alloc ?_ ?_ _) | (with_reducible refine Below.drew ?_) | (with_reducible refine Below.draws ?_ _) | (with_reducible refine Below.setCell ?_ ?_ _) | (refine Below.then ?_ (by with_reducible assumption)) | go_size))) (hb5.mono (by first | exact Nat.le_refl _ | (simp; try omega))); have HB5 := Lib.hid hb5'; have y0 := (hb5'.cell (p := ⟨w.heap.size, 0, none⟩) sz).trans s0; have y1 := (hb5'.cell (p := ⟨w.heap.size, 1, none⟩) sz).trans s1; have yz := Nat.lt_of_lt_of_le sz hb5'.size; have yz1 : w.heap.size < w5.heap.size + 1 := (by omega); have yz2 : w.heap.size < w5.heap.size + 1 + 1 := (by omega); have yz3 : w.heap.size < w5.heap.size + 1 + 1 + 1 := (by omega); have yw1 : w.heap.size < w5.heap.size + 2 := (by omega); have yw2 : w.heap.size < w5.heap.size + 3 := (by omega); obtain ⟨hc5, hf5, hz5, hr5⟩ := bfacts hb5; (try simp only [World.size_alloc, World.size_setCell, World.size_drew, World.size_drewN] at hz5 hr5); (try have hs5_wr_0 : wr.heap.size < w5.heap.size := by omega); (try have hs5_wr_1 : wr.heap.size + 1 < w5.heap.size := by omega); (try have hs5_wr_2 : wr.heap.size + 1 + 1 < w5.heap.size := by omega); (try have hs5_wr_3 : wr.heap.size + 1 + 1 + 1 < w5.heap.size := by omega); have HB5x := Lib.hid hb5; clear hm5 hg5 hb5'))
              all_goals
                go_wp2_with fail
                go_meet
                have hs5 := HB5x.out.size
                (try simp only [World.size_alloc, World.size_drew] at hs5)
                refine' ⟨_, _, _, _, _, _, _, _, rfl, ?bp, ?be, ?bb, ?mu, HI5.out, ?ap, HG5.out, ?ge, ?ne, ?bw⟩
                case bp => (repeat' (first | (with_reducible refine Blk.at _ _ _ _ ?_; simp only [World.size_alloc, World.size_drew, World.size_setCell]; done) | (with_reducible refine Blk.old ?_ _) | (with_reducible refine Blk.drew ?_) | (with_reducible refine Blk.set6z ?_) | (with_reducible refine Blk.far ?_ ?_ _) | (with_reducible refine Blk.extC ?_ HB5x.out) | (simp only [World.size_alloc, World.size_drew, World.size_setCell]; omega) | omega))
                case be => (repeat' (first | (with_reducible refine Blk.at _ _ _ _ ?_; simp only [World.size_alloc, World.size_drew, World.size_setCell]; done) | (with_reducible refine Blk.old ?_ _) | (with_reducible refine Blk.drew ?_) | (with_reducible refine Blk.set6z ?_) | (with_reducible refine Blk.far ?_ ?_ _) | (with_reducible refine Blk.extC ?_ HB5x.out) | (simp only [World.size_alloc, World.size_drew, World.size_setCell]; omega) | omega))
                case bb => (repeat' (first | (with_reducible refine Blk.at _ _ _ _ ?_; simp only [World.size_alloc, World.size_drew, World.size_setCell]; done) | (with_reducible refine Blk.old ?_ _) | (with_reducible refine Blk.drew ?_) | (with_reducible refine Blk.set6z ?_) | (with_reducible refine Blk.far ?_ ?_ _) | (with_reducible refine Blk.extC ?_ HB5x.out) | (simp only [World.size_alloc, World.size_drew, World.size_setCell]; omega) | omega))
                case mu => (repeat' (first | (with_reducible refine MutT.old ?_ _) | (with_reducible refine MutT.drew ?_) | (with_reducible refine MutT.far ?_ HI5.out ?_ _) | (with_reducible refine MutT.mono HM5.out ?_) | (simp only [World.size_alloc, World.size_drew, World.size_setCell]; omega)))
                case ap => ((try simp only [World.size_alloc, World.size_drew, World.size_setCell]); omega)
                case ge => ((try simp only [World.size_alloc, World.size_drew, World.size_setCell]); omega)
                case ne => ((try simp only [World.size_alloc, World.size_drew, World.size_setCell]); omega)
                case bw => exact (by repeat' (first | (with_reducible exact Below.refl _ _) | (with_reducible assumption) | (with_reducible refine Below.alloc ?_ ?_ _) | (with_reducible refine Below.drew ?_) | (with_reducible refine Below.draws ?_ _) | (with_reducible refine Below.setCell ?_ ?_ _) | (refine Below.then ?_ (Hid.out (by with_reducible assumption))) | (refine Below.then ?_ (by with_reducible assumption)) | go_size))
            case rest =>
              obtain ⟨wo, hwo⟩ : ∃ wo : World, wo = wr := ⟨_, rfl⟩
              subst hwo
              obtain ⟨p, E, Bb, ta, tc, g, K, Z, rfl, kp, kE, kB, hm, hin, hKE, hgL, hge, hne, hbc⟩ := hcut
              have HGL := Lib.hid hgL
              have HS5 := Lib.hid (HS4.out.ext hbc); have HR5 := Lib.hid (HR4.out.extC hbc); have HK5 := Lib.hid (HK4.out.ext hbc)
              obtain ⟨P, hP⟩ : ∃ P : CrP, P = ⟨wo.heap.size, wc.heap.size, p, E, Bb, k, ta, tc, F, S, g, K, Z⟩ := ⟨_, rfl⟩
              have HPF : Hid (CrF P) := Lib.hid (by rw [hP]; exact ⟨⟨hge.1, kp.l⟩, ⟨hge.2.1, kE.l⟩, ⟨hge.2.2, kB.l⟩, ⟨hne.1, fun q => hne.2.2 q.symm⟩, hKE, hin⟩)
              have HM0 : Hid (CrM P wc (fun _ => ⟨none, 0, 0, []⟩)) := Lib.hid (by rw [hP]; exact ⟨kp, kB, EvB.start kE, hm⟩)
              have HPP := Lib.hid hP
              have HBC := Lib.hid hbc
              have hEb : wo.heap.size ≤ E := hge.2.1
              have hpb : wo.heap.size ≤ p := hge.1
              have hEp : E ≠ p := fun q => hne.1 q.symm
              obtain ⟨pp, hpp⟩ : ∃ pp, cnt L (tk : Int) = pp := ⟨_, rfl⟩
              have hrk : (rankL L)[pp]? = some (tk : Int) := by rw [← hpp]; exact rank_at (by omega) (by omega)
              have hppk : pp < k := by have := (List.getElem?_eq_some_iff.1 hrk).1; rw [rank_len, hln] at this; exact this
              have HRKP := Lib.hid hrk
              have HNU := Lib.hid (rank_nodup L)
              have HPQ := Lib.hid hpp
              have hsl : 0 ≤ (pp : Int) ∧ (pp : Int) ≤ rc := by omega
              have HGM : Hid (∀ t ∈ L, t.first + t.jit ≤ A) := Lib.hid (fun t ht => by have := critGo_mem hsp.1.1 L 0 t ht; rw [HG9.out] at this; exact this)
              clear hmk1 hmk2 hq01 hq02 hq03 hq04 hq05 s0 s1 sz rz kp kE kB hm hin hgL hbc hrk hP hge hne hKE hpp
              go_upto_region 13 with (go_at_call 72; (with_reducible refine (indexC_any _ _ _ pp _ _ _ HK5.out HRKP.out HNU.out).mono ?_); rintro e wq ⟨rfl, rfl⟩)
              go_loopw [83] (fun v wr => ∃ (j : Nat) (r : Nat → EvV), j ≤ pp ∧ v = .int .i64 j ∧ CrM P wr r ∧ (∀ i, (r i).es = evU ((rankL L).take j) L A i) ∧ Below wo.heap.size wo wr) (fun v _ => pp - (intOf v).toNat)
              case atStart => exact ⟨0, _, Nat.zero_le _, rfl, HM0.out, fun i => by unfold evU; simp, HBC.out⟩
              case round =>
                clear HM0
                obtain ⟨j, r, hj, rfl, hM, hE, hB⟩ := hrel
                have HM := Lib.hid hM; have HE := Lib.hid hE; have HB := Lib.hid hB
                by_cases hjp : j < pp
                · obtain ⟨x, b1, o1, rfl, hb1, hx1, hx⟩ := (HK4.out.ext hB).idx j (by omega)
                  have hxm := rank_mem.1 (List.mem_of_getElem? hx)
                  obtain ⟨x, rfl⟩ := Int.eq_ofNat_of_zero_le hxm.1
                  have hxk : x < k := by omega
                  obtain ⟨t, b, off, pa, pn, pc, rfl, hb, -, -, c2, c3, c4, -, -, -, hLk, -⟩ := HL4.out.at_ x hxk
                  replace c2 := (hB.cell (p := ⟨b, off + x * 6 + 2, none⟩) hb).trans c2
                  replace c3 := (hB.cell (p := ⟨b, off + x * 6 + 3, none⟩) hb).trans c3
                  replace c4 := (hB.cell (p := ⟨b, off + x * 6 + 4, none⟩) hb).trans c4
                  have hpb2 := HPB.out t (List.mem_of_getElem? hLk)
                  have hge2 := HGM.out t (List.mem_of_getElem? hLk)
                  have htx : taAt L x = t := taAt_of hLk
                  have HX := Lib.hid hx
                  have HTX := Lib.hid htx
                  obtain ⟨pri, dl, f, ga, jt, ps⟩ := t
                  simp only [] at c2 c3 c4 hpb2 hge2
                  obtain ⟨l, hl⟩ : ∃ l, bunchL (max f (A - jt)) ga A 6 = l := ⟨_, rfl⟩
                  have HLL := Lib.hid hl
                  have HV2 := Lib.hid hpb2.1
                  have d3 : wr.cell? ⟨p, 3, none⟩ = some (.slice (some ⟨E, 0, none⟩) k k) := by have := hM.bp.c 3; rw [HPP.out] at this; exact this
                  have dE : wr.cell? ⟨E, x, none⟩ = some (.slice (r x).a (r x).n (r x).c) := by have := hM.ev.be x (by rw [HPP.out]; exact hxk); rw [HPP.out] at this; exact this
                  have dF : wr.frozen? ⟨E, x, none⟩ = false := by have := hM.ev.fe x; rw [HPP.out] at this; exact this
                  have hzE := World.block_lt_of_cell? _ _ dE
                  have hzp := World.block_lt_of_cell? _ _ d3
                  simp only [] at hzE hzp
                  have n1 : E ≠ b := by omega
                  clear hM hE hB hx hLk htx hl hpb2
                  obtain ⟨va, hva⟩ : ∃ v, r x = v := ⟨_, rfl⟩
                  rw [hva] at dE
                  clear hva
                  go_upto_region 15 with fail
                  go_region_held3 (fun w' => w'.cell? ⟨p, 3, none⟩ = some (.slice (some ⟨E, 0, none⟩) k k) ∧ w'.cell? ⟨b, off + x * 6 + 2, none⟩ = some (.int .i64 f) ∧ w'.cell? ⟨b, off + x * 6 + 3, none⟩ = some (.int .i64 ga) ∧ w'.cell? ⟨b, off + x * 6 + 4, none⟩ = some (.int .i64 jt)) (first | go_keep)
                    (first | (go_at_call 73; (with_reducible refine (Bunch_is HV2.out hge2 hgb.2 HLL.out).mono ?_); rintro e w5 ⟨a5, n5, c5, rfl, ho5, hb5⟩; have hb5' : Below wr.heap.size wr w5 := Below.then (Below.refl wr.heap.size wr).drew hb5; have y0 := keep_c hb5' d3; have y2 := keep_c hb5' c2; have y3 := keep_c hb5' c3; have y4 := keep_c hb5' c4; have yE := keep_c hb5' dE; have yF := (hb5'.frozen (p := ⟨E, x, none⟩) hzE).trans dF; have HB5 := Lib.hid hb5'; have HO5 : Hid (w5.ownsRow wr.heap.size 44 2 (.slice a5 n5 c5) n5 (l.flatMap enc2)) := Lib.hid ho5; clear ho5 hb5 hb5'))
                  all_goals
                    go_wp2_with fail
                    go_roundw
                    case rel =>
                      have hM5 := HM.out.ext HB5.out
                      have hz5 := HM.out.ev.z
                      have hEw := HB.out
                      have hs := hM5.set HPF.out (i := x) (by rw [HPP.out]; exact hxk) ⟨a5, n5, c5, l⟩ (owns_mono HO5.out hz5)
                      refine ⟨j + 1, _, hjp, by go_num, (by rw [HPP.out] at hs ⊢; exact hs), fun i => ?_, ?_⟩
                      · rw [evU_step HX.out, HTX.out]
                        by_cases q : i = x
                        · rw [if_pos q, if_pos q]; exact HLL.out.symm
                        · rw [if_neg q, if_neg q]; exact HE.out i
                      · exact (Below.then HB.out HB5.out).setCell (p := ⟨E, x, none⟩) hEb _
                    case measure => simp [intOf]; omega
                · obtain rfl : j = pp := by omega
                  obtain ⟨t, b, off, pa, pn, pc, rfl, hb, -, -, -, -, c4, -, -, -, hLk, -⟩ := HL4.out.at_ tk htk
                  replace c4 := (hB.cell (p := ⟨b, off + tk * 6 + 4, none⟩) hb).trans c4
                  have hpb2 := HPB.out t (List.mem_of_getElem? hLk)
                  have hge2 := HGM.out t (List.mem_of_getElem? hLk)
                  have htx : taAt L tk = t := taAt_of hLk
                  have HTX := Lib.hid htx
                  obtain ⟨pri, dl, f, ga, jt, ps⟩ := t
                  simp only [] at c4 hpb2 hge2
                  have hsub : 0 ≤ A - jt ∧ A - jt ≤ 500000 := by omega
                  have d3 : wr.cell? ⟨p, 3, none⟩ = some (.slice (some ⟨E, 0, none⟩) k k) := by have := hM.bp.c 3; rw [HPP.out] at this; exact this
                  have dE : wr.cell? ⟨E, tk, none⟩ = some (.slice (r tk).a (r tk).n (r tk).c) := by have := hM.ev.be tk (by rw [HPP.out]; exact htk); rw [HPP.out] at this; exact this
                  have dF : wr.frozen? ⟨E, tk, none⟩ = false := by have := hM.ev.fe tk; rw [HPP.out] at this; exact this
                  have hzE := World.block_lt_of_cell? _ _ dE
                  have hzp := World.block_lt_of_cell? _ _ d3
                  simp only [] at hzE hzp
                  have n1 : E ≠ b := by omega
                  obtain ⟨va, hva⟩ : ∃ v, r tk = v := ⟨_, rfl⟩
                  rw [hva] at dE
                  have HRW := Lib.hid (HR4.out.extC hB)
                  clear hM hE hB hLk htx hpb2 hva
                  go_upto_region 19 with fail
                  obtain ⟨w9, hw9⟩ : ∃ x, x = (wr.setCell ⟨E, tk, none⟩ (.slice (some ⟨wr.heap.size, 0, none⟩) 1 1)).alloc (.cells #[.int .i64 (A - jt), .int .i64 jt] 44) := ⟨_, rfl⟩
                  have hM9 : CrM P w9 (fun q => if q = tk then ⟨some ⟨wr.heap.size, 0, none⟩, 1, 1, [(A - jt, jt)]⟩ else r q) := by
                    have h1 := (HM.out.ext (Below.alloc (Below.refl _ _) (Nat.le_refl _) (.cells #[.int .i64 (A - jt), .int .i64 jt] 44))).set HPF.out (i := tk) (by rw [HPP.out]; exact htk) ⟨some ⟨wr.heap.size, 0, none⟩, 1, 1, [(A - jt, jt)]⟩ (owns_mono (one_ev wr (A - jt) jt) HM.out.ev.z)
                    rw [hw9, ← World.setCell_alloc_past _ _ _ _ hzE]
                    have e : P.E = E := by rw [HPP.out]
                    rw [e] at h1
                    exact h1
                  have hR9 : Blk w9 (w.heap.size + 1) #[.slice none 0 0, .int .i64 0, .int .i64 0, .slice none 0 0, .slice none 0 0, .slice none 0 0] := by rw [hw9]; exact (HRW.out.far (by have := HR4.out.l; omega) _).old _
                  have hB9 : Below wo.heap.size wo w9 := by rw [hw9]; exact Below.alloc (HB.out.setCell (p := ⟨E, tk, none⟩) hEb _) (by simpa using HB.out.size) _
                  rw [← hw9]
                  have HM9 := Lib.hid hM9; have HRX := Lib.hid hR9; have HB9 := Lib.hid hB9
                  have hbp := hM9.bp
                  rw [HPP.out] at hbp
                  have p0 := hbp.c 0; have p1 := hbp.c 1; have p2 := hbp.c 2; have p3 := hbp.c 3; have p4 := hbp.c 4; have p5 := hbp.c 5
                  simp at p0 p1 p2 p3 p4 p5
                  clear hw9 hM9 hR9 hB9 hbp d3 dE dF hzE hzp c4
                  have x0 := HRX.out.c 0; have x1 := HRX.out.c 1; have x2 := HRX.out.c 2; have x3 := HRX.out.c 3; have x4 := HRX.out.c 4; have x5 := HRX.out.c 5; simp at x0 x1 x2 x3 x4 x5; have f0 := HRX.out.f 0; have f1 := HRX.out.f 1; have f2 := HRX.out.f 2; have f3 := HRX.out.f 3; have f4 := HRX.out.f 4; have f5 := HRX.out.f 5
                  have rz4 : w.heap.size + 1 < wo.heap.size := HR4.out.l
                  go_wp2
                  refine bodyPost_ret (v := .tuple #[.agg #[.slice ta k tc, .int .i64 F, .int .i64 S, .slice (some ⟨E, 0, none⟩) k k, .slice (some ⟨Bb, 0, none⟩) k k, .slice none 0 0], .int .i64 0]) (by simp [results, Try.results32, go_sem, x0, x1, x2, x3, x4, x5]) rfl ?_
                  refine ⟨⟨ta, k, tc, some ⟨E, 0, none⟩, k, k, some ⟨Bb, 0, none⟩, k, k, none, 0, 0⟩, rfl, ?_, ?_⟩
                  · have hq : w.heap.size + 1 < P.B0 := by rw [HPP.out]; exact rz4
                    have hL2 := HGL.out
                    have h9 := (((((HM9.out.far HPF.out (q := w.heap.size + 1) (i := 0) hq (.slice ta k tc)).far HPF.out (i := 1) hq (.int .i64 F)).far HPF.out (i := 2) hq (.int .i64 S)).far HPF.out (i := 3) hq (.slice (some ⟨E, 0, none⟩) k k)).far HPF.out (i := 4) hq (.slice (some ⟨Bb, 0, none⟩) k k)).far HPF.out (i := 5) hq (.slice none 0 0)
                    have h10 := h9.run (L := L) (EV := critL L F (tk : Int)) (by rw [HPP.out]; show k ≤ 1000; omega) (by rw [HPP.out]; exact hL2) (by rw [HPP.out]; exact hln) (by
                      rw [HPP.out]
                      unfold critL
                      rw [hln, HPQ.out, HG9.out, Int.toNat_natCast]
                      refine List.map_congr_left (fun i _ => ?_)
                      rw [critEv_of, HTX.out]
                      by_cases q : i = tk
                      · rw [if_pos q, if_pos q]
                      · rw [if_neg q, if_neg q]; exact (HE.out i).symm)
                    rw [HPP.out] at h10
                    exact h10
                  · have hb := Below.then B4.out HB9.out
                    exact Below.setCell (Below.setCell (Below.setCell (Below.setCell (Below.setCell (Below.setCell hb (by simp) _) (by simp) _) (by simp) _) (by simp) _) (by simp) _) (by simp) _
end Go.Proofs.Ytlhnhmimhpcoaaa
