/- The contracts of Timer and Timed of the reference. No condition. -/
import Derived.Test.YtfiggbeaomkepaaTmTimer
import Derived.Test.YtfiggbeaomkepaaIrow
namespace Go.Proofs.Ytfiggbeaomkepaa
open Go.RowKit
set_option linter.unusedSimpArgs false
set_option linter.unusedVariables false
theorem floor2_any (a b : Int) (w : World) (h1 : -4000000000000 ≤ a) (h2 : a ≤ 4000000000000) (hb : 1 ≤ b) : Calls Try.prog 75 #[.int .i64 a, .int .i64 b] w fun e w' => e = .returned (.int .i64 (a / b)) ∧ w = w' := by
  obtain ⟨k1, k2⟩ := tdiv_bd hb (m := 4000000000000) (by omega) (by omega) h2
  by_cases hm : a.tmod b < 0
  · have hq := Lib.hid (floor_pos hb hm)
    go_enter Try.func75, Try.ntmps75
    go_wp2
    go_ret
    exact ⟨ret_int hq.out, rfl⟩
  · have hq := Lib.hid (floor_neg hb hm)
    go_enter Try.func75, Try.ntmps75
    go_wp2
    go_ret
    exact ⟨ret_int hq.out, rfl⟩
theorem above_any (o n : Int) (w : World) (ho : -1000000 ≤ o ∧ o ≤ 1000000) (hn : 1 ≤ n ∧ n ≤ 10000) : Calls Try.prog 57 #[.int .i64 o, .int .i64 n] w fun e w' => e = .returned (.int .i64 (rdT o n 0)) ∧ w = w' := by
  have hb := ediv_bd (a := o) (b := n) (m := 1000000) (by omega) (by omega) (by omega) (by omega)
  have e0 := Int.emod_add_mul_ediv o n
  have e1 := Int.emod_nonneg o (show n ≠ 0 by omega)
  have e2 := Int.emod_lt_of_pos o (show 0 < n by omega)
  have hq : o / n * n + n = rdT o n 0 := by unfold rdT baseT; rw [Int.add_mul]; simp
  rw [Int.mul_comm n (o / n)] at e0
  have HF := Lib.hid (fun w1 => floor2_any o n w1 (by omega) (by omega) (by omega))
  have HQ := Lib.hid hq
  have b1 : -2000000 ≤ o / n * n ∧ o / n * n ≤ 2000000 := by omega
  clear hq e0 e1 e2
  go_enter Try.func57, Try.ntmps57
  go_wp2_with (go_at_call 75; (with_reducible refine (HF.out _).mono ?_); rintro e w1 ⟨rfl, rfl⟩)
  go_ret
  exact ⟨ret_int HQ.out, rfl⟩
theorem above_is {o n x : Int} {w : World} (h : rdT o n 0 = x) (ho : -1000000 ≤ o ∧ o ≤ 1000000) (hn : 1 ≤ n ∧ n ≤ 10000) : Calls Try.prog 57 #[.int .i64 o, .int .i64 n] w fun e w' => e = .returned (.int .i64 x) ∧ w = w' := by subst h; exact above_any o n w ho hn
theorem reached_is {o a d n x : Int} {k : Nat} (h : TmOk o a d n) (hl : (preT o a d n k).length ≤ 40) (hx : atT o a d n k = x) (w : World) :
    Calls Try.prog 51 #[.agg #[.int .i64 o, .int .i64 a, .int .i64 d], .int .i64 (rdT o n k)] w fun e w' => e = .returned (.int .i64 x) ∧ Below w.heap.size w w' := by
  subst hx
  have := h.bound hl
  exact reached_any o a d (rdT o n k) w h.v (by omega) (by omega)
theorem rvclk_is {o a d : Int} {x : Bool} {w : World} (h : vclk o a d = x) : Calls Try.prog 22 #[.agg #[.int .i64 o, .int .i64 a, .int .i64 d]] w fun e w' => e = .returned (.bool x) ∧ Below w.heap.size w w' := by subst h; exact rvalidClock_any o a d w
theorem rin_is {n a b : Int} {x : Bool} {w : World} (h : inB n a b = x) : Calls Try.prog 49 #[.int .i64 n, .int .i64 a, .int .i64 b] w fun e w' => e = .returned (.bool x) ∧ w = w' := by subst h; exact in_any n a b w
set_option maxRecDepth 100000 in
set_option maxHeartbeats 4000000 in
theorem rTimer_any (o a d n u : Int) (w : World) : Calls Try.prog 39 #[.agg #[.int .i64 o, .int .i64 a, .int .i64 d], .int .i64 n, .int .i64 u] w (OutTm w.heap.size w (if tmC o a d n u = true then tmR o a d n u else []) (if tmC o a d n u = true then 0 else 1)) := by
  obtain ⟨V, hV⟩ : ∃ V, vclk o a d = V := ⟨_, rfl⟩
  have HV := Lib.hid hV
  obtain ⟨N, hN⟩ : ∃ N, inB n 1 10000 = N := ⟨_, rfl⟩
  have HN := Lib.hid hN
  obtain ⟨U, hU⟩ : ∃ U, inB u 0 1000000 = U := ⟨_, rfl⟩
  have HU := Lib.hid hU
  have hC : tmC o a d n u = (V && (N && U)) := by unfold tmC; rw [hV, hN, hU]
  rw [hC]
  clear hC
  cases V
  · rw [Bool.false_and, if_neg (by simp), if_neg (by simp)]
    clear hV hN hU
    go_enter Try.func39, Try.ntmps39
    go_wp2_with (go_at_call 22; (with_reducible refine (rvclk_is HV.out).mono ?_); rintro e w1 ⟨rfl, hb1⟩; have HB1 := Lib.hid ((Box3.new w o a d 30).ext hb1); have B1 : Hid (Below w.heap.size w w1) := Lib.hid (Below.trans (by (repeat' (first | (with_reducible exact Below.refl _ _) | (with_reducible assumption) | (with_reducible refine Below.alloc ?_ ?_ _) | (with_reducible refine Below.drew ?_) | (with_reducible refine Below.draws ?_ _) | (with_reducible refine Below.setCell ?_ ?_ _) | (refine Below.then ?_ (by with_reducible assumption)) | go_size))) (hb1.mono (by simp))); clear hb1; obtain ⟨x0, x1, x2, _, _, _, xz⟩ := HB1.out)
    go_ret2
    exact ⟨none, 0, 0, rfl, World.ownsRow_nil _ _ _ _, B1.out⟩
  · cases N
    · rw [Bool.false_and, Bool.and_false, if_neg (by simp), if_neg (by simp)]
      clear hV hN hU
      go_enter Try.func39, Try.ntmps39
      go_wp2_with (first | (go_at_call 22; (with_reducible refine (rvclk_is HV.out).mono ?_); rintro e w1 ⟨rfl, hb1⟩; have HB1 := Lib.hid ((Box3.new w o a d 30).ext hb1); have B1 : Hid (Below w.heap.size w w1) := Lib.hid (Below.trans (by (repeat' (first | (with_reducible exact Below.refl _ _) | (with_reducible assumption) | (with_reducible refine Below.alloc ?_ ?_ _) | (with_reducible refine Below.drew ?_) | (with_reducible refine Below.draws ?_ _) | (with_reducible refine Below.setCell ?_ ?_ _) | (refine Below.then ?_ (by with_reducible assumption)) | go_size))) (hb1.mono (by simp))); clear hb1; obtain ⟨x0, x1, x2, _, _, _, xz⟩ := HB1.out) | (go_at_call 49; (with_reducible refine (rin_is HN.out).mono ?_); rintro e w2 ⟨rfl, rfl⟩))
      go_ret2
      exact ⟨none, 0, 0, rfl, World.ownsRow_nil _ _ _ _, B1.out⟩
    · cases U
      · rw [Bool.and_false, Bool.and_false, if_neg (by simp), if_neg (by simp)]
        clear hV hN hU
        go_enter Try.func39, Try.ntmps39
        go_wp2_with (first | (go_at_call 22; (with_reducible refine (rvclk_is HV.out).mono ?_); rintro e w1 ⟨rfl, hb1⟩; have HB1 := Lib.hid ((Box3.new w o a d 30).ext hb1); have B1 : Hid (Below w.heap.size w w1) := Lib.hid (Below.trans (by (repeat' (first | (with_reducible exact Below.refl _ _) | (with_reducible assumption) | (with_reducible refine Below.alloc ?_ ?_ _) | (with_reducible refine Below.drew ?_) | (with_reducible refine Below.draws ?_ _) | (with_reducible refine Below.setCell ?_ ?_ _) | (refine Below.then ?_ (by with_reducible assumption)) | go_size))) (hb1.mono (by simp))); clear hb1; obtain ⟨x0, x1, x2, _, _, _, xz⟩ := HB1.out) | (go_at_call 49; (with_reducible refine (rin_is HN.out).mono ?_); rintro e w2 ⟨rfl, rfl⟩) | (go_at_call 49; (with_reducible refine (rin_is HU.out).mono ?_); rintro e w2 ⟨rfl, rfl⟩))
        go_ret2
        exact ⟨none, 0, 0, rfl, World.ownsRow_nil _ _ _ _, B1.out⟩
      · have hok : TmOk o a d n := ⟨hV, inB_iff.1 hN⟩
        have HOK := Lib.hid hok
        obtain ⟨vo, va, vd⟩ := vclk_iff.1 hV
        have hn := hok.n
        have hub := inB_iff.1 hU
        obtain ⟨r0, hr0⟩ : ∃ r, rdT o n 0 = r := ⟨_, rfl⟩
        have HR0 := Lib.hid hr0
        rw [Bool.true_and, Bool.true_and, if_pos rfl, if_pos rfl]
        obtain ⟨T, hT⟩ : ∃ T, tmR o a d n u = T := ⟨_, rfl⟩
        have HT := Lib.hid hT
        rw [hT]
        clear hV hN hU hok hr0 hT
        go_enter Try.func39, Try.ntmps39
        go_wp2_with (first | (go_at_call 22; (with_reducible refine (rvclk_is HV.out).mono ?_); rintro e w1 ⟨rfl, hb1⟩; have HB1 := Lib.hid ((Box3.new w o a d 30).ext hb1); have B1 : Hid (Below w.heap.size w w1) := Lib.hid (Below.trans (by (repeat' (first | (with_reducible exact Below.refl _ _) | (with_reducible assumption) | (with_reducible refine Below.alloc ?_ ?_ _) | (with_reducible refine Below.drew ?_) | (with_reducible refine Below.draws ?_ _) | (with_reducible refine Below.setCell ?_ ?_ _) | (refine Below.then ?_ (by with_reducible assumption)) | go_size))) (hb1.mono (by simp))); clear hb1; obtain ⟨x0, x1, x2, _, _, _, xz⟩ := HB1.out) | (go_at_call 49; (with_reducible refine (rin_is HN.out).mono ?_); rintro e w2 ⟨rfl, rfl⟩) | (go_at_call 49; (with_reducible refine (rin_is HU.out).mono ?_); rintro e w2 ⟨rfl, rfl⟩) | (go_at_call 57; (with_reducible refine (above_is HR0.out vo hn).mono ?_); rintro e w3 ⟨rfl, rfl⟩))
        go_loopw [8, 9] (fun v8 v9 wr => ∃ (k : Nat) (va : Option Addr) (vc : Nat), v8 = .slice va (preT o a d n k).length vc ∧ v9 = .int .i64 (rdT o n k) ∧ wr.ownsRow w1.heap.size 3 1 (.slice va (preT o a d n k).length vc) (preT o a d n k).length ((preT o a d n k).flatMap enc1) ∧ (preT o a d n k).length ≤ 40 ∧ (∀ x ∈ preT o a d n k, x ≤ u) ∧ Below w1.heap.size w1 wr) (fun _ v _ => (2000000 - intOf v).toNat)
        case atStart => exact ⟨0, none, 0, rfl, by rw [HR0.out], World.ownsRow_nil _ _ _ _, by simp [preT], fun x hx => (by cases hx), Below.refl _ _⟩
        case round =>
          obtain ⟨k, va', vc, rfl, rfl, hO, hlen, hle, hB⟩ := hrel
          have HO := Lib.hid hO; have HB := Lib.hid hB; have HLE := Lib.hid hle
          have hbd := HOK.out.bound hlen
          obtain ⟨L, hL⟩ : ∃ L, preT o a d n k = L := ⟨_, rfl⟩
          obtain ⟨x, hx⟩ : ∃ x, atT o a d n k = x := ⟨_, rfl⟩
          have HX := Lib.hid hx; have HL := Lib.hid hL
          have HWH := Lib.hid (fun w1 => reached_is HOK.out hlen hx w1)
          have hsc := rdT_succ (o := o) (n := n) k
          obtain ⟨rd, hrd⟩ : ∃ r, rdT o n k = r := ⟨_, rfl⟩
          rw [hL] at HO hlen HLE ⊢
          rw [hrd] at HWH hbd hsc ⊢
          have HSC := Lib.hid hsc; have HRD := Lib.hid hrd
          have wsc : IntKind.i64.wrap (rd + n) = rd + n := IntWalk.i64_in _ (by omega)
          have HB1 := Lib.hid (HB1.out.ext hB)
          have hzB := hB.size
          clear x0 x1 x2 xz hO hB hle hL hx hrd hsc
          obtain ⟨x0, x1, x2, _, _, _, xz⟩ := HB1.out
          by_cases h40 : L.length = 40
          · have htm : T = L := by rw [← HT.out]; exact tmR_is HOK.out ⟨HLE.out, hlen, k, HL.out.symm, .inl h40⟩
            have HTM := Lib.hid htm
            have d1 : decide ((L.length : Int) < 40) = false := by simp; omega
            clear htm
            go_wp2
            go_ret2
            exact ⟨_, _, _, rfl, by rw [HTM.out]; exact owns_mono HO.out B1.out.size, B1.out.trans (HB.out.mono B1.out.size)⟩
          · have d1 : decide ((L.length : Int) < 40) = true := by simp; omega
            by_cases hux : u < x
            · have htm : T = L := by rw [← HT.out]; exact tmR_is HOK.out ⟨HLE.out, hlen, k, HL.out.symm, .inr (by rw [HX.out]; exact hux)⟩
              have HTM := Lib.hid htm
              have d2 : decide (u < x) = true := by simpa using hux
              clear htm
              go_wp2_with (go_at_call 51; (with_reducible refine (HWH.out _).mono ?_); rintro e w3 ⟨rfl, hb3⟩)
              go_ret2
              exact ⟨_, _, _, rfl, by rw [HTM.out]; exact owns_ext (owns_mono HO.out B1.out.size) hb3, Below.then (B1.out.trans (HB.out.mono B1.out.size)) hb3⟩
            · have d2 : decide (u < x) = false := by simpa using hux
              by_cases hl0 : L.length = 0
              · have d3 : ((L.length : Int) == 0) = true := by rw [hl0]; rfl
                have hk0 : k = 0 := (HOK.out.list k).2 (by rw [HL.out]; exact List.length_eq_zero_iff.1 hl0)
                have hnw : preT o a d n (k + 1) = L ++ [x] := by
                  rw [preT_new (by have := HOK.out.pos k; subst hk0; show atT o a d n 0 ≠ -1; omega), HL.out, HX.out]
                have HNW := Lib.hid hnw
                obtain rfl : L = [] := List.length_eq_zero_iff.1 hl0
                simp only [List.length_nil] at HO ⊢
                clear hnw hk0 hl0 h40 d1 d3 hlen
                have d1 : decide (((0 : Nat) : Int) < 40) = true := rfl
                have e1 := E1
                go_wp2_with (first | (go_at_call 51; (with_reducible refine (HWH.out _).mono ?_); rintro e w3 ⟨rfl, hb3⟩; have HO3 := Lib.hid (owns_ext HO.out hb3); have hz3 : w1.heap.size ≤ w3.heap.size := (by have := hb3.size; omega); have B3 := Lib.hid hb3; clear hb3) | (at_builtin; refine wpList_push (B := w1.heap.size) rfl _ _ _ rfl e1 rfl HO3.out rfl rfl (by intro u hu; simp at hu; rcases hu with rfl; rfl) (by omega) (by decide) (by omega) ?_; intro a2 c2 w2 hown2 hb2; have HO2 := Lib.hid (ownsI_snoc hown2); have HB2 := Lib.hid hb2; clear hown2 hb2))
                go_roundw
                case rel => exact ⟨k + 1, a2, c2, by rw [HNW.out]; simp, by rw [HSC.out], by rw [HNW.out]; simpa using HO2.out, by rw [HNW.out]; simp, fun y hy => by rw [HNW.out] at hy; simp at hy; omega, (HB.out.trans (B3.out.mono hzB)).trans HB2.out⟩
                case measure => simp [intOf]; omega
              · have d3 : ((L.length : Int) == 0) = false := by simp only [beq_eq_false_iff_ne]; omega
                have hll := HOK.out.list k
                have hlast := hll.1.ne (by rw [HL.out]; intro q; rw [q] at hl0; exact hl0 rfl)
                rw [HL.out] at hlast
                have hm := List.mem_of_getElem? hlast
                obtain ⟨z, zb, zo, he, hzb, hzc, hzx⟩ := (ownsI_rd HO.out).idx (L.length - 1) (by omega)
                obtain rfl := he
                have hzl : lastT o a d n k = z := by rw [hzx] at hlast; simpa using hlast.symm
                have HZL := Lib.hid hzl
                obtain ⟨M, hM⟩ : ∃ M, L.length - 1 = M := ⟨_, rfl⟩
                rw [hM] at hzc
                have wl : IntKind.i64.wrap ((L.length : Int) - 1) = (M : Int) := by rw [IntWalk.i64_in _ (by omega)]; omega
                have hil : M < L.length := by omega
                clear hll hlast hm hzx hzl hM
                by_cases hzx' : z = x
                · have d4 : (z != x) = false := by simpa using hzx'
                  have hnw : preT o a d n (k + 1) = L := by rw [preT_same (by rw [HX.out, HZL.out]; exact hzx'.symm), HL.out]
                  have HNW := Lib.hid hnw
                  clear hnw
                  go_wp2_with (first | (go_at_call 51; (with_reducible refine (HWH.out _).mono ?_); rintro e w3 ⟨rfl, hb3⟩; have HO3 := Lib.hid (owns_ext HO.out hb3); have hz3 : w1.heap.size ≤ w3.heap.size := (by have := hb3.size; omega); have B3 := Lib.hid hb3; have hzc3 := (hb3.cell (p := ⟨zb, zo + M, none⟩) hzb).trans hzc; have hzb3 := Nat.lt_of_lt_of_le hzb hb3.size; clear hb3) | (at_builtin; refine wpList_push (B := w1.heap.size) rfl _ _ _ rfl e1 rfl HO3.out rfl rfl (by intro u hu; simp at hu; rcases hu with rfl; rfl) (by omega) (by decide) (by omega) ?_; intro a2 c2 w2 hown2 hb2; have HO2 := Lib.hid (ownsI_snoc hown2); have HB2 := Lib.hid hb2; clear hown2 hb2))
                  go_roundw
                  case rel => exact ⟨k + 1, _, _, by rw [HNW.out], by rw [HSC.out], by rw [HNW.out]; exact HO3.out, by rw [HNW.out]; exact hlen, by rw [HNW.out]; exact HLE.out, Below.then HB.out B3.out⟩
                  case measure => simp [intOf]; omega
                · have d4 : (z != x) = true := by simpa using hzx'
                  have hnw : preT o a d n (k + 1) = L ++ [x] := by rw [preT_new (by rw [HX.out, HZL.out]; exact fun q => hzx' q.symm), HL.out, HX.out]
                  have HNW := Lib.hid hnw
                  clear hnw
                  have e1 := E1
                  go_wp2_with (first | (go_at_call 51; (with_reducible refine (HWH.out _).mono ?_); rintro e w3 ⟨rfl, hb3⟩; have HO3 := Lib.hid (owns_ext HO.out hb3); have hz3 : w1.heap.size ≤ w3.heap.size := (by have := hb3.size; omega); have B3 := Lib.hid hb3; have hzc3 := (hb3.cell (p := ⟨zb, zo + M, none⟩) hzb).trans hzc; have hzb3 := Nat.lt_of_lt_of_le hzb hb3.size; clear hb3) | (at_builtin; refine wpList_push (B := w1.heap.size) rfl _ _ _ rfl e1 rfl HO3.out rfl rfl (by intro u hu; simp at hu; rcases hu with rfl; rfl) (by omega) (by decide) (by omega) ?_; intro a2 c2 w2 hown2 hb2; have HO2 := Lib.hid (ownsI_snoc hown2); have HB2 := Lib.hid hb2; clear hown2 hb2))
                  go_roundw
                  case rel => exact ⟨k + 1, a2, c2, by rw [HNW.out]; simp, by rw [HSC.out], by rw [HNW.out]; simpa using HO2.out, by rw [HNW.out]; simp; omega, fun y hy => by rw [HNW.out] at hy; rcases List.mem_append.1 hy with hy | hy; exact HLE.out y hy; simp at hy; omega, (HB.out.trans (B3.out.mono hzB)).trans HB2.out⟩
                  case measure => simp [intOf]; omega
set_option maxRecDepth 100000 in
set_option maxHeartbeats 4000000 in
theorem rTimed_any (o a d n : Int) (w : World) : Calls Try.prog 41 #[.agg #[.int .i64 o, .int .i64 a, .int .i64 d], .int .i64 n] w fun e w' => e = rTd (timedR o a d n) ∧ Below w.heap.size w w' := by
  obtain ⟨V, hV⟩ : ∃ V, vclk o a d = V := ⟨_, rfl⟩
  have HV := Lib.hid hV
  obtain ⟨N, hN⟩ : ∃ N, inB n 1 10000 = N := ⟨_, rfl⟩
  have HN := Lib.hid hN
  obtain ⟨R, hR⟩ : ∃ R, timedR o a d n = R := ⟨_, rfl⟩
  rw [hR]
  unfold timedR at hR
  rw [hV, hN] at hR
  cases V
  · have HR : Hid (R = (0, 0, 1)) := Lib.hid hR.symm
    clear hV hN hR
    go_enter Try.func41, Try.ntmps41
    go_wp2_with (go_at_call 22; (with_reducible refine (rvclk_is HV.out).mono ?_); rintro e w1 ⟨rfl, hb1⟩; have HB1 := Lib.hid (((Box3.new w o a d 30).ext (Below.alloc (Below.refl _ _) (Nat.le_refl _) _)).ext hb1); have HB2 := Lib.hid ((Box3.new (w.alloc (.cells #[.int .i64 o, .int .i64 a, .int .i64 d] 30)) 0 0 0 23).ext hb1); rw [World.size_alloc] at HB2; have B1 : Hid (Below w.heap.size w w1) := Lib.hid (Below.trans (by (repeat' (first | (with_reducible exact Below.refl _ _) | (with_reducible assumption) | (with_reducible refine Below.alloc ?_ ?_ _) | (with_reducible refine Below.drew ?_) | (with_reducible refine Below.draws ?_ _) | (with_reducible refine Below.setCell ?_ ?_ _) | (refine Below.then ?_ (by with_reducible assumption)) | go_size))) (hb1.mono (by simp; omega))); clear hb1; obtain ⟨x0, x1, x2, _, _, _, xz⟩ := HB1.out; obtain ⟨y0, y1, y2, yf0, yf1, yf2, yz⟩ := HB2.out)
    (have H3 := Lib.hid (set3 HB2.out 0 0 0); obtain ⟨W, hW⟩ : ∃ x, x = (((w1.setCell ⟨w.heap.size + 1, 0, none⟩ (.int .i64 0)).setCell ⟨w.heap.size + 1, 1, none⟩ (.int .i64 0)).setCell ⟨w.heap.size + 1, 2, none⟩ (.int .i64 0)) := ⟨_, rfl⟩; have hBW : Below w.heap.size w W := (by rw [hW]; exact ((B1.out.setCell (p := ⟨w.heap.size + 1, 0, none⟩) (by simp) _).setCell (p := ⟨w.heap.size + 1, 1, none⟩) (by simp) _).setCell (p := ⟨w.heap.size + 1, 2, none⟩) (by simp) _); rw [← hW] at H3 ⊢; obtain ⟨z0, z1, z2, _, _, _, zz⟩ := H3.out; refine bodyPost_ret (v := .tuple #[.agg #[.int .i64 0, .int .i64 0, .int .i64 0], .int .i64 1]) (by simp [results, Try.results41, go_sem, z0, z1, z2]) rfl ⟨by rw [HR.out]; rfl, hBW⟩)
  · cases N
    · have HR : Hid (R = (0, 0, 1)) := Lib.hid hR.symm
      clear hV hN hR
      go_enter Try.func41, Try.ntmps41
      go_wp2_with (first | (go_at_call 22; (with_reducible refine (rvclk_is HV.out).mono ?_); rintro e w1 ⟨rfl, hb1⟩; have HB1 := Lib.hid (((Box3.new w o a d 30).ext (Below.alloc (Below.refl _ _) (Nat.le_refl _) _)).ext hb1); have HB2 := Lib.hid ((Box3.new (w.alloc (.cells #[.int .i64 o, .int .i64 a, .int .i64 d] 30)) 0 0 0 23).ext hb1); rw [World.size_alloc] at HB2; have B1 : Hid (Below w.heap.size w w1) := Lib.hid (Below.trans (by (repeat' (first | (with_reducible exact Below.refl _ _) | (with_reducible assumption) | (with_reducible refine Below.alloc ?_ ?_ _) | (with_reducible refine Below.drew ?_) | (with_reducible refine Below.draws ?_ _) | (with_reducible refine Below.setCell ?_ ?_ _) | (refine Below.then ?_ (by with_reducible assumption)) | go_size))) (hb1.mono (by simp; omega))); clear hb1; obtain ⟨x0, x1, x2, _, _, _, xz⟩ := HB1.out; obtain ⟨y0, y1, y2, yf0, yf1, yf2, yz⟩ := HB2.out) | (go_at_call 49; (with_reducible refine (rin_is HN.out).mono ?_); rintro e w2 ⟨rfl, rfl⟩))
      (have H3 := Lib.hid (set3 HB2.out 0 0 0); obtain ⟨W, hW⟩ : ∃ x, x = (((w1.setCell ⟨w.heap.size + 1, 0, none⟩ (.int .i64 0)).setCell ⟨w.heap.size + 1, 1, none⟩ (.int .i64 0)).setCell ⟨w.heap.size + 1, 2, none⟩ (.int .i64 0)) := ⟨_, rfl⟩; have hBW : Below w.heap.size w W := (by rw [hW]; exact ((B1.out.setCell (p := ⟨w.heap.size + 1, 0, none⟩) (by simp) _).setCell (p := ⟨w.heap.size + 1, 1, none⟩) (by simp) _).setCell (p := ⟨w.heap.size + 1, 2, none⟩) (by simp) _); rw [← hW] at H3 ⊢; obtain ⟨z0, z1, z2, _, _, _, zz⟩ := H3.out; refine bodyPost_ret (v := .tuple #[.agg #[.int .i64 0, .int .i64 0, .int .i64 0], .int .i64 1]) (by simp [results, Try.results41, go_sem, z0, z1, z2]) rfl ⟨by rw [HR.out]; rfl, hBW⟩)
    · have hok : TmOk o a d n := ⟨hV, inB_iff.1 hN⟩
      have HOK := Lib.hid hok
      obtain ⟨vo, va, vd⟩ := vclk_iff.1 hV
      have hn := hok.n
      rw [Bool.and_self, if_pos rfl] at hR
      have ha0 : (a == 0) = false := by simp; omega
      have hnd := Int.mul_le_mul hn.2 vd.2 (by omega) (by omega)
      have hnd0 := Int.mul_nonneg (show 0 ≤ n by omega) (show 0 ≤ d by omega)
      have hqd := ediv_bd (a := n * d) (b := a) (m := 10000000) va.1 (by omega) (by omega) (by omega)
      obtain ⟨r0, hr0⟩ : ∃ r, rdT o n 0 = r := ⟨_, rfl⟩
      obtain ⟨A, hA⟩ : ∃ A, atT o a d n 0 = A := ⟨_, rfl⟩
      have hpos := hok.pos 0
      rw [hA] at hR hpos
      have HAB := Lib.hid (fun w1 => above_is (w := w1) hr0 vo hn)
      have HRE := Lib.hid (fun w1 => reached_is hok (k := 0) (by simp [preT]) hA w1)
      rw [hr0] at HRE
      obtain ⟨G, hG⟩ : ∃ G, gapT a d n = G := ⟨_, rfl⟩
      have hG2 : max 1 (n * d / a) = G := by rw [← hG]; unfold gapT; omega
      rw [hG] at hR
      have HG2 := Lib.hid hG2
      have hgp : 1 ≤ G := by rw [← hG]; unfold gapT; omega
      have HR0 := Lib.hid hR
      clear hV hN hR hok hr0 hA hG hG2
      go_enter Try.func41, Try.ntmps41
      go_upto_region 4 with (first | (go_at_call 22; (with_reducible refine (rvclk_is HV.out).mono ?_); rintro e w1 ⟨rfl, hb1⟩; have HB1 := Lib.hid (((Box3.new w o a d 30).ext (Below.alloc (Below.refl _ _) (Nat.le_refl _) _)).ext hb1); have HB2 := Lib.hid ((Box3.new (w.alloc (.cells #[.int .i64 o, .int .i64 a, .int .i64 d] 30)) 0 0 0 23).ext hb1); rw [World.size_alloc] at HB2; have B1 : Hid (Below w.heap.size w w1) := Lib.hid (Below.trans (by (repeat' (first | (with_reducible exact Below.refl _ _) | (with_reducible assumption) | (with_reducible refine Below.alloc ?_ ?_ _) | (with_reducible refine Below.drew ?_) | (with_reducible refine Below.draws ?_ _) | (with_reducible refine Below.setCell ?_ ?_ _) | (refine Below.then ?_ (by with_reducible assumption)) | go_size))) (hb1.mono (by simp; omega))); clear hb1; obtain ⟨x0, x1, x2, _, _, _, xz⟩ := HB1.out; obtain ⟨y0, y1, y2, yf0, yf1, yf2, yz⟩ := HB2.out) | (go_at_call 49; (with_reducible refine (rin_is HN.out).mono ?_); rintro e w2 ⟨rfl, rfl⟩) | (refine wp_region_later_lit (by kernel_rfl) (by kernel_rfl) ?_; (repeat (go_big_quiet_step ((first | (go_at_call 57; exact later_same (HAB.out _)) | (go_at_call 51; exact later_of (HRE.out _)))))); refine wpQuiet_nil ?_; intro w5 hb5))
      have HB1 := Lib.hid (HB1.out.ext hb5); have HB2 := Lib.hid (HB2.out.ext hb5)
      have B5 := Lib.hid (Below.then B1.out hb5)
      clear hb5 x0 x1 x2 xz y0 y1 y2 yf0 yf1 yf2 yz
      obtain ⟨x0, x1, x2, _, _, _, xz⟩ := HB1.out; obtain ⟨y0, y1, y2, yf0, yf1, yf2, yz⟩ := HB2.out
      go_upto_region 5 with fail
      rw [HG2.out]
      by_cases h1 : 10000 < A
      · have d1 : decide (10000 < A) = true := by simpa using h1
        have hv2 : vpat A G 0 = false := by
          cases q : vpat A G 0
          · rfl
          · have := vpat_iff.1 q; omega
        have HR : Hid (R = (0, 0, 3)) := Lib.hid (by rw [← HR0.out, hv2]; rfl)
        go_wp2
        (have H3 := Lib.hid (set3 HB2.out 0 0 0); obtain ⟨W, hW⟩ : ∃ x, x = (((w5.setCell ⟨w.heap.size + 1, 0, none⟩ (.int .i64 0)).setCell ⟨w.heap.size + 1, 1, none⟩ (.int .i64 0)).setCell ⟨w.heap.size + 1, 2, none⟩ (.int .i64 0)) := ⟨_, rfl⟩; have hBW : Below w.heap.size w W := (by rw [hW]; exact ((B5.out.setCell (p := ⟨w.heap.size + 1, 0, none⟩) (by simp) _).setCell (p := ⟨w.heap.size + 1, 1, none⟩) (by simp) _).setCell (p := ⟨w.heap.size + 1, 2, none⟩) (by simp) _); rw [← hW] at H3 ⊢; obtain ⟨z0, z1, z2, _, _, _, zz⟩ := H3.out; refine bodyPost_ret (v := .tuple #[.agg #[.int .i64 0, .int .i64 0, .int .i64 0], .int .i64 3]) (by simp [results, Try.results41, go_sem, z0, z1, z2]) rfl ⟨by rw [HR.out]; rfl, hBW⟩)
      · have d1 : decide (10000 < A) = false := by simpa using h1
        by_cases h2 : 10000 < G
        · have d2 : decide (10000 < G) = true := by simpa using h2
          have hv2 : vpat A G 0 = false := by
            cases q : vpat A G 0
            · rfl
            · have := vpat_iff.1 q; omega
          have HR : Hid (R = (0, 0, 3)) := Lib.hid (by rw [← HR0.out, hv2]; rfl)
          go_wp2
          (have H3 := Lib.hid (set3 HB2.out 0 0 0); obtain ⟨W, hW⟩ : ∃ x, x = (((w5.setCell ⟨w.heap.size + 1, 0, none⟩ (.int .i64 0)).setCell ⟨w.heap.size + 1, 1, none⟩ (.int .i64 0)).setCell ⟨w.heap.size + 1, 2, none⟩ (.int .i64 0)) := ⟨_, rfl⟩; have hBW : Below w.heap.size w W := (by rw [hW]; exact ((B5.out.setCell (p := ⟨w.heap.size + 1, 0, none⟩) (by simp) _).setCell (p := ⟨w.heap.size + 1, 1, none⟩) (by simp) _).setCell (p := ⟨w.heap.size + 1, 2, none⟩) (by simp) _); rw [← hW] at H3 ⊢; obtain ⟨z0, z1, z2, _, _, _, zz⟩ := H3.out; refine bodyPost_ret (v := .tuple #[.agg #[.int .i64 0, .int .i64 0, .int .i64 0], .int .i64 3]) (by simp [results, Try.results41, go_sem, z0, z1, z2]) rfl ⟨by rw [HR.out]; rfl, hBW⟩)
        · have d2 : decide (10000 < G) = false := by simpa using h2
          have hv2 : vpat A G 0 = true := vpat_iff.2 (by omega)
          have HR : Hid (R = (A, G, 0)) := Lib.hid (by rw [← HR0.out, hv2]; rfl)
          go_wp2
          (have H3 := Lib.hid (set3 HB2.out A G 0); obtain ⟨W, hW⟩ : ∃ x, x = (((w5.setCell ⟨w.heap.size + 1, 0, none⟩ (.int .i64 A)).setCell ⟨w.heap.size + 1, 1, none⟩ (.int .i64 G)).setCell ⟨w.heap.size + 1, 2, none⟩ (.int .i64 0)) := ⟨_, rfl⟩; have hBW : Below w.heap.size w W := (by rw [hW]; exact ((B5.out.setCell (p := ⟨w.heap.size + 1, 0, none⟩) (by simp) _).setCell (p := ⟨w.heap.size + 1, 1, none⟩) (by simp) _).setCell (p := ⟨w.heap.size + 1, 2, none⟩) (by simp) _); rw [← hW] at H3 ⊢; obtain ⟨z0, z1, z2, _, _, _, zz⟩ := H3.out; refine bodyPost_ret (v := .tuple #[.agg #[.int .i64 A, .int .i64 G, .int .i64 0], .int .i64 0]) (by simp [results, Try.results41, go_sem, z0, z1, z2]) rfl ⟨by rw [HR.out]; rfl, hBW⟩)
end Go.Proofs.Ytfiggbeaomkepaa
