/- The contracts of place, ahead, choice. The conditions: the machine reads as named. -/
import Derived.Test.YtlhnhmimhpcoaaaScW1
import Derived.Test.YtlhnhmimhpcoaaaTkProg
import Derived.Test.YtlhnhmimhpcoaaaTkSort
namespace Go.Proofs.Ytlhnhmimhpcoaaa
open Go.RowKit
set_option linter.unusedSimpArgs false
set_option linter.unusedVariables false
theorem right_B {L : List Ta} (h : Right L) : rightB L = true := by
  unfold rightB
  simp only [Bool.and_eq_true, decide_eq_true_eq, List.all_eq_true]
  refine ⟨h.len, fun t ht => ?_⟩
  unfold taskB
  simp only [Bool.and_eq_true, List.all_eq_true, inB_iff]
  have h1 := h.pri t ht
  have h2 := h.pcs t ht
  refine ⟨⟨h1, by omega, by omega⟩, fun p hp => ?_⟩
  have h3 := h.piece t ht p hp
  unfold pieceB
  simp only [Bool.and_eq_true, inB_iff]
  exact h3
theorem raised_to {R : Rn} {s : Ms} (hr : RnOk R) (h : MOk R s) {i : Nat} (hi : i < R.L.length) (hc : insB R.L s i = true) : raisedR R.L i ((s.ja i).p : Nat) = (toI R.L s i, 0) := by
  have hp := h.pc i hi
  have hk := (insB_iff.1 hc).2
  unfold raisedR
  rw [if_pos (by rw [Bool.and_eq_true, isTk_iff, inB_iff]; exact ⟨⟨right_B hr.r, by omega, by omega⟩, by omega, by omega⟩), Int.toNat_natCast]
  have e : (((taAt R.L i).pcs)[(s.ja i).p]?).getD default = pcA R.L i (s.ja i).p := rfl
  rw [e]
  have hk' : ¬ (pcA R.L i (s.ja i).p).2 < 0 := by unfold lkA at hk; omega
  rw [if_neg hk']
  unfold toI; rw [hc]; rfl
theorem Raised_is {a : Option Addr} {n c : Nat} {L : List Ta} {t p x y : Int} {w : World} (hL : RdL w a n L) (h : raisedR L t p = (x, y)) :
    Calls Try.prog 134 #[.slice a n c, .int .i64 t, .int .i64 p] w fun e w' => e = rII x y ∧ Below w.heap.size w w' := by
  have := Raised_any a n c L t p w hL
  rw [h] at this; exact this
theorem keep_c {w w' : World} (hb : Below w.heap.size w w') {b o : Nat} {v : Value} (h : w.cell? ⟨b, o, none⟩ = some v) : w'.cell? ⟨b, o, none⟩ = some v := (hb.cell (p := ⟨b, o, none⟩) (World.block_lt_of_cell? w _ h)).trans h
set_option maxRecDepth 10000 in
set_option maxHeartbeats 1000000 in
theorem place_any {M : MPar} {w : World} {s : Ms} {i : Nat} (hM : Mach M w s) (hR : RdRun M.w0 M.H M.R) (hr : RnOk M.R) (hO : MOk M.R s) (hOf : M.O = ofL M.R.L) (hi : i < M.R.L.length) :
    Calls Try.prog 127 #[.pointer (some ⟨M.p, 0, none⟩), .int .i64 i] w fun e w' => e = rII (cnt M.R.L (toI M.R.L s i) : Nat) (ownI M.R.L s i : Nat) ∧ Below w.heap.size w w' := by
  have hrk : ∀ j : Nat, j < M.R.L.length → w.cell? ⟨M.rb, j, none⟩ = some (.int .i64 (cnt M.R.L j : Nat)) := fun j hj => by
    obtain ⟨x, h1, h2⟩ := hM.rk j hj
    rw [hOf, ofL_get hj] at h1
    rw [h2]; simp at h1; rw [h1]
  have c6 := hM.c6
  have hto := hO.to_ hi
  have rki := hrk i hi
  obtain ⟨B, hB⟩ : ∃ B, insB M.R.L s i = B := ⟨_, rfl⟩
  have HLK := Lib.hid (locked_is hM hR hO hi hB)
  cases B
  · have e1 : toI M.R.L s i = i := toI_no hB
    have e2 : ownI M.R.L s i = 1 := by unfold ownI; rw [if_pos e1]
    rw [e1, e2]
    obtain ⟨nL, hnL⟩ : ∃ x, M.R.L.length = x := ⟨_, rfl⟩
    obtain ⟨cn, hcn⟩ : ∃ x, cnt M.R.L (i : Int) = x := ⟨_, rfl⟩
    rw [hnL] at c6 hi
    rw [hcn] at rki ⊢
    clear hM hR hr hO hOf hrk hto e1 e2 hB
    go_enter Try.func127, Try.ntmps127
    go_wp2_with (go_at_call 108; (with_reducible refine HLK.out.mono ?_); rintro e w1 ⟨rfl, hb1⟩; have d6 := keep_c hb1 c6; have d7 := keep_c hb1 rki)
    go_ret2
    exact ⟨rII_eq rfl rfl, by (repeat' (first | (with_reducible exact Below.refl _ _) | (with_reducible assumption) | (with_reducible refine Below.alloc ?_ ?_ _) | (with_reducible refine Below.drew ?_) | (with_reducible refine Below.draws ?_ _) | (with_reducible refine Below.setCell ?_ ?_ _) | (refine Below.then ?_ (by with_reducible assumption)) | go_size))⟩
  · have hra := raised_to hr hO hi hB
    obtain ⟨to, hte⟩ := Int.eq_ofNat_of_zero_le hto.1.1
    have htl : to < M.R.L.length := by have := hto.1.2; omega
    have rkt := hrk to htl
    have HT := Lib.hid (hM.int hR).t
    obtain ⟨j0, _⟩ := hM.jcells hi
    have c0 := hM.c0
    have c8 := hM.c8
    have HRA := Lib.hid hra
    have hown : ownI M.R.L s i = if (to : Int) = (i : Int) then 1 else 0 := by unfold ownI; rw [hte]
    rw [hte] at HRA ⊢
    have HOWN := Lib.hid hown
    obtain ⟨jp, hjp⟩ : ∃ x, (s.ja i).p = x := ⟨_, rfl⟩
    rw [hjp] at j0 HRA
    obtain ⟨nL, hnL⟩ : ∃ x, M.R.L.length = x := ⟨_, rfl⟩
    rw [hnL] at c6 c8 hi htl
    obtain ⟨ci, hci⟩ : ∃ x, cnt M.R.L (i : Int) = x := ⟨_, rfl⟩
    obtain ⟨ct, hct⟩ : ∃ x, cnt M.R.L (to : Int) = x := ⟨_, rfl⟩
    have HE : Hid (to = i → ci = ct) := Lib.hid (fun h => by rw [← hci, ← hct, h])
    rw [hci] at rki
    rw [hct] at rkt ⊢
    obtain ⟨ow, how⟩ : ∃ x, ownI M.R.L s i = x := ⟨_, rfl⟩
    rw [how] at HOWN ⊢
    clear hM hR hr hO hOf hrk hto hB hra hown hte hjp hci hct how hnL
    go_enter Try.func127, Try.ntmps127
    go_upto_region 2 with (go_at_call 108; (with_reducible refine HLK.out.mono ?_); rintro e w1 ⟨rfl, hb1⟩; have d6 := keep_c hb1 c6; have d7 := keep_c hb1 rki; have d8 := keep_c hb1 rkt; have d0 := keep_c hb1 c0; have dj := keep_c hb1 j0; have d9 := keep_c hb1 c8; have HT1 := Lib.hid ((HT.out.ext hb1).ext (Below.refl w1.heap.size w1).drew); have B1 := Lib.hid hb1; clear hb1)
    go_region_held3 (fun w' => w'.cell? ⟨M.p, 0, none⟩ = some (.slice M.H.tA M.H.tN M.H.tC) ∧ w'.cell? ⟨M.p, 8, none⟩ = some (.slice (some ⟨M.J, 0, none⟩) nL nL) ∧ w'.cell? ⟨M.J, i * 4, none⟩ = some (.int .i64 (jp : Int)))
      (first | go_keep)
      (first
        | (go_at_call 134; (with_reducible refine (Raised_is HT1.out HRA.out).mono ?_); rintro e w2 ⟨rfl, hb2⟩; have hb3 : Below w1.heap.size w1 w2 := Below.then (Below.refl w1.heap.size w1).drew hb2; have B2 := Lib.hid hb3; have x0 := keep_c hb3 d0; have x8 := keep_c hb3 d9; have xj := keep_c hb3 dj; have x6 := keep_c hb3 d6; have x7 := keep_c hb3 d7; have y8 := keep_c hb3 d8; clear hb2 hb3))
    all_goals
      by_cases q : to = i
      · subst q
        have e : ci = ct := HE.out rfl
        subst e
        obtain rfl : ow = 1 := by rw [HOWN.out]; simp
        go_wp2
        go_ret2
        exact ⟨rII_eq rfl rfl, Below.then B1.out B2.out⟩
      · obtain rfl : ow = 0 := by rw [HOWN.out]; rw [if_neg]; omega
        have q' : ((to : Int) != (i : Int)) = true := by simp; omega
        have q'' : (to != i) = true := by simpa using q
        go_wp2
        go_ret2
        exact ⟨rII_eq rfl rfl, Below.then B1.out B2.out⟩
def orI (x y : Int) : Int := if x = 0 then y else x
theorem or_any (b c : Nat) (x y : Int) (w : World) (h0 : w.cell? ⟨b, 0, none⟩ = some (.int .i64 x)) (h1 : w.cell? ⟨b, 1, none⟩ = some (.int .i64 y)) :
    Calls Try.prog 128 #[.slice (some ⟨b, 0, none⟩) 2 c] w fun e w' => e = .returned (.int .i64 (orI x y)) ∧ w = w' := by
  obtain ⟨R, hR⟩ : ∃ R, orI x y = R := ⟨_, rfl⟩
  rw [hR]
  have HR := Lib.hid hR
  clear hR
  go_enter Try.func128, Try.ntmps128
  go_wp2
  go_loopw [8] (fun i wr => wr = w ∧ (i = .int .i64 0 ∨ (i = .int .i64 1 ∧ x = 0) ∨ (i = .int .i64 2 ∧ x = 0 ∧ y = 0))) (fun i _ => 2 - (intOf i).toNat)
  case atStart => exact ⟨rfl, .inl rfl⟩
  case round =>
    obtain ⟨rfl, rfl | ⟨rfl, hx⟩ | ⟨rfl, hx, hy⟩⟩ := hrel
    · by_cases q : x = 0
      · have q' : (x != 0) = false := by simpa using q
        subst q
        go_wp2
        go_roundw
        case rel => simp
        case measure => simp [intOf]
      · have q' : (x != 0) = true := by simpa using q
        have hRx : R = x := by rw [← HR.out, orI, if_neg q]
        subst hRx
        go_wp2
        go_ret
        exact ⟨rfl, rfl⟩
    · subst hx
      by_cases q : y = 0
      · have q' : (y != 0) = false := by simpa using q
        subst q
        go_wp2
        go_roundw
        case rel => simp
        case measure => simp [intOf]
      · have q' : (y != 0) = true := by simpa using q
        have hRx : R = y := by rw [← HR.out, orI, if_pos rfl]
        subst hRx
        go_wp2
        go_ret
        exact ⟨rfl, rfl⟩
    · subst hx; subst hy
      have hRx : R = 0 := by rw [← HR.out, orI, if_pos rfl]
      subst hRx
      go_wp2
      go_ret
      exact ⟨rfl, rfl⟩
theorem key_or {L : List Ta} {s : Ms} {a b : Nat} : decide (orI (cmpI (cnt L (toI L s a) : Nat) (cnt L (toI L s b) : Nat)) (cmpI (ownI L s a : Nat) (ownI L s b : Nat)) < 0) = decide (keyI L s a < keyI L s b) := by
  have ha : ownI L s a ≤ 1 := by unfold ownI; split <;> omega
  have hb : ownI L s b ≤ 1 := by unfold ownI; split <;> omega
  rw [decide_eq_decide]
  unfold orI cmpI keyI
  (repeat' split) <;> omega
set_option maxRecDepth 10000 in
set_option maxHeartbeats 1000000 in
theorem ahead_is {M : MPar} {w : World} {s : Ms} {a b : Nat} {B : Bool} (hM : Mach M w s) (hl : MLay M) (hR : RdRun M.w0 M.H M.R) (hr : RnOk M.R) (hO : MOk M.R s) (hOf : M.O = ofL M.R.L) (ha : a < M.R.L.length) (hb : b < M.R.L.length) (h : decide (keyI M.R.L s a < keyI M.R.L s b) = B) :
    Calls Try.prog 110 #[.pointer (some ⟨M.p, 0, none⟩), .int .i64 a, .int .i64 b] w fun e w' => e = .returned (.bool B) ∧ Below w.heap.size w w' := by
  rw [← key_or] at h
  have HA := Lib.hid (place_any hM hR hr hO hOf ha)
  have HB : Hid (∀ w1, Below w.heap.size w w1 → Calls Try.prog 127 #[.pointer (some ⟨M.p, 0, none⟩), .int .i64 b] w1 fun e w' => e = rII (cnt M.R.L (toI M.R.L s b) : Nat) (ownI M.R.L s b : Nat) ∧ Below w1.heap.size w1 w') := Lib.hid (fun w1 h1 => place_any (hM.ext hl h1) hR hr hO hOf hb)
  obtain ⟨c1, e1⟩ : ∃ x, cnt M.R.L (toI M.R.L s a) = x := ⟨_, rfl⟩
  obtain ⟨c2, e2⟩ : ∃ x, cnt M.R.L (toI M.R.L s b) = x := ⟨_, rfl⟩
  obtain ⟨o1, e3⟩ : ∃ x, ownI M.R.L s a = x := ⟨_, rfl⟩
  obtain ⟨o2, e4⟩ : ∃ x, ownI M.R.L s b = x := ⟨_, rfl⟩
  rw [e1, e2, e3, e4] at h
  rw [e1, e3] at HA
  rw [e2, e4] at HB
  obtain ⟨x1, f1⟩ : ∃ x, cmpI (c1 : Nat) (c2 : Nat) = x := ⟨_, rfl⟩
  obtain ⟨x2, f2⟩ : ∃ x, cmpI (o1 : Nat) (o2 : Nat) = x := ⟨_, rfl⟩
  rw [f1, f2] at h
  have F1 := Lib.hid f1; have F2 := Lib.hid f2
  obtain ⟨y, hy⟩ : ∃ y, orI x1 x2 = y := ⟨_, rfl⟩
  rw [hy] at h
  have HY := Lib.hid hy
  clear hM hR hr hO hOf e1 e2 e3 e4 f1 f2 hy
  go_enter Try.func110, Try.ntmps110
  go_wp2_with (first
    | (go_at_call 127; (with_reducible refine HA.out.mono ?_); rintro e w1 ⟨rfl, hb1⟩; have B1 := Lib.hid hb1; clear hb1)
    | (go_at_call 127; (with_reducible refine (HB.out _ B1.out).mono ?_); rintro e w2 ⟨rfl, hb2⟩; have B2 := Lib.hid (Below.then B1.out hb2); clear hb2)
    | (go_at_call 125; (with_reducible refine (compare_any (c1 : Nat) (c2 : Nat) _).mono ?_); rintro e w3 ⟨rfl, rfl⟩; rw [F1.out])
    | (go_at_call 125; (with_reducible refine (compare_any (o1 : Nat) (o2 : Nat) _).mono ?_); rintro e w4 ⟨rfl, rfl⟩; rw [F2.out])
    | (go_at_call 128; (with_reducible refine (or_any _ _ x1 x2 _ (by simp [go_sem]) (by simp [go_sem])).mono ?_); rintro e w5 ⟨rfl, rfl⟩; rw [HY.out]))
  go_ret
  exact ⟨rfl, Below.then B2.out (by (repeat' (first | (with_reducible exact Below.refl _ _) | (with_reducible assumption) | (with_reducible refine Below.alloc ?_ ?_ _) | (with_reducible refine Below.drew ?_) | (with_reducible refine Below.draws ?_ _) | (with_reducible refine Below.setCell ?_ ?_ _) | (refine Below.then ?_ (by with_reducible assumption)) | go_size)))⟩
set_option maxRecDepth 10000 in
set_option maxHeartbeats 2000000 in
theorem choice_any {M : MPar} {w : World} {s : Ms} (hM : Mach M w s) (hl : MLay M) (hR : RdRun M.w0 M.H M.R) (hr : RnOk M.R) (hO : MOk M.R s) (hOf : M.O = ofL M.R.L) :
    Calls Try.prog 79 #[.pointer (some ⟨M.p, 0, none⟩)] w fun e w' => e = .returned (.int .i64 (chM M.R.L s)) ∧ Below w.heap.size w w' := by
  have c0 := hM.c0
  have htn := hR.t.length
  have hL5 := hr.r.len
  have HM := Lib.hid hM; have HR := Lib.hid hR; have HRN := Lib.hid hr; have HO := Lib.hid hO; have HOF := Lib.hid hOf
  obtain ⟨X, hX⟩ : ∃ X, chM M.R.L s = X := ⟨_, rfl⟩
  rw [hX]
  obtain ⟨nL, hnL⟩ : ∃ x, M.H.tN = x := ⟨_, rfl⟩
  have HN : Hid (M.R.L.length = nL) := Lib.hid (htn.trans hnL)
  have HX : Hid (chF M.R.L s (nL - 0) 0 (-1) = X) := Lib.hid (by rw [Nat.sub_zero, ← HN.out]; exact hX)
  have hn5 : nL ≤ 5 := by omega
  rw [hnL] at c0
  clear hM hR hr hO hOf hX hnL htn
  go_enter Try.func79, Try.ntmps79
  go_wp2
  go_loopw [3, 11] (fun b i wr => ∃ (k : Nat) (bb : Int), k ≤ nL ∧ b = .int .i64 bb ∧ i = .int .i64 k ∧ -1 ≤ bb ∧ bb < k ∧ chF M.R.L s (nL - k) k bb = X ∧ Below w.heap.size w wr) (fun _ i _ => nL - (intOf i).toNat)
  case atStart => exact ⟨0, -1, Nat.zero_le _, rfl, rfl, by omega, by omega, HX.out, Below.refl _ _⟩
  case round =>
    clear HX
    obtain ⟨k, bb, hk, rfl, rfl, hb1, hb2, hX, hB⟩ := hrel
    have HB := Lib.hid hB
    have hMx := HM.out.ext hl hB
    have HMX := Lib.hid hMx
    by_cases hkn : k < nL
    · have hkL : k < M.R.L.length := by rw [HN.out]; exact hkn
      rw [show nL - k = (nL - (k + 1)) + 1 by omega, chF] at hX
      cases hrd : rdB s k
      · have hq := rdB_no.1 hrd
        rw [if_neg (fun q => q.1 hq)] at hX
        have HX2 := Lib.hid hX; have HRD := Lib.hid hrd
        clear hX hq hrd hMx hB
        go_wp2_with (go_at_call 107; (with_reducible refine (ready_is HMX.out hkL HRD.out).mono ?_); rintro e w1 ⟨rfl, rfl⟩)
        go_roundw
        case rel => exact ⟨k + 1, bb, hkn, rfl, by go_num, hb1, by omega, HX2.out, HB.out⟩
        case measure => simp [intOf]; omega
      · have hq := rdB_iff.1 hrd
        have HRD := Lib.hid hrd
        by_cases h0 : bb < 0
        · rw [if_pos ⟨hq, .inl h0⟩] at hX
          have HX2 := Lib.hid hX
          clear hX hq hrd hMx hB
          go_wp2_with (go_at_call 107; (with_reducible refine (ready_is HMX.out hkL HRD.out).mono ?_); rintro e w1 ⟨rfl, rfl⟩)
          go_roundw
          case rel => exact ⟨k + 1, k, hkn, rfl, by go_num, by omega, by omega, HX2.out, HB.out⟩
          case measure => simp [intOf]; omega
        · have h0' : decide (bb < 0) = false := by simpa using h0
          obtain ⟨bn, rfl⟩ := Int.eq_ofNat_of_zero_le (show 0 ≤ bb by omega)
          rw [Int.toNat_natCast] at hX
          have hbL : bn < M.R.L.length := by rw [HN.out]; omega
          obtain ⟨A, hA⟩ : ∃ A, decide (keyI M.R.L s k < keyI M.R.L s bn) = A := ⟨_, rfl⟩
          have HA := Lib.hid hA
          cases A
          · have hA' : ¬ keyI M.R.L s k < keyI M.R.L s bn := by simpa using hA
            rw [if_neg (fun q => q.2.elim h0 hA')] at hX
            have HX2 := Lib.hid hX
            clear hX hq hrd hMx hB hA hA'
            go_wp2_with (first
              | (go_at_call 107; (with_reducible refine (ready_is HMX.out hkL HRD.out).mono ?_); rintro e w1 ⟨rfl, rfl⟩)
              | (go_at_call 110; (with_reducible refine (ahead_is HMX.out hl HR.out HRN.out HO.out HOF.out hkL hbL HA.out).mono ?_); rintro e w2 ⟨rfl, hb2⟩; have B2 := Lib.hid hb2; clear hb2))
            go_roundw
            case rel => exact ⟨k + 1, bn, hkn, rfl, by go_num, hb1, by omega, HX2.out, Below.then HB.out B2.out⟩
            case measure => simp [intOf]; omega
          · have hA' : keyI M.R.L s k < keyI M.R.L s bn := by simpa using hA
            rw [if_pos ⟨hq, .inr hA'⟩] at hX
            have HX2 := Lib.hid hX
            clear hX hq hrd hMx hB hA hA'
            go_wp2_with (first
              | (go_at_call 107; (with_reducible refine (ready_is HMX.out hkL HRD.out).mono ?_); rintro e w1 ⟨rfl, rfl⟩)
              | (go_at_call 110; (with_reducible refine (ahead_is HMX.out hl HR.out HRN.out HO.out HOF.out hkL hbL HA.out).mono ?_); rintro e w2 ⟨rfl, hb2⟩; have B2 := Lib.hid hb2; clear hb2))
            go_roundw
            case rel => exact ⟨k + 1, k, hkn, rfl, by go_num, by omega, by omega, HX2.out, Below.then HB.out B2.out⟩
            case measure => simp [intOf]; omega
    · have hbb : bb = X := by rw [show nL - k = 0 by omega] at hX; exact hX
      subst hbb
      clear hX hMx
      go_wp2
      go_ret
      exact ⟨rfl, HB.out⟩
end Go.Proofs.Ytlhnhmimhpcoaaa
