/- The contract of the reference's Merge. The conditions: the lists read as named. -/
import Derived.Test.YtfiggbeaomkepaaStPMg
namespace Go.Proofs.Ytfiggbeaomkepaa.StP
open Go.RowKit Go.Proofs.Ytfiggbeaomkepaa
set_option linter.unusedSimpArgs false
set_option linter.unusedVariables false
theorem swapP {p r : List P2} {y x : P2} {j : Nat} (hj : j = p.length) : ((p ++ y :: x :: r).set (j + 1) y).set j x = p ++ x :: y :: r := by
  subst hj
  rw [List.set_append_right _ _ (by omega), show p.length + 1 - p.length = 1 by omega, List.set_append_right _ _ (by omega), Nat.sub_self]
  rfl
theorem listE_far {xs : List P2} {E : Int} (h : listE xs = E) : (xs.any farB = true ↔ E = 1) ∧ (E = 0 ∨ E = 1 ∨ E = 2) := by
  subst h
  unfold listE
  cases hx : xs.any farB
  · simp; split <;> first | omega | (simp; omega)
  · simp
set_option maxRecDepth 100000 in
set_option maxHeartbeats 4000000 in
theorem rmerge_any (a b : Option Addr) (n m c d : Nat) (xs ys : List P2) (w : World) (hn : n ≤ 1000) (hm : m ≤ 1000) (hR : Rd w a n 2 (xs.map enc2)) (hS : Rd w b m 2 (ys.map enc2)) (ha : n = 0 → (a = none ∧ c = 0) ∨ ∃ ad, a = some ad) (hb : m = 0 → (b = none ∧ d = 0) ∨ ∃ ad, b = some ad) :
    Calls Try.prog 47 #[.slice a n c, .slice b m d] w (OutP w.heap.size w (mergeR xs ys).1 (mergeR xs ys).2) := by
  have HLx := Lib.hid hR.length; have HLy := Lib.hid hS.length
  have HR := Lib.hid hR; have HS := Lib.hid hS; have HA := Lib.hid ha; have HB := Lib.hid hb
  obtain ⟨E, hE⟩ : ∃ E, listE xs = E := ⟨_, rfl⟩
  obtain ⟨F, hF⟩ : ∃ F, listE ys = F := ⟨_, rfl⟩
  have HE := Lib.hid hE; have HF := Lib.hid hF
  obtain ⟨f1, f2⟩ := listE_far hE
  obtain ⟨g1, g2⟩ := listE_far hF
  obtain ⟨N, hN⟩ : ∃ N, n + m = N := ⟨_, rfl⟩
  have HM : Hid (mergeR xs ys = if E = 1 ∨ F = 1 then ([], 1) else if 40 < N then ([], 2) else (isortL (ltOf pcmp) (xs ++ ys), 0)) := Lib.hid (by
    unfold mergeR
    rw [HLx.out, HLy.out, hN]
    congr 1
    rw [Bool.or_eq_true, f1, g1])
  rw [HM.out]
  clear hR hS ha hb hE hF f1 g1
  have e2 := E2
  by_cases hE1 : E = 1
  · rw [if_pos (.inl hE1)]
    subst hE1
    go_enter Try.func47, Try.ntmps47
    go_wp2_with (first
      | (go_at_call 53; (with_reducible refine (listed_any _ _ _ _ xs HR.out).mono ?_); rw [HE.out]; rintro e w1 ⟨rfl, hb1⟩; have B1 := Lib.hid hb1; clear hb1)
      | (go_at_call 53; (with_reducible refine (listed_any _ _ _ _ ys (HS.out.ext B1.out)).mono ?_); rw [HF.out]; rintro e w2 ⟨rfl, hb2⟩; have B2 := Lib.hid hb2; clear hb2))
    go_ret2
    exact ⟨none, 0, 0, rfl, World.ownsRow_nil _ _ _ _, Below.then B1.out B2.out⟩
  by_cases hF1 : F = 1
  · rw [if_pos (.inr hF1)]
    subst hF1
    have hE1' : (E == 1) = false := by simpa using hE1
    go_enter Try.func47, Try.ntmps47
    go_wp2_with (first
      | (go_at_call 53; (with_reducible refine (listed_any _ _ _ _ xs HR.out).mono ?_); rw [HE.out]; rintro e w1 ⟨rfl, hb1⟩; have B1 := Lib.hid hb1; clear hb1)
      | (go_at_call 53; (with_reducible refine (listed_any _ _ _ _ ys (HS.out.ext B1.out)).mono ?_); rw [HF.out]; rintro e w2 ⟨rfl, hb2⟩; have B2 := Lib.hid hb2; clear hb2))
    go_ret2
    exact ⟨none, 0, 0, rfl, World.ownsRow_nil _ _ _ _, Below.then B1.out B2.out⟩
  rw [if_neg (by simp [hE1, hF1])]
  have hE1' : (E == 1) = false := by simpa using hE1
  have hF1' : (F == 1) = false := by simpa using hF1
  have hNI : (n : Int) + (m : Int) = (N : Int) := by omega
  by_cases h40 : 40 < N
  · rw [if_pos h40]
    have k1 : (40 : Int) < (N : Int) := by omega
    go_enter Try.func47, Try.ntmps47
    go_wp2_with (first
      | (go_at_call 53; (with_reducible refine (listed_any _ _ _ _ xs HR.out).mono ?_); rw [HE.out]; rintro e w1 ⟨rfl, hb1⟩; have B1 := Lib.hid hb1; clear hb1)
      | (go_at_call 53; (with_reducible refine (listed_any _ _ _ _ ys (HS.out.ext B1.out)).mono ?_); rw [HF.out]; rintro e w2 ⟨rfl, hb2⟩; have B2 := Lib.hid hb2; clear hb2))
    go_ret2
    exact ⟨none, 0, 0, rfl, World.ownsRow_nil _ _ _ _, Below.then B1.out B2.out⟩
  · rw [if_neg h40]
    have k1 : ¬ (40 : Int) < (N : Int) := by omega
    obtain ⟨zs, hzs⟩ : ∃ zs, xs ++ ys = zs := ⟨_, rfl⟩
    have HZL : Hid (zs.length = N) := Lib.hid (by rw [← hzs, List.length_append, HLx.out, HLy.out, hN])
    have HZ := Lib.hid hzs
    rw [hzs]
    obtain ⟨R, hRR⟩ : ∃ R, isortL (ltOf pcmp) zs = R := ⟨_, rfl⟩
    have HRR := Lib.hid hRR
    rw [hRR]
    clear hRR hzs f2 g2 hE1 hF1
    have HN := Lib.hid hN
    go_enter Try.func47, Try.ntmps47
    go_wp2_with (first
      | (go_at_call 53; (with_reducible refine (listed_any _ _ _ _ xs HR.out).mono ?_); rw [HE.out]; rintro e w1 ⟨rfl, hb1⟩; have B1 := Lib.hid hb1; clear hb1)
      | (go_at_call 53; (with_reducible refine (listed_any _ _ _ _ ys (HS.out.ext B1.out)).mono ?_); rw [HF.out]; rintro e w2 ⟨rfl, hb2⟩; have B2 := Lib.hid hb2; clear hb2)
      | (at_builtin; refine wpList_pushAll (B := w.heap.size) rfl _ _ _ rfl e2 enc2_len enc2_one rfl HO3.out rfl (HS.out.ext (Below.trans (Below.then B1.out B2.out) B3.out)) HB.out (by omega) (by decide) (Nat.le_trans (Below.then B1.out B2.out).size B3.out.size) ?_; intro v4 w4 hown4 hv4 hb4; obtain ⟨a4, c4, rfl⟩ := hv4; rw [HN.out] at hown4; rw [HN.out]; have HO4 := Lib.hid hown4; have B4 := Lib.hid hb4; clear hown4 hb4)
      | (at_builtin; refine wpList_pushAll (B := w.heap.size) (n := 0) (xs := []) (v := .slice none 0 0) rfl _ _ _ rfl e2 enc2_len enc2_one rfl (World.ownsRow_nil _ _ _ _) rfl (HR.out.ext (Below.then B1.out B2.out)) HA.out (by omega) (by decide) (Below.then B1.out B2.out).size ?_; intro v3 w3 hown3 hv3 hb3; obtain ⟨a3, c3, rfl⟩ := hv3; rw [Nat.zero_add, List.nil_append] at hown3; rw [Nat.zero_add]; have HO3 := Lib.hid hown3; have B3 := Lib.hid hb3; clear hown3 hb3))
    have hO0 : w4.ownsRow w.heap.size 61 2 (.slice a4 N c4) N (zs.flatMap enc2) := by have := HO4.out; rw [← List.flatMap_append, HZ.out] at this; exact this
    have HO0 := Lib.hid hO0
    have HB0 : Hid (Below w.heap.size w w4) := Lib.hid ((Below.trans (Below.then B1.out B2.out) B3.out).trans B4.out)
    clear hO0 HO4 HO3 B1 B2 B3 B4
    go_loopw [9] (fun v wr => ∃ i : Nat, 1 ≤ i ∧ i ≤ max 1 N ∧ v = .int .i64 i ∧ wr.ownsRow w.heap.size 61 2 (.slice a4 N c4) N ((isortL (ltOf pcmp) (zs.take i) ++ zs.drop i).flatMap enc2) ∧ Below w.heap.size w wr) (fun v _ => N - (intOf v).toNat)
    case atStart =>
      refine ⟨1, Nat.le_refl _, by omega, rfl, ?_, HB0.out⟩
      have : isortL (ltOf pcmp) (zs.take 1) = zs.take 1 := by cases zs <;> rfl
      rw [this, List.take_append_drop]
      exact HO0.out
    case round =>
      obtain ⟨i, hi1, hin, rfl, hO, hBw⟩ := hrel
      have HO := Lib.hid hO; have HBW := Lib.hid hBw
      clear hO hBw HO0 HB0
      by_cases hlt : i < N
      · obtain ⟨x, hx⟩ : ∃ x, zs[i]? = some x := ⟨_, List.getElem?_eq_getElem (by rw [HZL.out]; exact hlt)⟩
        have hxd : zs.drop i = x :: zs.drop (i + 1) := by obtain ⟨h1, h2⟩ := List.getElem?_eq_some_iff.1 hx; rw [List.drop_eq_getElem_cons h1, h2]
        obtain ⟨S, hS⟩ : ∃ S, isortL (ltOf pcmp) (zs.take i) = S := ⟨_, rfl⟩
        have hsl : S.length = i := by rw [← hS, (isort_perm _ _).length_eq, List.length_take, HZL.out]; omega
        have HTK : Hid (isortL (ltOf pcmp) (zs.take (i + 1)) = insP (ltOf pcmp) x S) := Lib.hid (by rw [← hS, ← isort_snoc, List.take_add_one, hx]; rfl)
        obtain ⟨q0, hq0, hqB⟩ : ∃ q, a4 = some ⟨q, 0, none⟩ ∧ w.heap.size ≤ q := by
          rcases HO.out.2 with ⟨hv, _⟩ | ⟨g', cap', cur, hv, hB0, hg, _⟩
          · simp at hv; omega
          · simp at hv; exact ⟨g', hv.1, hB0⟩
        subst hq0
        rw [hS, hxd] at HO
        have HSL := Lib.hid hsl
        clear hx hxd hsl hS
        obtain ⟨wo, rfl⟩ : ∃ wo : World, wo = wr := ⟨_, rfl⟩
        go_wp2
        go_loopw [10] (fun v wr => ∃ (j : Nat) (p q : List P2), v = .int .i64 j ∧ j = p.length ∧ p ++ q = S ∧ (∀ y ∈ q, ltOf pcmp x y = true) ∧ wr.ownsRow w.heap.size 61 2 (.slice (some ⟨q0, 0, none⟩) N c4) N ((p ++ x :: (q ++ zs.drop (i + 1))).flatMap enc2) ∧ Below w.heap.size w wr) (fun v _ => (intOf v).toNat)
        case atStart => exact ⟨i, S, [], rfl, by rw [HSL.out], by simp, by simp, HO.out, HBW.out⟩
        case round =>
          obtain ⟨j, p, q, rfl, hj, hpq, hq, hOj, hBj⟩ := hrel
          have HPQ := Lib.hid hpq; have HQ := Lib.hid hq; have HOJ := Lib.hid hOj; have HBJ := Lib.hid hBj; have HJ := Lib.hid hj
          have hjn : j < N := by have := congrArg List.length hpq; rw [HSL.out] at this; simp at this; omega
          clear hpq hq hOj hBj HO HBW
          obtain ⟨wp, rfl⟩ : ∃ wp : World, wp = wr := ⟨_, rfl⟩
          have HEND : Hid ((∀ y, p.getLast? = some y → ltOf pcmp x y = false) → isortL (ltOf pcmp) (zs.take (i + 1)) = p ++ x :: q) := Lib.hid (fun h => by rw [HTK.out, ← HPQ.out, insP_eq HQ.out h])
          rcases List.eq_nil_or_concat p with hp | ⟨p', y, hp⟩
          · have hj0 : j = 0 := by rw [hj, hp]; rfl
            have hd : decide (0 < j) = false := by simp [hj0]
            have HP := Lib.hid hp
            clear hj hp
            go_wp2_with (refine wp_region_later_lit (by kernel_rfl) (by kernel_rfl) ?_; (repeat (go_big_quiet_step (fail))); refine wpQuiet_nil ?_; intro w5 hb5)
            go_roundw
            case rel =>
              refine ⟨i + 1, by omega, by omega, by go_num, ?_, HBJ.out.trans (hb5.mono HBJ.out.size)⟩
              rw [HEND.out (by rw [HP.out]; simp), List.append_assoc, List.cons_append]
              exact owns_ext HOJ.out hb5
            case measure => simp [intOf]; omega
          · rw [List.concat_eq_append] at hp
            have HP := Lib.hid hp
            obtain ⟨jp, rfl⟩ : ∃ jp, j = jp + 1 := ⟨p'.length, by rw [hj, hp]; simp⟩
            have hjp : jp = p'.length := by rw [hp] at hj; simp at hj; omega
            have HJP := Lib.hid hjp
            have e1 : (p ++ x :: (q ++ zs.drop (i + 1)))[jp + 1]? = some x := by
              rw [List.getElem?_append_right (by omega), hj, Nat.sub_self]; rfl
            have e2 : (p ++ x :: (q ++ zs.drop (i + 1)))[jp]? = some y := by
              rw [List.getElem?_append_left (by omega), hp, List.getElem?_append_right (by omega), hjp, Nat.sub_self]; rfl
            obtain ⟨x', hx', c1, f1, hbw⟩ := ownsP_at HOJ.out (jp + 1) hjn
            obtain ⟨y', hy', c2, f2, _⟩ := ownsP_at HOJ.out jp (by omega)
            rw [e1] at hx'; rw [e2] at hy'
            obtain rfl : x = x' := by simpa using hx'
            obtain rfl : y = y' := by simpa using hy'
            obtain ⟨c1, c1b⟩ := c1; obtain ⟨f1, f1b⟩ := f1; obtain ⟨c2, c2b⟩ := c2; obtain ⟨f2, f2b⟩ := f2
            have HC1 := Lib.hid c1; have HC2 := Lib.hid c2; have HF1 := Lib.hid f1; have HF2 := Lib.hid f2
            have HC1b := Lib.hid c1b; have HC2b := Lib.hid c2b; have HF1b := Lib.hid f1b; have HF2b := Lib.hid f2b
            have hjn' : jp < N := by omega
            have i7 : ¬ jp * 2 = (jp + 1) * 2 := by omega
            have i8 : ¬ (jp + 1) * 2 = jp * 2 := by omega
            have i9 : ¬ jp * 2 + 1 = (jp + 1) * 2 := by omega
            have i10 : ¬ (jp + 1) * 2 = jp * 2 + 1 := by omega
            have i11 : ¬ jp * 2 = (jp + 1) * 2 + 1 := by omega
            have i12 : ¬ (jp + 1) * 2 + 1 = jp * 2 := by omega
            clear e1 e2 hx' hy' hj hp hjp
            obtain ⟨x1, x2⟩ := x
            obtain ⟨y1, y2⟩ := y
            simp only [] at c1 c1b c2 c2b
            by_cases hl1 : x1 < y1
            · have hl1' : decide (x1 < y1) = true := by simpa using hl1
              have HLX : Hid (ltOf pcmp (x1, x2) (y1, y2) = true) := Lib.hid (pcmp_lt.2 (.inl hl1))
              go_wp2_with ((refine wp_region_later_lit (by kernel_rfl) (by kernel_rfl) ?_; (repeat (go_big_quiet_step (fail))); refine wpQuiet_nil ?_; intro w5 hb5); have d1 := (hb5.cell (p := ⟨q0, (jp + 1) * 2, none⟩) hbw).trans HC1.out; have d2 := (hb5.cell (p := ⟨q0, jp * 2, none⟩) hbw).trans HC2.out; have d3 := (hb5.frozen (p := ⟨q0, (jp + 1) * 2, none⟩) hbw).trans HF1.out; have d4 := (hb5.frozen (p := ⟨q0, jp * 2, none⟩) hbw).trans HF2.out; have d5 := (hb5.cell (p := ⟨q0, (jp + 1) * 2 + 1, none⟩) hbw).trans HC1b.out; have d6 := (hb5.cell (p := ⟨q0, jp * 2 + 1, none⟩) hbw).trans HC2b.out; have d7 := (hb5.frozen (p := ⟨q0, (jp + 1) * 2 + 1, none⟩) hbw).trans HF1b.out; have d8 := (hb5.frozen (p := ⟨q0, jp * 2 + 1, none⟩) hbw).trans HF2b.out; simp only [] at d1 d2 d5 d6; have hq5 : q0 < w5.heap.size := Nat.lt_of_lt_of_le hbw hb5.size; have hq6 : ¬ q0 = w5.heap.size := by omega)
              go_roundw
              case rel =>
                refine ⟨jp, p', (y1, y2) :: q, by go_num, HJP.out, by rw [← HPQ.out, HP.out]; simp, ?_, ?_, ?_⟩
                · intro z hz
                  rcases List.mem_cons.1 hz with rfl | hz
                  · exact HLX.out
                  · exact HQ.out z hz
                · have h5 := ownsP_set (ownsP_set (owns_ext HOJ.out hb5) (jp + 1) (y1, y2)) jp (x1, x2)
                  have e5 : p ++ (x1, x2) :: (q ++ zs.drop (i + 1)) = p' ++ (y1, y2) :: (x1, x2) :: (q ++ zs.drop (i + 1)) := by rw [HP.out]; simp
                  rw [e5, swapP HJP.out] at h5
                  exact h5.alloc _
                · have h5 := (((((HBJ.out.trans (hb5.mono HBJ.out.size)).setCell (p := ⟨q0, (jp + 1) * 2, none⟩) hqB (.int .i64 y1)).setCell (p := ⟨q0, (jp + 1) * 2 + 1, none⟩) hqB (.int .i64 y2)).setCell (p := ⟨q0, jp * 2, none⟩) hqB (.int .i64 x1)).setCell (p := ⟨q0, jp * 2 + 1, none⟩) hqB (.int .i64 x2))
                  exact Below.alloc h5 h5.size _
              case measure => simp [intOf]
            · have hl1' : decide (x1 < y1) = false := by simpa using hl1
              by_cases hl2 : x1 = y1
              · have hl2' : (x1 == y1) = true := by simpa using hl2
                have HL2 := Lib.hid hl2
                clear hl2
                by_cases hl3 : x2 < y2
                · have hl3' : decide (x2 < y2) = true := by simpa using hl3
                  have HLX : Hid (ltOf pcmp (x1, x2) (y1, y2) = true) := Lib.hid (pcmp_lt.2 (.inr ⟨HL2.out, hl3⟩))
                  go_wp2_with ((refine wp_region_later_lit (by kernel_rfl) (by kernel_rfl) ?_; (repeat (go_big_quiet_step (fail))); refine wpQuiet_nil ?_; intro w5 hb5); have d1 := (hb5.cell (p := ⟨q0, (jp + 1) * 2, none⟩) hbw).trans HC1.out; have d2 := (hb5.cell (p := ⟨q0, jp * 2, none⟩) hbw).trans HC2.out; have d3 := (hb5.frozen (p := ⟨q0, (jp + 1) * 2, none⟩) hbw).trans HF1.out; have d4 := (hb5.frozen (p := ⟨q0, jp * 2, none⟩) hbw).trans HF2.out; have d5 := (hb5.cell (p := ⟨q0, (jp + 1) * 2 + 1, none⟩) hbw).trans HC1b.out; have d6 := (hb5.cell (p := ⟨q0, jp * 2 + 1, none⟩) hbw).trans HC2b.out; have d7 := (hb5.frozen (p := ⟨q0, (jp + 1) * 2 + 1, none⟩) hbw).trans HF1b.out; have d8 := (hb5.frozen (p := ⟨q0, jp * 2 + 1, none⟩) hbw).trans HF2b.out; simp only [] at d1 d2 d5 d6; have hq5 : q0 < w5.heap.size := Nat.lt_of_lt_of_le hbw hb5.size; have hq6 : ¬ q0 = w5.heap.size := by omega)
                  go_roundw
                  case rel =>
                    refine ⟨jp, p', (y1, y2) :: q, by go_num, HJP.out, by rw [← HPQ.out, HP.out]; simp, ?_, ?_, ?_⟩
                    · intro z hz
                      rcases List.mem_cons.1 hz with rfl | hz
                      · exact HLX.out
                      · exact HQ.out z hz
                    · have h5 := ownsP_set (ownsP_set (owns_ext HOJ.out hb5) (jp + 1) (y1, y2)) jp (x1, x2)
                      have e5 : p ++ (x1, x2) :: (q ++ zs.drop (i + 1)) = p' ++ (y1, y2) :: (x1, x2) :: (q ++ zs.drop (i + 1)) := by rw [HP.out]; simp
                      rw [e5, swapP HJP.out] at h5
                      exact h5.alloc _
                    · have h5 := (((((HBJ.out.trans (hb5.mono HBJ.out.size)).setCell (p := ⟨q0, (jp + 1) * 2, none⟩) hqB (.int .i64 y1)).setCell (p := ⟨q0, (jp + 1) * 2 + 1, none⟩) hqB (.int .i64 y2)).setCell (p := ⟨q0, jp * 2, none⟩) hqB (.int .i64 x1)).setCell (p := ⟨q0, jp * 2 + 1, none⟩) hqB (.int .i64 x2))
                      exact Below.alloc h5 h5.size _
                  case measure => simp [intOf]
                · have hl3' : decide (x2 < y2) = false := by simpa using hl3
                  have HLX : Hid (ltOf pcmp (x1, x2) (y1, y2) = false) := Lib.hid (pcmp_no.2 (by simp only []; omega))
                  go_wp2_with (refine wp_region_later_lit (by kernel_rfl) (by kernel_rfl) ?_; (repeat (go_big_quiet_step (fail))); refine wpQuiet_nil ?_; intro w5 hb5)
                  go_roundw
                  case rel =>
                    refine ⟨i + 1, by omega, by omega, by go_num, ?_, HBJ.out.trans (hb5.mono HBJ.out.size)⟩
                    rw [HEND.out (by rw [HP.out]; intro z hz; simp at hz; subst hz; exact HLX.out), List.append_assoc, List.cons_append]
                    exact owns_ext HOJ.out hb5
                  case measure => simp [intOf]; omega
              · have hl2' : (x1 == y1) = false := by simpa using hl2
                have HLX : Hid (ltOf pcmp (x1, x2) (y1, y2) = false) := Lib.hid (pcmp_no.2 (by simp only []; omega))
                go_wp2_with (refine wp_region_later_lit (by kernel_rfl) (by kernel_rfl) ?_; (repeat (go_big_quiet_step (fail))); refine wpQuiet_nil ?_; intro w5 hb5)
                go_roundw
                case rel =>
                  refine ⟨i + 1, by omega, by omega, by go_num, ?_, HBJ.out.trans (hb5.mono HBJ.out.size)⟩
                  rw [HEND.out (by rw [HP.out]; intro z hz; simp at hz; subst hz; exact HLX.out), List.append_assoc, List.cons_append]
                  exact owns_ext HOJ.out hb5
                case measure => simp [intOf]; omega
      · go_wp2
        go_ret2
        refine ⟨_, _, _, rfl, ?_, HBW.out⟩
        have hle : zs.length ≤ i := by rw [HZL.out]; omega
        have := HO.out
        rw [List.take_of_length_le hle, List.drop_of_length_le hle, List.append_nil, HRR.out] at this
        exact this
end Go.Proofs.Ytfiggbeaomkepaa.StP
