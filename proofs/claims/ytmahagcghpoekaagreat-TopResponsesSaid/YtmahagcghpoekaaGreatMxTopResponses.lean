/- The walk of TopResponses: it returns true. The conditions: the run reads as named. -/
import Derived.Test.YtmahagcghpoekaaGreatMg16
import Derived.Test.YtmahagcghpoekaaGreatMg17
namespace Go.Proofs.YtmahagcghpoekaaGreat
open Go.RowKit
set_option linter.unusedSimpArgs false
set_option linter.unusedVariables false
theorem acc_of {L : List Ta} {F S : Int} (h : accE L F S = 0) : okB L F S = true ∧ accB L F S = true := by
  unfold accE at h
  split at h
  · rename_i h1
    split at h
    · rename_i h2; exact ⟨h1, h2⟩
    · exact absurd h (by decide)
  · exact absurd h (by decide)
theorem resp_due {R : Rn} (h : runB R = true) (ha : alwR R = (true, 0)) (hacc : accB R.L R.fr R.sl = true) {i : Nat} (hi : i < R.L.length) :
    (0 ≤ respN R.L R.fr R.sl i ∧ respN R.L R.fr R.sl i ≤ (taAt R.L i).dl ∧ (taAt R.L i).dl ≤ 10000) ∧ ∀ (t k : Nat) (e : P2), (evA R i)[k]? = some e → e.1 + respN R.L R.fr R.sl i ≤ t → 0 ≤ endF (plM R t).o i k ∧ endF (plM R t).o i k ≤ e.1 + respN R.L R.fr R.sl i := by
  obtain ⟨hr, hvl, hsup, _⟩ := run_ok h
  have hv := valid_of hvl
  have hf := fair_of h ha
  have hs := (supB_iff.1 hsup)
  have hm := accB_iff.1 hacc i hi
  unfold meetB at hm
  rw [Bool.and_eq_true, decide_eq_true_eq, decide_eq_true_eq] at hm
  obtain ⟨W, hWe, hW1, hW2, hW3, _⟩ := (isWin R.L R.fr R.sl i).some_ (by omega)
  have hdl := hv.dl _ (ta_mem hi)
  have hg := hv.gap _ (ta_mem hi)
  have hj := hv.jit _ (ta_mem hi)
  have hrn : respN R.L R.fr R.sl i = (taAt R.L i).jit + W := by unfold respN; rw [hWe, if_neg (by omega)]
  refine ⟨by omega, fun t k e he hle => ?_⟩
  have := resp_by hr hf hv (by omega) hi hW1 hW3 (by omega) he (v := t) (by omega)
  rw [hrn]; omega
set_option maxRecDepth 100000 in
set_option maxHeartbeats 8000000 in
theorem responses_walk {w : World} (H : RunH) (R : Rn) (hR : ReadRun w H R) (hS : RunS H R) (t : Int) (ht : -9223372036854775808 ≤ t ∧ t ≤ 9223372036854775807) :
    Calls Tryz.prog 3 #[runV H R.fr R.sl, .int .i64 t] w fun e w' => e = .returned (.bool true) ∧ Below w.heap.size w w' := by
  have HH := Lib.hid (fun w1 (hb : Below w.heap.size w w1) => heavy_any H R w1 (hR.ext hb) hS)
  have HA := Lib.hid (fun w1 (hb : Below w.heap.size w w1) => Allowed_any H R w1 (hR.ext hb))
  have HLA := Lib.hid (fun w1 (hb : Below w.heap.size w w1) => letA_any H R w1 (hR.ext hb))
  have HAC := Lib.hid (fun w1 (hb : Below w.heap.size w w1) => Accept_any H.tA H.tN H.tC R.L R.fr R.sl w1 ((hR.ext hb).rd.t))
  have HRS := Lib.hid (fun w1 (hb : Below w.heap.size w w1) => Resps_any H.tA H.tN H.tC R.L R.fr R.sl w1 ((hR.ext hb).rd.t))
  have HEN := Lib.hid (fun w1 (hb : Below w.heap.size w w1) => Ends_any H R t w1 (hR.ext hb))
  obtain ⟨B, hB⟩ : ∃ B, heavyB R = B := ⟨_, rfl⟩
  rw [hB] at HH
  obtain ⟨⟨A, E⟩, hA⟩ : ∃ p, alwR R = p := ⟨_, rfl⟩
  rw [hA] at HA HLA
  obtain ⟨ac, hac⟩ : ∃ p, accE R.L R.fr R.sl = p := ⟨_, rfl⟩
  rw [hac] at HAC
  by_cases hall : (0 ≤ t ∧ t ≤ 2000) ∧ B = false ∧ A = true ∧ ac = 0
  · obtain ⟨ht2, rfl, rfl, rfl⟩ := hall
    have hE : E = 0 := by
      unfold alwR at hA
      split at hA
      · exact (congrArg Prod.snd hA).symm
      · exact absurd (congrArg Prod.fst hA) (by simp)
    subst hE
    have hrun : runB R = true := by
      unfold alwR at hA
      split at hA
      · assumption
      · exact absurd (congrArg Prod.fst hA) (by simp)
    obtain ⟨hok, hab⟩ := acc_of hac
    obtain ⟨tn, rfl⟩ := Int.eq_ofNat_of_zero_le ht2.1
    obtain ⟨hr, hvl, _⟩ := run_ok hrun
    have hv := valid_of hvl
    have hdue := fun i (hi : i < R.L.length) => resp_due hrun hA hab hi
    have hin : (runB R && inB (tn : Int) 0 2000) = true := by rw [hrun, Bool.true_and, inB_iff]; exact ht2
    unfold endN endE at HEN
    rw [hin, if_pos rfl, if_pos rfl] at HEN
    obtain ⟨X, hX⟩ : ∃ X, endX R (tn : Int) = X := ⟨_, rfl⟩
    have hX2 : endsRow R (plM R tn).o = X := by rw [← hX]; unfold endX; rw [Int.toNat_natCast]
    have hXl : ∀ i, (X i).length = (evA R i).length := fun i => by rw [← hX2]; exact endsRow_len _ _ _
    have hXg : ∀ i k, k < (evA R i).length → xAt X i k = endF (plM R tn).o i k := fun i k hk => by unfold xAt; rw [← hX2, endsRow_get hk]; rfl
    rw [hX] at HEN
    have hrsp : respsR R.L R.fr R.sl = ((List.range R.L.length).map (fun k => respN R.L R.fr R.sl k), 0) := by unfold respsR; rw [hok]; rfl
    rw [hrsp] at HRS
    obtain ⟨rs, hrs⟩ : ∃ rs, (List.range R.L.length).map (fun k => respN R.L R.fr R.sl k) = rs := ⟨_, rfl⟩
    have hrl : rs.length = R.L.length := by rw [← hrs]; simp
    have hrg : ∀ i, i < R.L.length → rs[i]? = some (respN R.L R.fr R.sl i) := fun i hi => by rw [← hrs]; simp [hi]
    rw [hrs] at HRS
    have HR := Lib.hid hR.rd; have HRN := Lib.hid hr; have HV := Lib.hid hv; have HXL := Lib.hid hXl
    have HDUE : Hid (∀ i, i < R.L.length → (0 ≤ respN R.L R.fr R.sl i ∧ respN R.L R.fr R.sl i ≤ (taAt R.L i).dl ∧ (taAt R.L i).dl ≤ 10000) ∧ ∀ (k : Nat) (e : P2), (evA R i)[k]? = some e → e.1 + respN R.L R.fr R.sl i ≤ (tn : Int) → 0 ≤ xAt X i k ∧ xAt X i k ≤ e.1 + respN R.L R.fr R.sl i) := Lib.hid (fun i hi => ⟨(hdue i hi).1, fun k e he hle => by rw [hXg i k (List.getElem?_eq_some_iff.1 he).1]; exact (hdue i hi).2 tn k e he hle⟩)
    have HRG := Lib.hid hrg
    have hTN := hR.t.length
    have hL5 := hr.r.len
    obtain ⟨nL, hnL⟩ : ∃ x, R.L.length = x := ⟨_, rfl⟩
    have HNL := Lib.hid hnL
    rw [hnL] at HEN hTN hL5 hrl HRG HDUE
    have HRL := Lib.hid hrl
    obtain ⟨fr, hfr⟩ : ∃ x, R.fr = x := ⟨_, rfl⟩
    obtain ⟨sl_, hsl⟩ : ∃ x, R.sl = x := ⟨_, rfl⟩
    rw [hfr, hsl] at HH HA HLA HAC HRS HEN HRG HDUE ⊢
    obtain ⟨tA, tN, tC, eA, eN, eC, bA, bN, bC, sA, sN, sC⟩ := H
    unfold runV at HH HA HLA HEN ⊢
    simp only [] at HH HA HLA HAC HRS HEN HR hTN ⊢
    obtain rfl : nL = tN := hTN
    have q1 : decide ((tn : Int) < 0) = false := by simp <;> omega
    have q2 : decide ((2000 : Int) < (tn : Int)) = false := by simp <;> omega
    have htn : tn ≤ 2000 := by omega
    clear hR hS hB hA hac hrun hok hab hr hvl hv hdue hin hX hX2 hXl hXg hrsp hrs hrl hrg hnL hfr hsl ht ht2
    go_enter Tryz.func3, Tryz.ntmps3
    go_upto_region 13 with (first | (go_at_call 5; (with_reducible refine (HH.out _ (by (repeat' (first | (with_reducible exact Below.refl _ _) | (with_reducible assumption) | (with_reducible refine Below.alloc ?_ ?_ _) | (with_reducible refine Below.drew ?_) | (with_reducible refine Below.draws ?_ _) | (with_reducible refine Below.setCell ?_ ?_ _) | (refine Below.then ?_ (by with_reducible assumption)) | go_size)))).mono ?_); rintro e w1 ⟨rfl, hb1⟩; have B1 : Hid (Below w.heap.size w w1) := Lib.hid (Below.trans (by (repeat' (first | (with_reducible exact Below.refl _ _) | (with_reducible assumption) | (with_reducible refine Below.alloc ?_ ?_ _) | (with_reducible refine Below.drew ?_) | (with_reducible refine Below.draws ?_ _) | (with_reducible refine Below.setCell ?_ ?_ _) | (refine Below.then ?_ (by with_reducible assumption)) | go_size))) (hb1.mono (by simp))); have z1 : w.heap.size < w1.heap.size := Nat.lt_of_lt_of_le (by simp) hb1.size; have c1_0 := (hb1.cell (p := ⟨w.heap.size, 0, none⟩) (by simp)).trans (by simp [go_sem]; rfl); have c1_1 := (hb1.cell (p := ⟨w.heap.size, 1, none⟩) (by simp)).trans (by simp [go_sem]; rfl); have c1_2 := (hb1.cell (p := ⟨w.heap.size, 2, none⟩) (by simp)).trans (by simp [go_sem]; rfl); have c1_3 := (hb1.cell (p := ⟨w.heap.size, 3, none⟩) (by simp)).trans (by simp [go_sem]; rfl); have c1_4 := (hb1.cell (p := ⟨w.heap.size, 4, none⟩) (by simp)).trans (by simp [go_sem]; rfl); have c1_5 := (hb1.cell (p := ⟨w.heap.size, 5, none⟩) (by simp)).trans (by simp [go_sem]; rfl); clear hb1) | (go_at_call 11; (with_reducible refine (HEN.out _ B5.out).mono ?_); rintro e w6 ⟨a6, x6, rfl, h6, hb6⟩; have HX6 := Lib.hid h6; have HK6 := Lib.hid (HK5.out.ext hb6); clear h6; have B6 := Lib.hid (Below.then B5.out hb6); have z6 : w.heap.size < w6.heap.size := Nat.lt_of_lt_of_le z5 hb6.size; have c6_0 := (hb6.cell (p := ⟨w.heap.size, 0, none⟩) z5).trans c5_0; have c6_1 := (hb6.cell (p := ⟨w.heap.size, 1, none⟩) z5).trans c5_1; have c6_2 := (hb6.cell (p := ⟨w.heap.size, 2, none⟩) z5).trans c5_2; have c6_3 := (hb6.cell (p := ⟨w.heap.size, 3, none⟩) z5).trans c5_3; have c6_4 := (hb6.cell (p := ⟨w.heap.size, 4, none⟩) z5).trans c5_4; have c6_5 := (hb6.cell (p := ⟨w.heap.size, 5, none⟩) z5).trans c5_5; clear hb6 c5_0 c5_1 c5_2 c5_3 c5_4 c5_5) | (go_at_call 10; (with_reducible refine (HRS.out _ B4.out).mono ?_); rintro e w5 ⟨a5, n5, x5, rfl, h5, hb5⟩; have HK5 := Lib.hid (ownsI_rd h5); have hn5 : nL = n5 := (by rw [← HK5.out.length]; exact HRL.out.symm); subst hn5; clear h5; have B5 := Lib.hid (Below.then B4.out hb5); have z5 : w.heap.size < w5.heap.size := Nat.lt_of_lt_of_le z4 hb5.size; have c5_0 := (hb5.cell (p := ⟨w.heap.size, 0, none⟩) z4).trans c4_0; have c5_1 := (hb5.cell (p := ⟨w.heap.size, 1, none⟩) z4).trans c4_1; have c5_2 := (hb5.cell (p := ⟨w.heap.size, 2, none⟩) z4).trans c4_2; have c5_3 := (hb5.cell (p := ⟨w.heap.size, 3, none⟩) z4).trans c4_3; have c5_4 := (hb5.cell (p := ⟨w.heap.size, 4, none⟩) z4).trans c4_4; have c5_5 := (hb5.cell (p := ⟨w.heap.size, 5, none⟩) z4).trans c4_5; clear hb5 c4_0 c4_1 c4_2 c4_3 c4_4 c4_5) | (go_at_call 9; (with_reducible refine (HAC.out _ (by first | exact B3.out | exact B3.out.drew)).mono ?_); rintro e w4 ⟨rfl, hb4x⟩; have hb4 : Below w3.heap.size w3 w4 := (by first | exact hb4x | exact Below.then (Below.refl w3.heap.size w3).drew hb4x); clear hb4x; have B4 := Lib.hid (Below.then B3.out hb4); have z4 : w.heap.size < w4.heap.size := Nat.lt_of_lt_of_le z3 hb4.size; have c4_0 := (hb4.cell (p := ⟨w.heap.size, 0, none⟩) z3).trans c3_0; have c4_1 := (hb4.cell (p := ⟨w.heap.size, 1, none⟩) z3).trans c3_1; have c4_2 := (hb4.cell (p := ⟨w.heap.size, 2, none⟩) z3).trans c3_2; have c4_3 := (hb4.cell (p := ⟨w.heap.size, 3, none⟩) z3).trans c3_3; have c4_4 := (hb4.cell (p := ⟨w.heap.size, 4, none⟩) z3).trans c3_4; have c4_5 := (hb4.cell (p := ⟨w.heap.size, 5, none⟩) z3).trans c3_5; clear hb4 c3_0 c3_1 c3_2 c3_3 c3_4 c3_5) | (go_at_call 8; (with_reducible refine (HLA.out _ B2.out).mono ?_); rintro e w3 ⟨rfl, hb3⟩; have B3 := Lib.hid (Below.then B2.out hb3); have z3 : w.heap.size < w3.heap.size := Nat.lt_of_lt_of_le z2 hb3.size; have c3_0 := (hb3.cell (p := ⟨w.heap.size, 0, none⟩) z2).trans c2_0; have c3_1 := (hb3.cell (p := ⟨w.heap.size, 1, none⟩) z2).trans c2_1; have c3_2 := (hb3.cell (p := ⟨w.heap.size, 2, none⟩) z2).trans c2_2; have c3_3 := (hb3.cell (p := ⟨w.heap.size, 3, none⟩) z2).trans c2_3; have c3_4 := (hb3.cell (p := ⟨w.heap.size, 4, none⟩) z2).trans c2_4; have c3_5 := (hb3.cell (p := ⟨w.heap.size, 5, none⟩) z2).trans c2_5; clear hb3 c2_0 c2_1 c2_2 c2_3 c2_4 c2_5) | (go_at_call 7; (with_reducible refine (HA.out _ B1.out).mono ?_); rintro e w2 ⟨rfl, hb2⟩; have B2 := Lib.hid (Below.then B1.out hb2); have z2 : w.heap.size < w2.heap.size := Nat.lt_of_lt_of_le z1 hb2.size; have c2_0 := (hb2.cell (p := ⟨w.heap.size, 0, none⟩) z1).trans c1_0; have c2_1 := (hb2.cell (p := ⟨w.heap.size, 1, none⟩) z1).trans c1_1; have c2_2 := (hb2.cell (p := ⟨w.heap.size, 2, none⟩) z1).trans c1_2; have c2_3 := (hb2.cell (p := ⟨w.heap.size, 3, none⟩) z1).trans c1_3; have c2_4 := (hb2.cell (p := ⟨w.heap.size, 4, none⟩) z1).trans c1_4; have c2_5 := (hb2.cell (p := ⟨w.heap.size, 5, none⟩) z1).trans c1_5; clear hb2 c1_0 c1_1 c1_2 c1_3 c1_4 c1_5) | (go_at_call 6; (with_reducible refine (saneA_any _).mono ?_); rintro e w9 ⟨rfl, hb9⟩))
    go_wp2
    go_loopw [13] (fun v wr => ∃ i : Nat, i ≤ nL ∧ v = .int .i64 i ∧ Below w6.heap.size w6 wr) (fun v _ => nL - (intOf v).toNat)
    case atStart => exact ⟨0, Nat.zero_le _, rfl, Below.refl _ _⟩
    case round =>
      obtain ⟨i, hi, rfl, hB⟩ := hrel
      have HB := Lib.hid hB
      by_cases hin : i < nL
      · have hiL : i < R.L.length := by rw [HNL.out]; exact hin
        have HBW := Lib.hid (Below.then B6.out hB)
        have HRW := Lib.hid (HR.out.ext HBW.out)
        have hie : i < eN := by have h1 := HR.out.e.len; have h2 := HRN.out.ev; simp only [] at h1; omega
        obtain ⟨xb, xo, xa, xn, xc, rfl, hxb, hxc, hxl, hxR⟩ := (HX6.out.ext hB).row hin
        obtain ⟨rv, rb, ro, rfl, hrb, hrc, hrv⟩ := (HK6.out.ext hB).idx i hin
        have hrv2 : respN R.L fr sl_ i = rv := by have := HRG.out i hin; rw [hrv] at this; simpa using this.symm
        obtain ⟨eb, eo, ea, en, ec, hea, heb, hec, hRd⟩ := HRW.out.e.at_ i hie
        simp only [] at hea
        have hlen : (evA R i).length = en := hRd.length
        have hxe : xn = en := by rw [← hxl, HXL.out, hlen]
        subst hxe
        obtain ⟨tk, tb, toff, pa, pn, pc, hta, htb, _, hdl, _, _, _, _, _, _, htk, _⟩ := HRW.out.t.at_ i (show i < nL from hin)
        simp only [] at hta
        have htaA : taAt R.L i = tk := taAt_of htk
        have hdue := HDUE.out i hin
        rw [hrv2, htaA] at hdue
        have hd1 : decide (tk.dl < rv) = false := by have := hdue.1.2.1; simp; omega
        have hrvb : 0 ≤ rv ∧ rv ≤ 10000 := by have := hdue.1; omega
        have HD2 := Lib.hid hdue.2
        have hkev : i < R.ev.length := by rw [HRN.out.ev]; exact hiL
        have HEL := Lib.hid ((HRN.out.el (evA R i) (by unfold evA; rw [List.getElem?_eq_getElem hkev]; exact List.getElem_mem hkev)).2)
        have hens := hRd.small
        have HRD := Lib.hid hRd; have HXR := Lib.hid hxR; have HLEN := Lib.hid hlen
        have d0 := (hB.cell (p := ⟨w.heap.size, 0, none⟩) z6).trans c6_0
        have d3 := (hB.cell (p := ⟨w.heap.size, 3, none⟩) z6).trans c6_3
        have zz := Nat.lt_of_lt_of_le z6 hB.size
        subst hea; subst hta
        have HCELL : Hid (∀ wz, Below wr.heap.size wr wz → wz.cell? ⟨w.heap.size, 3, none⟩ = some (.slice (some ⟨eb, eo, none⟩) eN eC) ∧ wz.cell? ⟨xb, xo + i, none⟩ = some (.slice xa xn xc) ∧ wz.cell? ⟨rb, ro + i, none⟩ = some (.int .i64 rv) ∧ wz.cell? ⟨eb, eo + i, none⟩ = some (.slice ea xn ec)) := Lib.hid (fun wz hz => ⟨(hz.cell (p := ⟨w.heap.size, 3, none⟩) zz).trans d3, (hz.cell (p := ⟨xb, xo + i, none⟩) hxb).trans hxc, (hz.cell (p := ⟨rb, ro + i, none⟩) hrb).trans hrc, (hz.cell (p := ⟨eb, eo + i, none⟩) heb).trans hec⟩)
        have htbz := World.block_lt_of_cell? _ _ hdl
        simp only [] at htbz
        clear hB hxl hxR hrv hrv2 hRd hlen htk htaA hdue
        go_upto_region 18 with (refine wp_region_later_lit (by kernel_rfl) (by kernel_rfl) ?_; (repeat (go_big_quiet_step (fail))); refine wpQuiet_nil ?_; intro w7 hb7)
        have HB7 := Lib.hid hb7
        have y1 := Nat.lt_of_lt_of_le zz hb7.size
        have y2 := Nat.lt_of_lt_of_le hxb hb7.size
        have y3 := Nat.lt_of_lt_of_le hrb hb7.size
        have y4 := Nat.lt_of_lt_of_le heb hb7.size
        clear d0 d3 hxc hrc hec hdl htbz hb7 hd1
        go_wp2
        go_loopw [14] (fun v wx => ∃ k : Nat, k ≤ xn ∧ v = .int .i64 k ∧ Below w7.heap.size w7 wx) (fun v _ => xn - (intOf v).toNat)
        case atStart => exact ⟨0, Nat.zero_le _, rfl, Below.refl _ _⟩
        case round =>
          obtain ⟨k, hk, rfl, hBx⟩ := hrel
          have HBX := Lib.hid hBx
          have hb7x := Below.then HB7.out hBx
          have HB7X := Lib.hid hb7x
          obtain ⟨f1, f2, f3, f4⟩ := HCELL.out _ hb7x
          have g1 := Nat.lt_of_lt_of_le y1 hBx.size
          have g2 := Nat.lt_of_lt_of_le y2 hBx.size
          have g3 := Nat.lt_of_lt_of_le y3 hBx.size
          have g4 := Nat.lt_of_lt_of_le y4 hBx.size
          by_cases hkn : k < xn
          · obtain ⟨ex, ey, vb, vo, rfl, hvb, c0, c1, hg, _⟩ := (HRD.out.ext hb7x).pc_at' k hkn
            obtain ⟨z, zb, zo, rfl, hzb, hzc, hzx⟩ := (HXR.out.ext hb7x).idx k hkn
            have l1 := HEL.out _ (List.mem_of_getElem? hg)
            simp only [] at l1
            have hxz : xAt X i k = z := by unfold xAt; rw [hzx]; rfl
            have hd2 := HD2.out k (ex, ey) hg
            rw [hxz] at hd2
            simp only [] at hd2
            have we : IntKind.i64.wrap (ex + rv) = ex + rv := IntWalk.i64_in _ (by omega)
            obtain ⟨D, hD⟩ : ∃ D, ex + rv = D := ⟨_, rfl⟩
            rw [hD] at hd2
            have we2 : IntKind.i64.wrap (ex + rv) = D := by rw [we, hD]
            have HZ2 : Hid (∀ wz, Below wr.heap.size wr wz → wz.cell? ⟨zb, zo + k, none⟩ = some (.int .i64 z) ∧ zb < wz.heap.size) := Lib.hid (fun wz hz => ⟨(hz.cell (p := ⟨zb, zo + k, none⟩) hzb).trans hzc, Nat.lt_of_lt_of_le hzb hz.size⟩)
            have HD3 := Lib.hid hd2
            clear hBx hb7x hg l1 hzx hxz hd2 we hD
            go_upto_region 22 with (refine wp_region_later_lit (by kernel_rfl) (by kernel_rfl) ?_; (repeat (go_big_quiet_step (fail))); refine wpQuiet_nil ?_; intro w8 hb8)
            obtain ⟨j2, j3⟩ := HZ2.out _ hb8
            obtain ⟨f1, f2, f3, f4⟩ := HCELL.out _ (Below.then HB7X.out hb8)
            have g2 := Nat.lt_of_lt_of_le g2 hb8.size
            have HB8 := Lib.hid (Below.then HBX.out hb8)
            have hd3 := HD3.out
            clear hb8 hzc c0 c1
            by_cases hdt : D ≤ (tn : Int)
            · have h1 := hd3 hdt
              have q3 : decide (D ≤ (tn : Int)) = true := by simpa using hdt
              have q4 : decide (z < 0) = false := by simp; omega
              have q5 : decide (D < z) = false := by simp; omega
              clear hd3 h1
              go_wp2_with fail
              go_roundw
              case rel => exact ⟨k + 1, hkn, by go_num, HB8.out⟩
              case measure => simp [intOf]; omega
            · have q3 : decide (D ≤ (tn : Int)) = false := by simpa using hdt
              clear hd3
              go_wp2_with fail
              go_roundw
              case rel => exact ⟨k + 1, hkn, by go_num, HB8.out⟩
              case measure => simp [intOf]; omega
          · have hke : k = xn := by omega
            subst hke
            clear hBx hb7x
            go_wp2_with fail
            go_roundw
            case rel => exact ⟨i + 1, hin, by go_num, Below.then HB.out HB7X.out⟩
            case measure => simp [intOf]; omega
      · clear hB
        go_wp2_with (go_at_call 6; (with_reducible refine (saneA_any _).mono ?_); rintro e w9 ⟨rfl, hb9⟩)
        go_ret
        exact ⟨rfl, Below.then (Below.then B6.out HB.out) hb9⟩
  · have hcases : (B = true) ∨ (B = false ∧ t < 0) ∨ (B = false ∧ 0 ≤ t ∧ 2000 < t) ∨ (B = false ∧ 0 ≤ t ∧ t ≤ 2000 ∧ A = false) ∨ (B = false ∧ 0 ≤ t ∧ t ≤ 2000 ∧ A = true ∧ ac ≠ 0) := by
      cases B
      · right
        by_cases h1 : t < 0
        · exact .inl ⟨rfl, h1⟩
        · by_cases h2 : 2000 < t
          · exact .inr (.inl ⟨rfl, by omega, h2⟩)
          · cases A
            · exact .inr (.inr (.inl ⟨rfl, by omega, by omega, rfl⟩))
            · exact .inr (.inr (.inr ⟨rfl, by omega, by omega, rfl, fun h => hall ⟨⟨by omega, by omega⟩, rfl, rfl, h⟩⟩))
      · exact .inl rfl
    clear HRS HEN hall
    obtain ⟨fr, hfr⟩ : ∃ x, R.fr = x := ⟨_, rfl⟩
    obtain ⟨sl_, hsl⟩ : ∃ x, R.sl = x := ⟨_, rfl⟩
    rw [hfr, hsl] at HH HA HLA HAC ⊢
    obtain ⟨tA, tN, tC, eA, eN, eC, bA, bN, bC, sA, sN, sC⟩ := H
    unfold runV at HH HA HLA ⊢
    simp only [] at HH HA HLA HAC ⊢
    clear hR hS hB hA hac hfr hsl
    rcases hcases with rfl | ⟨rfl, h1⟩ | ⟨rfl, h0, h1⟩ | ⟨rfl, h0, h1, rfl⟩ | ⟨rfl, h0, h1, rfl, h2⟩
    · go_enter Tryz.func3, Tryz.ntmps3
      go_wp2_with (first | (go_at_call 5; (with_reducible refine (HH.out _ (by (repeat' (first | (with_reducible exact Below.refl _ _) | (with_reducible assumption) | (with_reducible refine Below.alloc ?_ ?_ _) | (with_reducible refine Below.drew ?_) | (with_reducible refine Below.draws ?_ _) | (with_reducible refine Below.setCell ?_ ?_ _) | (refine Below.then ?_ (by with_reducible assumption)) | go_size)))).mono ?_); rintro e w1 ⟨rfl, hb1⟩; have B1 : Hid (Below w.heap.size w w1) := Lib.hid (Below.trans (by (repeat' (first | (with_reducible exact Below.refl _ _) | (with_reducible assumption) | (with_reducible refine Below.alloc ?_ ?_ _) | (with_reducible refine Below.drew ?_) | (with_reducible refine Below.draws ?_ _) | (with_reducible refine Below.setCell ?_ ?_ _) | (refine Below.then ?_ (by with_reducible assumption)) | go_size))) (hb1.mono (by simp))); have z1 : w.heap.size < w1.heap.size := Nat.lt_of_lt_of_le (by simp) hb1.size; have c1_0 := (hb1.cell (p := ⟨w.heap.size, 0, none⟩) (by simp)).trans (by simp [go_sem]; rfl); have c1_1 := (hb1.cell (p := ⟨w.heap.size, 1, none⟩) (by simp)).trans (by simp [go_sem]; rfl); have c1_2 := (hb1.cell (p := ⟨w.heap.size, 2, none⟩) (by simp)).trans (by simp [go_sem]; rfl); have c1_3 := (hb1.cell (p := ⟨w.heap.size, 3, none⟩) (by simp)).trans (by simp [go_sem]; rfl); have c1_4 := (hb1.cell (p := ⟨w.heap.size, 4, none⟩) (by simp)).trans (by simp [go_sem]; rfl); have c1_5 := (hb1.cell (p := ⟨w.heap.size, 5, none⟩) (by simp)).trans (by simp [go_sem]; rfl); clear hb1) | (go_at_call 6; (with_reducible refine (saneA_any _).mono ?_); rintro e w9 ⟨rfl, hb9⟩))
      go_ret
      exact ⟨rfl, Below.then B1.out hb9⟩
    · have q1 : decide (t < 0) = true := by simpa using h1
      go_enter Tryz.func3, Tryz.ntmps3
      go_wp2_with (first | (go_at_call 5; (with_reducible refine (HH.out _ (by (repeat' (first | (with_reducible exact Below.refl _ _) | (with_reducible assumption) | (with_reducible refine Below.alloc ?_ ?_ _) | (with_reducible refine Below.drew ?_) | (with_reducible refine Below.draws ?_ _) | (with_reducible refine Below.setCell ?_ ?_ _) | (refine Below.then ?_ (by with_reducible assumption)) | go_size)))).mono ?_); rintro e w1 ⟨rfl, hb1⟩; have B1 : Hid (Below w.heap.size w w1) := Lib.hid (Below.trans (by (repeat' (first | (with_reducible exact Below.refl _ _) | (with_reducible assumption) | (with_reducible refine Below.alloc ?_ ?_ _) | (with_reducible refine Below.drew ?_) | (with_reducible refine Below.draws ?_ _) | (with_reducible refine Below.setCell ?_ ?_ _) | (refine Below.then ?_ (by with_reducible assumption)) | go_size))) (hb1.mono (by simp))); have z1 : w.heap.size < w1.heap.size := Nat.lt_of_lt_of_le (by simp) hb1.size; have c1_0 := (hb1.cell (p := ⟨w.heap.size, 0, none⟩) (by simp)).trans (by simp [go_sem]; rfl); have c1_1 := (hb1.cell (p := ⟨w.heap.size, 1, none⟩) (by simp)).trans (by simp [go_sem]; rfl); have c1_2 := (hb1.cell (p := ⟨w.heap.size, 2, none⟩) (by simp)).trans (by simp [go_sem]; rfl); have c1_3 := (hb1.cell (p := ⟨w.heap.size, 3, none⟩) (by simp)).trans (by simp [go_sem]; rfl); have c1_4 := (hb1.cell (p := ⟨w.heap.size, 4, none⟩) (by simp)).trans (by simp [go_sem]; rfl); have c1_5 := (hb1.cell (p := ⟨w.heap.size, 5, none⟩) (by simp)).trans (by simp [go_sem]; rfl); clear hb1) | (go_at_call 6; (with_reducible refine (saneA_any _).mono ?_); rintro e w9 ⟨rfl, hb9⟩))
      go_ret
      exact ⟨rfl, Below.then B1.out hb9⟩
    · have q1 : decide (t < 0) = false := by simp; omega
      have q2 : decide (2000 < t) = true := by simpa using h1
      go_enter Tryz.func3, Tryz.ntmps3
      go_wp2_with (first | (go_at_call 5; (with_reducible refine (HH.out _ (by (repeat' (first | (with_reducible exact Below.refl _ _) | (with_reducible assumption) | (with_reducible refine Below.alloc ?_ ?_ _) | (with_reducible refine Below.drew ?_) | (with_reducible refine Below.draws ?_ _) | (with_reducible refine Below.setCell ?_ ?_ _) | (refine Below.then ?_ (by with_reducible assumption)) | go_size)))).mono ?_); rintro e w1 ⟨rfl, hb1⟩; have B1 : Hid (Below w.heap.size w w1) := Lib.hid (Below.trans (by (repeat' (first | (with_reducible exact Below.refl _ _) | (with_reducible assumption) | (with_reducible refine Below.alloc ?_ ?_ _) | (with_reducible refine Below.drew ?_) | (with_reducible refine Below.draws ?_ _) | (with_reducible refine Below.setCell ?_ ?_ _) | (refine Below.then ?_ (by with_reducible assumption)) | go_size))) (hb1.mono (by simp))); have z1 : w.heap.size < w1.heap.size := Nat.lt_of_lt_of_le (by simp) hb1.size; have c1_0 := (hb1.cell (p := ⟨w.heap.size, 0, none⟩) (by simp)).trans (by simp [go_sem]; rfl); have c1_1 := (hb1.cell (p := ⟨w.heap.size, 1, none⟩) (by simp)).trans (by simp [go_sem]; rfl); have c1_2 := (hb1.cell (p := ⟨w.heap.size, 2, none⟩) (by simp)).trans (by simp [go_sem]; rfl); have c1_3 := (hb1.cell (p := ⟨w.heap.size, 3, none⟩) (by simp)).trans (by simp [go_sem]; rfl); have c1_4 := (hb1.cell (p := ⟨w.heap.size, 4, none⟩) (by simp)).trans (by simp [go_sem]; rfl); have c1_5 := (hb1.cell (p := ⟨w.heap.size, 5, none⟩) (by simp)).trans (by simp [go_sem]; rfl); clear hb1) | (go_at_call 6; (with_reducible refine (saneA_any _).mono ?_); rintro e w9 ⟨rfl, hb9⟩))
      go_ret
      exact ⟨rfl, Below.then B1.out hb9⟩
    · have q1 : decide (t < 0) = false := by simp; omega
      have q2 : decide (2000 < t) = false := by simp; omega
      go_enter Tryz.func3, Tryz.ntmps3
      go_wp2_with (first | (go_at_call 5; (with_reducible refine (HH.out _ (by (repeat' (first | (with_reducible exact Below.refl _ _) | (with_reducible assumption) | (with_reducible refine Below.alloc ?_ ?_ _) | (with_reducible refine Below.drew ?_) | (with_reducible refine Below.draws ?_ _) | (with_reducible refine Below.setCell ?_ ?_ _) | (refine Below.then ?_ (by with_reducible assumption)) | go_size)))).mono ?_); rintro e w1 ⟨rfl, hb1⟩; have B1 : Hid (Below w.heap.size w w1) := Lib.hid (Below.trans (by (repeat' (first | (with_reducible exact Below.refl _ _) | (with_reducible assumption) | (with_reducible refine Below.alloc ?_ ?_ _) | (with_reducible refine Below.drew ?_) | (with_reducible refine Below.draws ?_ _) | (with_reducible refine Below.setCell ?_ ?_ _) | (refine Below.then ?_ (by with_reducible assumption)) | go_size))) (hb1.mono (by simp))); have z1 : w.heap.size < w1.heap.size := Nat.lt_of_lt_of_le (by simp) hb1.size; have c1_0 := (hb1.cell (p := ⟨w.heap.size, 0, none⟩) (by simp)).trans (by simp [go_sem]; rfl); have c1_1 := (hb1.cell (p := ⟨w.heap.size, 1, none⟩) (by simp)).trans (by simp [go_sem]; rfl); have c1_2 := (hb1.cell (p := ⟨w.heap.size, 2, none⟩) (by simp)).trans (by simp [go_sem]; rfl); have c1_3 := (hb1.cell (p := ⟨w.heap.size, 3, none⟩) (by simp)).trans (by simp [go_sem]; rfl); have c1_4 := (hb1.cell (p := ⟨w.heap.size, 4, none⟩) (by simp)).trans (by simp [go_sem]; rfl); have c1_5 := (hb1.cell (p := ⟨w.heap.size, 5, none⟩) (by simp)).trans (by simp [go_sem]; rfl); clear hb1) | (go_at_call 8; (with_reducible refine (HLA.out _ B2.out).mono ?_); rintro e w3 ⟨rfl, hb3⟩; have B3 := Lib.hid (Below.then B2.out hb3); have z3 : w.heap.size < w3.heap.size := Nat.lt_of_lt_of_le z2 hb3.size; have c3_0 := (hb3.cell (p := ⟨w.heap.size, 0, none⟩) z2).trans c2_0; have c3_1 := (hb3.cell (p := ⟨w.heap.size, 1, none⟩) z2).trans c2_1; have c3_2 := (hb3.cell (p := ⟨w.heap.size, 2, none⟩) z2).trans c2_2; have c3_3 := (hb3.cell (p := ⟨w.heap.size, 3, none⟩) z2).trans c2_3; have c3_4 := (hb3.cell (p := ⟨w.heap.size, 4, none⟩) z2).trans c2_4; have c3_5 := (hb3.cell (p := ⟨w.heap.size, 5, none⟩) z2).trans c2_5; clear hb3 c2_0 c2_1 c2_2 c2_3 c2_4 c2_5) | (go_at_call 7; (with_reducible refine (HA.out _ B1.out).mono ?_); rintro e w2 ⟨rfl, hb2⟩; have B2 := Lib.hid (Below.then B1.out hb2); have z2 : w.heap.size < w2.heap.size := Nat.lt_of_lt_of_le z1 hb2.size; have c2_0 := (hb2.cell (p := ⟨w.heap.size, 0, none⟩) z1).trans c1_0; have c2_1 := (hb2.cell (p := ⟨w.heap.size, 1, none⟩) z1).trans c1_1; have c2_2 := (hb2.cell (p := ⟨w.heap.size, 2, none⟩) z1).trans c1_2; have c2_3 := (hb2.cell (p := ⟨w.heap.size, 3, none⟩) z1).trans c1_3; have c2_4 := (hb2.cell (p := ⟨w.heap.size, 4, none⟩) z1).trans c1_4; have c2_5 := (hb2.cell (p := ⟨w.heap.size, 5, none⟩) z1).trans c1_5; clear hb2 c1_0 c1_1 c1_2 c1_3 c1_4 c1_5) | (go_at_call 6; (with_reducible refine (saneA_any _).mono ?_); rintro e w9 ⟨rfl, hb9⟩))
      go_ret
      exact ⟨rfl, Below.then B3.out hb9⟩
    · have q1 : decide (t < 0) = false := by simp; omega
      have q2 : decide (2000 < t) = false := by simp; omega
      have h2' : (ac != 0) = true := by simpa using h2
      go_enter Tryz.func3, Tryz.ntmps3
      go_wp2_with (first | (go_at_call 5; (with_reducible refine (HH.out _ (by (repeat' (first | (with_reducible exact Below.refl _ _) | (with_reducible assumption) | (with_reducible refine Below.alloc ?_ ?_ _) | (with_reducible refine Below.drew ?_) | (with_reducible refine Below.draws ?_ _) | (with_reducible refine Below.setCell ?_ ?_ _) | (refine Below.then ?_ (by with_reducible assumption)) | go_size)))).mono ?_); rintro e w1 ⟨rfl, hb1⟩; have B1 : Hid (Below w.heap.size w w1) := Lib.hid (Below.trans (by (repeat' (first | (with_reducible exact Below.refl _ _) | (with_reducible assumption) | (with_reducible refine Below.alloc ?_ ?_ _) | (with_reducible refine Below.drew ?_) | (with_reducible refine Below.draws ?_ _) | (with_reducible refine Below.setCell ?_ ?_ _) | (refine Below.then ?_ (by with_reducible assumption)) | go_size))) (hb1.mono (by simp))); have z1 : w.heap.size < w1.heap.size := Nat.lt_of_lt_of_le (by simp) hb1.size; have c1_0 := (hb1.cell (p := ⟨w.heap.size, 0, none⟩) (by simp)).trans (by simp [go_sem]; rfl); have c1_1 := (hb1.cell (p := ⟨w.heap.size, 1, none⟩) (by simp)).trans (by simp [go_sem]; rfl); have c1_2 := (hb1.cell (p := ⟨w.heap.size, 2, none⟩) (by simp)).trans (by simp [go_sem]; rfl); have c1_3 := (hb1.cell (p := ⟨w.heap.size, 3, none⟩) (by simp)).trans (by simp [go_sem]; rfl); have c1_4 := (hb1.cell (p := ⟨w.heap.size, 4, none⟩) (by simp)).trans (by simp [go_sem]; rfl); have c1_5 := (hb1.cell (p := ⟨w.heap.size, 5, none⟩) (by simp)).trans (by simp [go_sem]; rfl); clear hb1) | (go_at_call 9; (with_reducible refine (HAC.out _ (by first | exact B3.out | exact B3.out.drew)).mono ?_); rintro e w4 ⟨rfl, hb4x⟩; have hb4 : Below w3.heap.size w3 w4 := (by first | exact hb4x | exact Below.then (Below.refl w3.heap.size w3).drew hb4x); clear hb4x; have B4 := Lib.hid (Below.then B3.out hb4); have z4 : w.heap.size < w4.heap.size := Nat.lt_of_lt_of_le z3 hb4.size; have c4_0 := (hb4.cell (p := ⟨w.heap.size, 0, none⟩) z3).trans c3_0; have c4_1 := (hb4.cell (p := ⟨w.heap.size, 1, none⟩) z3).trans c3_1; have c4_2 := (hb4.cell (p := ⟨w.heap.size, 2, none⟩) z3).trans c3_2; have c4_3 := (hb4.cell (p := ⟨w.heap.size, 3, none⟩) z3).trans c3_3; have c4_4 := (hb4.cell (p := ⟨w.heap.size, 4, none⟩) z3).trans c3_4; have c4_5 := (hb4.cell (p := ⟨w.heap.size, 5, none⟩) z3).trans c3_5; clear hb4 c3_0 c3_1 c3_2 c3_3 c3_4 c3_5) | (go_at_call 8; (with_reducible refine (HLA.out _ B2.out).mono ?_); rintro e w3 ⟨rfl, hb3⟩; have B3 := Lib.hid (Below.then B2.out hb3); have z3 : w.heap.size < w3.heap.size := Nat.lt_of_lt_of_le z2 hb3.size; have c3_0 := (hb3.cell (p := ⟨w.heap.size, 0, none⟩) z2).trans c2_0; have c3_1 := (hb3.cell (p := ⟨w.heap.size, 1, none⟩) z2).trans c2_1; have c3_2 := (hb3.cell (p := ⟨w.heap.size, 2, none⟩) z2).trans c2_2; have c3_3 := (hb3.cell (p := ⟨w.heap.size, 3, none⟩) z2).trans c2_3; have c3_4 := (hb3.cell (p := ⟨w.heap.size, 4, none⟩) z2).trans c2_4; have c3_5 := (hb3.cell (p := ⟨w.heap.size, 5, none⟩) z2).trans c2_5; clear hb3 c2_0 c2_1 c2_2 c2_3 c2_4 c2_5) | (go_at_call 7; (with_reducible refine (HA.out _ B1.out).mono ?_); rintro e w2 ⟨rfl, hb2⟩; have B2 := Lib.hid (Below.then B1.out hb2); have z2 : w.heap.size < w2.heap.size := Nat.lt_of_lt_of_le z1 hb2.size; have c2_0 := (hb2.cell (p := ⟨w.heap.size, 0, none⟩) z1).trans c1_0; have c2_1 := (hb2.cell (p := ⟨w.heap.size, 1, none⟩) z1).trans c1_1; have c2_2 := (hb2.cell (p := ⟨w.heap.size, 2, none⟩) z1).trans c1_2; have c2_3 := (hb2.cell (p := ⟨w.heap.size, 3, none⟩) z1).trans c1_3; have c2_4 := (hb2.cell (p := ⟨w.heap.size, 4, none⟩) z1).trans c1_4; have c2_5 := (hb2.cell (p := ⟨w.heap.size, 5, none⟩) z1).trans c1_5; clear hb2 c1_0 c1_1 c1_2 c1_3 c1_4 c1_5) | (go_at_call 6; (with_reducible refine (saneA_any _).mono ?_); rintro e w9 ⟨rfl, hb9⟩))
      go_ret
      exact ⟨rfl, Below.then B4.out hb9⟩
end Go.Proofs.YtmahagcghpoekaaGreat
