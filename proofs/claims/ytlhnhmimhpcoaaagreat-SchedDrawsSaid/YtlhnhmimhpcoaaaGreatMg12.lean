/- The contract of heavy, as, entries of the law's package. The conditions: the run reads as named and its parts are not of all lengths. The contract of Valid of the reference. The conditions: the run reads as named. The contracts of as, entries; of the reference's Simulate on runs that are not valid. The conditions: the run reads as named. The contract of the reference's Simulate. The conditions: the run reads as named. -/
import Derived.Test.YtlhnhmimhpcoaaaGreatMg11
import Derived.Test.YtlhnhmimhpcoaaaGreatMg9
namespace Go.Proofs.YtlhnhmimhpcoaaaGreat
open Go.RowKit
set_option linter.unusedSimpArgs false
set_option linter.unusedVariables false
set_option maxRecDepth 100000 in
set_option maxHeartbeats 4000000 in
theorem heavy_any (H : RunH) (R : Rn) (w : World) (hR : ReadRun w H R) (hS : RunS H R) : Calls Tryz.prog 6 #[runV H R.fr R.sl] w fun e w' => e = .returned (.bool (heavyB R)) ∧ Below w.heap.size w w' := by
  have h1 := hR.t.length
  have h2 := hR.e.evs.len
  have h3 := hR.b.length
  have h4 := hR.s.length
  have t1 := hS.t; have t2 := hS.e; have t3 := hS.b; have t4 := hS.s
  have HE := Lib.hid hR.e.evs; have HT := Lib.hid hR.t
  have HSE := Lib.hid hS.v; have HSP := Lib.hid hS.p
  obtain ⟨B, hB⟩ : ∃ B, heavyB R = B := ⟨_, rfl⟩
  rw [hB]
  unfold heavyB at hB
  have ha : hvA R = H.tN + H.eN + H.bN + H.sN := by unfold hvA; rw [h1, h2, h3, h4]
  rw [ha] at hB
  have HL1 := Lib.hid h1; have HL2 := Lib.hid h2
  obtain ⟨fr, hfr⟩ : ∃ x, R.fr = x := ⟨_, rfl⟩
  obtain ⟨sl_, hsl⟩ : ∃ x, R.sl = x := ⟨_, rfl⟩
  rw [hfr, hsl]
  obtain ⟨tA, tN, tC, eA, eN, eC, bA, bN, bC, sA, sN, sC⟩ := H
  unfold runV
  simp only [] at hB t1 t2 t3 t4 HE HT HL1 HL2 ⊢
  have w1 : IntKind.i64.wrap ((tN : Int) + (eN : Int)) = (tN : Int) + (eN : Int) := IntWalk.i64_in _ (by omega)
  have w2 : IntKind.i64.wrap ((tN : Int) + (eN : Int) + (bN : Int)) = (tN : Int) + (eN : Int) + (bN : Int) := IntWalk.i64_in _ (by omega)
  have w3 : IntKind.i64.wrap ((tN : Int) + (eN : Int) + (bN : Int) + (sN : Int)) = (tN : Int) + (eN : Int) + (bN : Int) + (sN : Int) := IntWalk.i64_in _ (by omega)
  clear hR hS h1 h2 h3 h4 hfr hsl ha
  by_cases q : 300 < tN + eN + bN + sN
  · have q' : (300 : Int) < (tN : Int) + (eN : Int) + (bN : Int) + (sN : Int) := by omega
    obtain rfl : B = true := by simpa [q] using hB.symm
    clear hB
    go_enter Tryz.func6, Tryz.ntmps6
    go_wp2
    go_ret
    exact ⟨rfl, by (repeat' (first | (with_reducible exact Below.refl _ _) | (with_reducible assumption) | (with_reducible refine Below.alloc ?_ ?_ _) | (with_reducible refine Below.drew ?_) | (with_reducible refine Below.draws ?_ _) | (with_reducible refine Below.setCell ?_ ?_ _) | (refine Below.then ?_ (by with_reducible assumption)) | go_size))⟩
  · have q' : ¬ (300 : Int) < (tN : Int) + (eN : Int) + (bN : Int) + (sN : Int) := by omega
    obtain ⟨A, hA⟩ : ∃ x, tN + eN + bN + sN = x := ⟨_, rfl⟩
    have hA' : (tN : Int) + (eN : Int) + (bN : Int) + (sN : Int) = (A : Int) := by omega
    rw [hA] at hB q
    have HA' := Lib.hid hA'
    rw [decide_eq_false q, Bool.false_or] at hB
    obtain ⟨n1, hn1⟩ : ∃ x, hvE R.ev A = x := ⟨_, rfl⟩
    rw [hn1] at hB
    have HN1 : Hid (hvE (R.ev.drop 0) A = n1) := Lib.hid hn1
    have HB := Lib.hid hB
    have hA3 : A ≤ 300 := by omega
    have he3 : eN ≤ 300 := by omega
    have ht3 : tN ≤ 300 := by omega
    clear hB hn1 hA hA'
    go_enter Tryz.func6, Tryz.ntmps6
    go_wp2
    rw [HA'.out]
    clear w1 w2 w3 q'
    obtain ⟨wb, hwb⟩ : ∃ x, x = w.alloc (.cells #[.slice tA tN tC, .int .i64 fr, .int .i64 sl_, .slice eA eN eC, .slice bA bN bC, .slice sA sN sC] 29) := ⟨_, rfl⟩
    have c0 : wb.cell? ⟨w.heap.size, 0, none⟩ = some (.slice tA tN tC) := by rw [hwb]; simp [go_sem]
    have c3 : wb.cell? ⟨w.heap.size, 3, none⟩ = some (.slice eA eN eC) := by rw [hwb]; simp [go_sem]
    have hbw : Below w.heap.size w wb := by rw [hwb]; (repeat' (first | (with_reducible exact Below.refl _ _) | (with_reducible assumption) | (with_reducible refine Below.alloc ?_ ?_ _) | (with_reducible refine Below.drew ?_) | (with_reducible refine Below.draws ?_ _) | (with_reducible refine Below.setCell ?_ ?_ _) | (refine Below.then ?_ (by with_reducible assumption)) | go_size))
    have HE2 := Lib.hid (HE.out.ext hbw); have HT2 := Lib.hid (HT.out.ext hbw); have HBW := Lib.hid hbw
    rw [← hwb]
    clear hwb hbw
    go_loopw [3, 4] (fun v i wr => ∃ (k x : Nat), k ≤ eN ∧ v = .int .i64 x ∧ i = .int .i64 k ∧ hvE (R.ev.drop k) x = n1 ∧ x ≤ 300 + k * 281474976710656 ∧ wb = wr) (fun _ i _ => eN - (intOf i).toNat)
    case atStart => exact ⟨0, A, Nat.zero_le _, rfl, rfl, HN1.out, by omega, rfl⟩
    case round =>
      clear HN1
      obtain ⟨k, x, hk, rfl, rfl, hN, hx, rfl⟩ := hrel
      have HN := Lib.hid hN
      by_cases hlt : k < eN
      · obtain ⟨b, off, ea, en, ec, rfl, hb, hc, hRd⟩ := HE2.out.at_ k hlt
        have hkl : k < R.ev.length := by rw [HL2.out]; exact hlt
        have hel := HSE.out _ (List.getElem_mem hkl)
        have hen : en = (R.ev[k]).length := by
          have := hRd.length
          unfold evAt at this
          rw [List.getElem?_eq_getElem hkl] at this
          exact this.symm
        rw [List.drop_eq_getElem_cons hkl, hvE, ← hen] at hN
        have HN2 := Lib.hid hN
        have hmul : k * 281474976710656 ≤ 300 * 281474976710656 := Nat.mul_le_mul_right _ (by omega)
        have wx : IntKind.i64.wrap ((x : Int) + (en : Int)) = ((x + en : Nat) : Int) := by rw [IntWalk.i64_in _ (by omega)]; omega
        have hstep : x + en ≤ 300 + (k + 1) * 281474976710656 := by rw [Nat.add_mul]; omega
        clear hN hRd hel hen hmul
        go_wp2
        go_roundw
        case rel => exact ⟨k + 1, x + en, hlt, rfl, by go_num, HN2.out, hstep, by first | rfl | trivial⟩
        case measure => simp [intOf]; omega
      · have hxe : x = n1 := by
          rw [List.drop_of_length_le (by rw [HL2.out]; omega)] at hN
          exact hN
        subst hxe
        have hx2 : x ≤ 300 + 300 * 281474976710656 := by
          have : k * 281474976710656 ≤ 300 * 281474976710656 := Nat.mul_le_mul_right _ (by omega)
          exact Nat.le_trans hx (Nat.add_le_add_left this 300)
        have HB2 : Hid (decide (1000 < hvT (R.L.drop 0) x) = B) := HB
        clear hN hx HN
        go_wp2
        go_loopw [3, 5] (fun v i wr => ∃ (k y : Nat), k ≤ tN ∧ v = .int .i64 y ∧ i = .int .i64 k ∧ decide (1000 < hvT (R.L.drop k) y) = B ∧ y ≤ 300 + 300 * 281474976710656 + k * 281474976710656 ∧ wb = wr) (fun _ i _ => tN - (intOf i).toNat)
        case atStart => exact ⟨0, x, Nat.zero_le _, rfl, rfl, HB2.out, by rw [Nat.zero_mul, Nat.add_zero]; exact hx2, rfl⟩
        case round =>
          clear HB HB2
          obtain ⟨k2, y, hk2, rfl, rfl, hN, hy, rfl⟩ := hrel
          by_cases hlt2 : k2 < tN
          · obtain ⟨t, b, off, pa, pn, pc, rfl, hb, _, _, _, _, _, c5, hp, _, hg, _⟩ := HT2.out.at_ k2 hlt2
            have hkl : k2 < R.L.length := by rw [HL1.out]; exact hlt2
            have htm := List.mem_of_getElem? hg
            have hpl := HSP.out _ htm
            have hen : pn = t.pcs.length := hp.length.symm
            have hge : R.L[k2] = t := by have := List.getElem?_eq_getElem hkl; rw [hg] at this; simpa using this.symm
            rw [List.drop_eq_getElem_cons hkl, hvT, hge, ← hen] at hN
            have HN2 := Lib.hid hN
            have hmul : k2 * 281474976710656 ≤ 300 * 281474976710656 := Nat.mul_le_mul_right _ (by omega)
            have wx : IntKind.i64.wrap ((y : Int) + (pn : Int)) = ((y + pn : Nat) : Int) := by rw [IntWalk.i64_in _ (by omega)]; omega
            have hstep : y + pn ≤ 300 + 300 * 281474976710656 + (k2 + 1) * 281474976710656 := by rw [Nat.add_mul (k2)]; omega
            clear hN hp hg hpl hen hge hmul htm
            go_wp2
            go_roundw
            case rel => exact ⟨k2 + 1, y + pn, hlt2, rfl, by go_num, HN2.out, hstep, by first | rfl | trivial⟩
            case measure => simp [intOf]; omega
          · rw [List.drop_of_length_le (by rw [HL1.out]; omega), hvT] at hN
            have hN2 : decide ((1000 : Int) < (y : Int)) = B := by rw [← hN]; simp; omega
            clear hN
            go_wp2
            go_ret
            exact ⟨rfl, HBW.out⟩
end Go.Proofs.YtlhnhmimhpcoaaaGreat
namespace Go.Proofs.YtlhnhmimhpcoaaaGreat
open Go.RowKit
set_option linter.unusedSimpArgs false
set_option linter.unusedVariables false
set_option maxRecDepth 100000 in
set_option maxHeartbeats 8000000 in
theorem rValid_run (H : RunH) (R : Rn) (w : World) (hR : ReadRun w H R) : Calls Tryz.prog 27 #[runV H R.fr R.sl] w fun e w' => e = .returned (.bool (runB R)) ∧ Below w.heap.size w w' := by
  have h1 := hR.t.length
  have h2 := hR.e.evs.len
  have h3 := hR.b.length
  have h4 := hR.s.length
  have s1 := hR.t.small; have s2 := hR.e.evs.sm; have s3 := hR.b.small; have s4 := hR.s.small
  obtain ⟨B, hB⟩ : ∃ B, runB R = B := ⟨_, rfl⟩
  rw [hB]
  unfold runB at hB
  rw [h1, h2, h3, h4] at hB
  obtain ⟨V1, e1⟩ : ∃ x, validL R.L = x := ⟨_, rfl⟩
  obtain ⟨V2, e2⟩ : ∃ x, supB R.fr R.sl = x := ⟨_, rfl⟩
  obtain ⟨V8, e8⟩ : ∃ x, R.sg.all (sgB H.tN) = x := ⟨_, rfl⟩
  rw [e1, e2, e8] at hB
  have E1' := Lib.hid e1; have E2' := Lib.hid e2; have E8 := Lib.hid e8
  obtain ⟨fr, hfr⟩ : ∃ x, R.fr = x := ⟨_, rfl⟩
  obtain ⟨sl_, hsl⟩ : ∃ x, R.sl = x := ⟨_, rfl⟩
  rw [hfr, hsl]
  rw [hfr, hsl] at E2'
  have HT := Lib.hid hR.t; have HE := Lib.hid hR.e.evs; have HBU := Lib.hid hR.b; have HSG := Lib.hid hR.s
  obtain ⟨tA, tN, tC, eA, eN, eC, bA, bN, bC, sA, sN, sC⟩ := H
  simp only [] at h1 h2 h3 h4 s1 s2 s3 s4 hB HT HE HBU HSG E8
  unfold runV
  simp only []
  have HH1 := Lib.hid h1; have HH2 := Lib.hid h2; have HH3 := Lib.hid h3; have HH4 := Lib.hid h4
  clear hR e1 e2 e8 hfr hsl h1 h2 h3 h4
  cases V1
  · obtain rfl : B = false := by simpa using hB.symm
    clear hB
    go_enter Tryz.func27, Tryz.ntmps27
    go_wp2_with (go_at_call 68; (with_reducible refine (rValid_is (HT.out.ext (by (repeat' (first | (with_reducible exact Below.refl _ _) | (with_reducible assumption) | (with_reducible refine Below.alloc ?_ ?_ _) | (with_reducible refine Below.drew ?_) | (with_reducible refine Below.draws ?_ _) | (with_reducible refine Below.setCell ?_ ?_ _) | (refine Below.then ?_ (by with_reducible assumption)) | go_size)))) E1'.out).mono ?_); rintro e w2 ⟨rfl, hb2⟩; have B2 : Hid (Below w.heap.size w w2) := Lib.hid (Below.trans (by (repeat' (first | (with_reducible exact Below.refl _ _) | (with_reducible assumption) | (with_reducible refine Below.alloc ?_ ?_ _) | (with_reducible refine Below.drew ?_) | (with_reducible refine Below.draws ?_ _) | (with_reducible refine Below.setCell ?_ ?_ _) | (refine Below.then ?_ (by with_reducible assumption)) | go_size))) (hb2.mono (by simp))); have z2 : w.heap.size < w2.heap.size := Nat.lt_of_lt_of_le (by simp) hb2.size; have c0 := (hb2.cell (p := ⟨w.heap.size, 0, none⟩) (by simp)).trans (by simp [go_sem]; rfl); have c1 := (hb2.cell (p := ⟨w.heap.size, 1, none⟩) (by simp)).trans (by simp [go_sem]; rfl); have c2 := (hb2.cell (p := ⟨w.heap.size, 2, none⟩) (by simp)).trans (by simp [go_sem]; rfl); have c3 := (hb2.cell (p := ⟨w.heap.size, 3, none⟩) (by simp)).trans (by simp [go_sem]; rfl); have c4 := (hb2.cell (p := ⟨w.heap.size, 4, none⟩) (by simp)).trans (by simp [go_sem]; rfl); have c5 := (hb2.cell (p := ⟨w.heap.size, 5, none⟩) (by simp)).trans (by simp [go_sem]; rfl); clear hb2)
    go_ret
    exact ⟨rfl, B2.out⟩
  · cases V2
    · obtain rfl : B = false := by simpa using hB.symm
      clear hB
      go_enter Tryz.func27, Tryz.ntmps27
      go_wp2_with (first | (go_at_call 68; (with_reducible refine (rValid_is (HT.out.ext (by (repeat' (first | (with_reducible exact Below.refl _ _) | (with_reducible assumption) | (with_reducible refine Below.alloc ?_ ?_ _) | (with_reducible refine Below.drew ?_) | (with_reducible refine Below.draws ?_ _) | (with_reducible refine Below.setCell ?_ ?_ _) | (refine Below.then ?_ (by with_reducible assumption)) | go_size)))) E1'.out).mono ?_); rintro e w2 ⟨rfl, hb2⟩; have B2 : Hid (Below w.heap.size w w2) := Lib.hid (Below.trans (by (repeat' (first | (with_reducible exact Below.refl _ _) | (with_reducible assumption) | (with_reducible refine Below.alloc ?_ ?_ _) | (with_reducible refine Below.drew ?_) | (with_reducible refine Below.draws ?_ _) | (with_reducible refine Below.setCell ?_ ?_ _) | (refine Below.then ?_ (by with_reducible assumption)) | go_size))) (hb2.mono (by simp))); have z2 : w.heap.size < w2.heap.size := Nat.lt_of_lt_of_le (by simp) hb2.size; have c0 := (hb2.cell (p := ⟨w.heap.size, 0, none⟩) (by simp)).trans (by simp [go_sem]; rfl); have c1 := (hb2.cell (p := ⟨w.heap.size, 1, none⟩) (by simp)).trans (by simp [go_sem]; rfl); have c2 := (hb2.cell (p := ⟨w.heap.size, 2, none⟩) (by simp)).trans (by simp [go_sem]; rfl); have c3 := (hb2.cell (p := ⟨w.heap.size, 3, none⟩) (by simp)).trans (by simp [go_sem]; rfl); have c4 := (hb2.cell (p := ⟨w.heap.size, 4, none⟩) (by simp)).trans (by simp [go_sem]; rfl); have c5 := (hb2.cell (p := ⟨w.heap.size, 5, none⟩) (by simp)).trans (by simp [go_sem]; rfl); clear hb2) | (go_at_call 69; (with_reducible refine (rsupV_is E2'.out).mono ?_); rintro e w3 ⟨rfl, hb3⟩; have B3 := Lib.hid (Below.then B2.out hb3); have z3 : w.heap.size < w3.heap.size := Nat.lt_of_lt_of_le z2 hb3.size; have d0 := (hb3.cell (p := ⟨w.heap.size, 0, none⟩) z2).trans c0; have d2 := (hb3.cell (p := ⟨w.heap.size, 3, none⟩) z2).trans c3; have d3 := (hb3.cell (p := ⟨w.heap.size, 4, none⟩) z2).trans c4; have d4 := (hb3.cell (p := ⟨w.heap.size, 5, none⟩) z2).trans c5; clear hb3 c0 c1 c2 c3 c4 c5))
      go_ret
      exact ⟨rfl, B3.out⟩
    · have hn5 : tN ≤ 5 := by rw [← HH1.out]; exact (valid_of E1'.out).r.len
      by_cases q3 : eN = tN
      · by_cases q4 : bN = tN
        · by_cases q5 : sN ≤ 40
          · rw [decide_eq_true q3, decide_eq_true q4, decide_eq_true q5] at hB
            have q3' : ((eN : Int) != (tN : Int)) = false := by simp; omega
            have q4' : ((bN : Int) != (tN : Int)) = false := by simp; omega
            have q5' : decide ((40 : Int) < (sN : Int)) = false := by simp; omega
            have HB0 : Hid (((R.ev.drop 0).all evB && ((R.bu.drop 0).all (fun b => inB b 0 1000) && V8)) = B) := Lib.hid (by simpa using hB)
            have Q3 := Lib.hid q3; have Q4 := Lib.hid q4
            clear hB q3 q4
            go_enter Tryz.func27, Tryz.ntmps27
            go_wp2_with (first | (go_at_call 68; (with_reducible refine (rValid_is (HT.out.ext (by (repeat' (first | (with_reducible exact Below.refl _ _) | (with_reducible assumption) | (with_reducible refine Below.alloc ?_ ?_ _) | (with_reducible refine Below.drew ?_) | (with_reducible refine Below.draws ?_ _) | (with_reducible refine Below.setCell ?_ ?_ _) | (refine Below.then ?_ (by with_reducible assumption)) | go_size)))) E1'.out).mono ?_); rintro e w2 ⟨rfl, hb2⟩; have B2 : Hid (Below w.heap.size w w2) := Lib.hid (Below.trans (by (repeat' (first | (with_reducible exact Below.refl _ _) | (with_reducible assumption) | (with_reducible refine Below.alloc ?_ ?_ _) | (with_reducible refine Below.drew ?_) | (with_reducible refine Below.draws ?_ _) | (with_reducible refine Below.setCell ?_ ?_ _) | (refine Below.then ?_ (by with_reducible assumption)) | go_size))) (hb2.mono (by simp))); have z2 : w.heap.size < w2.heap.size := Nat.lt_of_lt_of_le (by simp) hb2.size; have c0 := (hb2.cell (p := ⟨w.heap.size, 0, none⟩) (by simp)).trans (by simp [go_sem]; rfl); have c1 := (hb2.cell (p := ⟨w.heap.size, 1, none⟩) (by simp)).trans (by simp [go_sem]; rfl); have c2 := (hb2.cell (p := ⟨w.heap.size, 2, none⟩) (by simp)).trans (by simp [go_sem]; rfl); have c3 := (hb2.cell (p := ⟨w.heap.size, 3, none⟩) (by simp)).trans (by simp [go_sem]; rfl); have c4 := (hb2.cell (p := ⟨w.heap.size, 4, none⟩) (by simp)).trans (by simp [go_sem]; rfl); have c5 := (hb2.cell (p := ⟨w.heap.size, 5, none⟩) (by simp)).trans (by simp [go_sem]; rfl); clear hb2) | (go_at_call 69; (with_reducible refine (rsupV_is E2'.out).mono ?_); rintro e w3 ⟨rfl, hb3⟩; have B3 := Lib.hid (Below.then B2.out hb3); have z3 : w.heap.size < w3.heap.size := Nat.lt_of_lt_of_le z2 hb3.size; have d0 := (hb3.cell (p := ⟨w.heap.size, 0, none⟩) z2).trans c0; have d2 := (hb3.cell (p := ⟨w.heap.size, 3, none⟩) z2).trans c3; have d3 := (hb3.cell (p := ⟨w.heap.size, 4, none⟩) z2).trans c4; have d4 := (hb3.cell (p := ⟨w.heap.size, 5, none⟩) z2).trans c5; clear hb3 c0 c1 c2 c3 c4 c5))
            have HE2 := Lib.hid (HE.out.ext B3.out); have HBU2 := Lib.hid (HBU.out.ext B3.out); have HSG2 := Lib.hid (HSG.out.ext B3.out)
            clear q3' q4' q5' B2 z2 HE HBU HSG HT
            go_loopw [3] (fun i wr => ∃ k : Nat, k ≤ eN ∧ i = .int .i64 k ∧ ((R.ev.drop k).all evB && ((R.bu.drop k).all (fun b => inB b 0 1000) && V8)) = B ∧ Below w3.heap.size w3 wr) (fun i _ => eN - (intOf i).toNat)
            case atStart => exact ⟨0, Nat.zero_le _, rfl, HB0.out, Below.refl _ _⟩
            case round =>
              clear HB0
              obtain ⟨k, hk, rfl, hX, hB⟩ := hrel
              have HB := Lib.hid hB
              have f0 := (hB.cell (p := ⟨w.heap.size, 0, none⟩) z3).trans d0
              have f2 := (hB.cell (p := ⟨w.heap.size, 3, none⟩) z3).trans d2
              have f3 := (hB.cell (p := ⟨w.heap.size, 4, none⟩) z3).trans d3
              have f4 := (hB.cell (p := ⟨w.heap.size, 5, none⟩) z3).trans d4
              by_cases hlt : k < eN
              · obtain ⟨b, off, ea, en, ec, rfl, hb, hc, hRd⟩ := HE2.out.at_ k hlt
                have hkl : k < R.ev.length := by rw [HH2.out]; exact hlt
                have hbl : k < R.bu.length := by rw [HH3.out]; have := Q3.out; have := Q4.out; omega
                obtain ⟨es, hes⟩ : ∃ x, R.ev[k] = x := ⟨_, rfl⟩
                have hev : evAt R.ev k = es := by unfold evAt; rw [List.getElem?_eq_getElem hkl]; exact hes
                rw [hev] at hRd
                have HRD := Lib.hid (hRd.ext hB)
                have hen : en = es.length := hRd.length.symm
                obtain ⟨x, b2, off2, rfl, hb2, hc2, hx⟩ := HBU2.out.idx k (by rw [← HBU2.out.length]; exact hbl)
                have hbx : R.bu[k] = x := by have := List.getElem?_eq_getElem hbl; rw [hx] at this; simpa using this.symm
                rw [List.drop_eq_getElem_cons hkl, List.drop_eq_getElem_cons hbl, List.all_cons, List.all_cons, hes, hbx] at hX
                have hcw := (hB.cell (p := ⟨b, off + k, none⟩) hb).trans hc
                have hcw2 := (hB.cell (p := ⟨b2, off2 + k, none⟩) hb2).trans hc2
                have hens := hRd.small
                have hkb : k < bN := by rw [← HH3.out]; exact hbl
                by_cases q6 : 40 < en
                · obtain rfl : B = false := by
                    have : evB es = false := by unfold evB; rw [decide_eq_false (by omega), Bool.and_false]
                    rw [this] at hX; simpa using hX.symm
                  have q6' : (40 : Int) < (en : Int) := by omega
                  clear hX hRd hes hev hbx hx hc hc2 hen hB
                  go_wp2
                  go_ret
                  exact ⟨rfl, Below.then B3.out HB.out⟩
                · have q6' : ¬ (40 : Int) < (en : Int) := by omega
                  cases hbi : inB x 0 1000
                  · obtain rfl : B = false := by rw [hbi] at hX; simpa using hX.symm
                    have HBI := Lib.hid hbi
                    clear hX hRd hes hev hbx hx hc hc2 hen hB hbi
                    go_wp2_with (go_at_call 53; (with_reducible refine (cin_is HBI.out).mono ?_); rintro e w4 ⟨rfl, rfl⟩)
                    go_ret
                    exact ⟨rfl, Below.then B3.out HB.out⟩
                  · have HBI := Lib.hid hbi
                    obtain ⟨X, hXX⟩ : ∃ X, ((R.ev.drop (k + 1)).all evB && ((R.bu.drop (k + 1)).all (fun b => inB b 0 1000) && V8)) = X := ⟨_, rfl⟩
                    have HXX := Lib.hid hXX
                    have HX0 : Hid ((okFrom (prvE es 0) (es.drop 0) && X) = B) := Lib.hid (by
                      rw [hbi, show evB es = okFrom none es by unfold evB; rw [decide_eq_true (by omega), Bool.and_true]] at hX
                      rw [← hX, ← hXX, List.drop_zero]
                      simp only [prvE, Bool.true_and, Bool.and_assoc])
                    have HEN := Lib.hid hen.symm
                    clear hX hRd hes hev hbx hx hc hc2 hen hB hbi hXX
                    go_wp2_with (go_at_call 53; (with_reducible refine (cin_is HBI.out).mono ?_); rintro e w4 ⟨rfl, rfl⟩)
                    go_loopw [5] (fun i wx => ∃ j : Nat, j ≤ en ∧ i = .int .i64 j ∧ (okFrom (prvE es j) (es.drop j) && X) = B ∧ Below wr.heap.size wr wx) (fun i _ => en - (intOf i).toNat)
                    case atStart => exact ⟨0, Nat.zero_le _, rfl, HX0.out, Below.refl _ _⟩
                    case round =>
                      clear HX0
                      obtain ⟨j, hj, rfl, hX, hB2⟩ := hrel
                      have HB2 := Lib.hid hB2
                      by_cases hjn : j < en
                      · obtain ⟨x1, y1, b3, off3, rfl, hb3, e0, e1, hg, _⟩ := (HRD.out.ext hB2).pc_at' j hjn
                        rw [okFrom_step hg] at hX
                        cases hx1 : inB x1 0 1000000
                        · obtain rfl : B = false := by rw [hx1] at hX; simpa using hX.symm
                          have HX := Lib.hid hx1
                          clear hX hB2 hg hx1
                          go_wp2_with (refine wp_region_later_lit (by kernel_rfl) (by kernel_rfl) ?_; (repeat (go_big_quiet_step ((go_at_call 53; exact later_same (cin_is HX.out))))); refine wpQuiet_nil ?_; intro w7 hb7)
                          go_ret
                          exact ⟨rfl, Below.then B3.out ((HB.out.trans ((Below.then HB2.out hb7).mono HB.out.size)))⟩
                        · cases hy1 : inB y1 0 1000000
                          · obtain rfl : B = false := by rw [hx1, hy1] at hX; simpa using hX.symm
                            have HX := Lib.hid hx1; have HY := Lib.hid hy1
                            clear hX hB2 hg hx1 hy1
                            go_wp2_with (refine wp_region_later_lit (by kernel_rfl) (by kernel_rfl) ?_; (repeat (go_big_quiet_step ((first | (go_at_call 53; exact later_same (cin_is HX.out)) | (go_at_call 53; exact later_same (cin_is HY.out)))))); refine wpQuiet_nil ?_; intro w7 hb7)
                            go_ret
                            exact ⟨rfl, Below.then B3.out ((HB.out.trans ((Below.then HB2.out hb7).mono HB.out.size)))⟩
                          · rw [hx1, hy1] at hX
                            have HX := Lib.hid hx1; have HY := Lib.hid hy1
                            rcases Nat.eq_zero_or_pos j with hj0 | hj0
                            · have hp : prvE es j = none := by rw [hj0]; rfl
                              rw [hp, gtP] at hX
                              have HX2 : Hid ((okFrom (prvE es (j + 1)) (es.drop (j + 1)) && X) = B) := Lib.hid (by simpa using hX)
                              have hj0' : decide ((0 : Int) < (j : Int)) = false := by simp; omega
                              have hj0'' : decide (0 < j) = false := by simp; omega
                              clear hX hB2 hg hx1 hy1 hp hj0
                              go_wp2_with (refine wp_region_later_lit (by kernel_rfl) (by kernel_rfl) ?_; (repeat (go_big_quiet_step ((first | (go_at_call 53; exact later_same (cin_is HX.out)) | (go_at_call 53; exact later_same (cin_is HY.out)))))); refine wpQuiet_nil ?_; intro w7 hb7)
                              go_roundw
                              case rel => exact ⟨j + 1, hjn, by go_num, HX2.out, Below.then HB2.out hb7⟩
                              case measure => simp [intOf]; omega
                            · obtain ⟨z, zz2, b4, off4, e', _, g0, _, hg', _⟩ := (HRD.out.ext hB2).pc_at' (j - 1) (by omega)
                              simp at e'
                              obtain ⟨rfl, rfl⟩ := e'
                              have hp : prvE es j = some z := by
                                obtain ⟨m, rfl⟩ : ∃ m, j = m + 1 := ⟨j - 1, by omega⟩
                                rw [Nat.add_sub_cancel] at hg'
                                simp [prvE, hg']
                              rw [hp, gtP] at hX
                              have hj0' : decide ((0 : Int) < (j : Int)) = true := by simp; omega
                              have hj0'' : decide (0 < j) = true := by simp; omega
                              have wk : IntKind.i64.wrap ((j : Int) - 1) = ((j - 1 : Nat) : Int) := by rw [IntWalk.i64_in _ (by omega)]; omega
                              have hj1 : j - 1 < en := by omega
                              by_cases hz : z ≤ x1
                              · have hz' : decide (x1 < z) = false := by simp; omega
                                have HX2 : Hid ((okFrom (prvE es (j + 1)) (es.drop (j + 1)) && X) = B) := Lib.hid (by simpa [hz] using hX)
                                clear hX hB2 hg hx1 hy1 hp hg' hz
                                go_wp2_with (refine wp_region_later_lit (by kernel_rfl) (by kernel_rfl) ?_; (repeat (go_big_quiet_step ((first | (go_at_call 53; exact later_same (cin_is HX.out)) | (go_at_call 53; exact later_same (cin_is HY.out)))))); refine wpQuiet_nil ?_; intro w7 hb7)
                                go_roundw
                                case rel => exact ⟨j + 1, hjn, by go_num, HX2.out, Below.then HB2.out hb7⟩
                                case measure => simp [intOf]; omega
                              · have hz' : decide (x1 < z) = true := by simp; omega
                                obtain rfl : B = false := by simpa [hz] using hX.symm
                                clear hX hB2 hg hx1 hy1 hp hg' hz
                                go_wp2_with (refine wp_region_later_lit (by kernel_rfl) (by kernel_rfl) ?_; (repeat (go_big_quiet_step ((first | (go_at_call 53; exact later_same (cin_is HX.out)) | (go_at_call 53; exact later_same (cin_is HY.out)))))); refine wpQuiet_nil ?_; intro w7 hb7)
                                go_ret
                                exact ⟨rfl, Below.then B3.out ((HB.out.trans ((Below.then HB2.out hb7).mono HB.out.size)))⟩
                      · rw [List.drop_of_length_le (by rw [HEN.out]; omega)] at hX
                        have hX2 : X = B := by simpa [okFrom] using hX
                        subst hX2
                        clear hX hB2
                        go_wp2
                        go_roundw
                        case rel => exact ⟨k + 1, hlt, by go_num, HXX.out, HB.out.trans (HB2.out.mono HB.out.size)⟩
                        case measure => simp [intOf]; omega
              · rw [List.drop_of_length_le (by rw [HH2.out]; omega), List.drop_of_length_le (by rw [HH3.out]; have := Q3.out; have := Q4.out; omega)] at hX
                have HX0 : Hid ((R.sg.drop 0).all (sgB tN) = B) := Lib.hid (by rw [List.drop_zero, E8.out]; simpa using hX)
                have HS3 := Lib.hid (HSG2.out.ext hB)
                have hwz : w.heap.size < wr.heap.size := Nat.lt_of_lt_of_le z3 hB.size
                clear hX hB
                go_wp2
                go_loopw [6] (fun i wx => ∃ j : Nat, j ≤ sN ∧ i = .int .i64 j ∧ (R.sg.drop j).all (sgB tN) = B ∧ Below wr.heap.size wr wx) (fun i _ => sN - (intOf i).toNat)
                case atStart => exact ⟨0, Nat.zero_le _, rfl, HX0.out, Below.refl _ _⟩
                case round =>
                  clear HX0
                  obtain ⟨j, hj, rfl, hX, hB2⟩ := hrel
                  have HB2 := Lib.hid hB2
                  have g0 := (hB2.cell (p := ⟨w.heap.size, 0, none⟩) hwz).trans f0
                  have g4 := (hB2.cell (p := ⟨w.heap.size, 5, none⟩) hwz).trans f4
                  have hwz2 := Nat.lt_of_lt_of_le hwz hB2.size
                  by_cases hjn : j < sN
                  · obtain ⟨x1, y1, b3, off3, rfl, hb3, e0, e1, hg, _⟩ := (HS3.out.ext hB2).pc_at' j hjn
                    obtain ⟨hjl, hge⟩ := List.getElem?_eq_some_iff.1 hg
                    rw [List.drop_eq_getElem_cons hjl, List.all_cons, hge, sgB] at hX
                    simp only [] at hX
                    have wn : IntKind.i64.wrap ((tN : Int) - 1) = (tN : Int) - 1 := IntWalk.i64_in _ (by omega)
                    cases hx1 : inB x1 0 1000000
                    · obtain rfl : B = false := by rw [hx1] at hX; simpa using hX.symm
                      have HX := Lib.hid hx1
                      clear hX hB2 hg hx1 hge
                      go_wp2_with (refine wp_region_later_lit (by kernel_rfl) (by kernel_rfl) ?_; (repeat (go_big_quiet_step ((go_at_call 53; exact later_same (cin_is HX.out))))); refine wpQuiet_nil ?_; intro w7 hb7)
                      go_ret
                      exact ⟨rfl, Below.then B3.out ((HB.out.trans ((Below.then HB2.out hb7).mono HB.out.size)))⟩
                    · cases hy1 : inB y1 0 ((tN : Int) - 1)
                      · obtain rfl : B = false := by rw [hx1, hy1] at hX; simpa using hX.symm
                        have HX := Lib.hid hx1; have HY := Lib.hid hy1
                        clear hX hB2 hg hx1 hy1 hge
                        go_wp2_with (refine wp_region_later_lit (by kernel_rfl) (by kernel_rfl) ?_; (repeat (go_big_quiet_step ((first | (go_at_call 53; exact later_same (cin_is HX.out)) | (go_at_call 53; exact later_same (cin_is HY.out)))))); refine wpQuiet_nil ?_; intro w7 hb7)
                        go_ret
                        exact ⟨rfl, Below.then B3.out ((HB.out.trans ((Below.then HB2.out hb7).mono HB.out.size)))⟩
                      · rw [hx1, hy1] at hX
                        have HX2 : Hid ((R.sg.drop (j + 1)).all (sgB tN) = B) := Lib.hid (by simpa using hX)
                        have HX := Lib.hid hx1; have HY := Lib.hid hy1
                        clear hX hB2 hg hx1 hy1 hge
                        go_wp2_with (refine wp_region_later_lit (by kernel_rfl) (by kernel_rfl) ?_; (repeat (go_big_quiet_step ((first | (go_at_call 53; exact later_same (cin_is HX.out)) | (go_at_call 53; exact later_same (cin_is HY.out)))))); refine wpQuiet_nil ?_; intro w7 hb7)
                        go_roundw
                        case rel => exact ⟨j + 1, hjn, by go_num, HX2.out, Below.then HB2.out hb7⟩
                        case measure => simp [intOf]; omega
                  · rw [List.drop_of_length_le (by rw [HH4.out]; omega)] at hX
                    obtain rfl : B = true := by simpa using hX.symm
                    clear hX hB2
                    go_wp2
                    go_ret
                    exact ⟨rfl, Below.then B3.out (HB.out.trans (HB2.out.mono HB.out.size))⟩
          · rw [decide_eq_true q3, decide_eq_true q4, decide_eq_false q5] at hB
            obtain rfl : B = false := by simpa using hB.symm
            have q3' : ((eN : Int) != (tN : Int)) = false := by simp; omega
            have q4' : ((bN : Int) != (tN : Int)) = false := by simp; omega
            have q5' : decide ((40 : Int) < (sN : Int)) = true := by simp; omega
            clear hB q3 q4
            go_enter Tryz.func27, Tryz.ntmps27
            go_wp2_with (first | (go_at_call 68; (with_reducible refine (rValid_is (HT.out.ext (by (repeat' (first | (with_reducible exact Below.refl _ _) | (with_reducible assumption) | (with_reducible refine Below.alloc ?_ ?_ _) | (with_reducible refine Below.drew ?_) | (with_reducible refine Below.draws ?_ _) | (with_reducible refine Below.setCell ?_ ?_ _) | (refine Below.then ?_ (by with_reducible assumption)) | go_size)))) E1'.out).mono ?_); rintro e w2 ⟨rfl, hb2⟩; have B2 : Hid (Below w.heap.size w w2) := Lib.hid (Below.trans (by (repeat' (first | (with_reducible exact Below.refl _ _) | (with_reducible assumption) | (with_reducible refine Below.alloc ?_ ?_ _) | (with_reducible refine Below.drew ?_) | (with_reducible refine Below.draws ?_ _) | (with_reducible refine Below.setCell ?_ ?_ _) | (refine Below.then ?_ (by with_reducible assumption)) | go_size))) (hb2.mono (by simp))); have z2 : w.heap.size < w2.heap.size := Nat.lt_of_lt_of_le (by simp) hb2.size; have c0 := (hb2.cell (p := ⟨w.heap.size, 0, none⟩) (by simp)).trans (by simp [go_sem]; rfl); have c1 := (hb2.cell (p := ⟨w.heap.size, 1, none⟩) (by simp)).trans (by simp [go_sem]; rfl); have c2 := (hb2.cell (p := ⟨w.heap.size, 2, none⟩) (by simp)).trans (by simp [go_sem]; rfl); have c3 := (hb2.cell (p := ⟨w.heap.size, 3, none⟩) (by simp)).trans (by simp [go_sem]; rfl); have c4 := (hb2.cell (p := ⟨w.heap.size, 4, none⟩) (by simp)).trans (by simp [go_sem]; rfl); have c5 := (hb2.cell (p := ⟨w.heap.size, 5, none⟩) (by simp)).trans (by simp [go_sem]; rfl); clear hb2) | (go_at_call 69; (with_reducible refine (rsupV_is E2'.out).mono ?_); rintro e w3 ⟨rfl, hb3⟩; have B3 := Lib.hid (Below.then B2.out hb3); have z3 : w.heap.size < w3.heap.size := Nat.lt_of_lt_of_le z2 hb3.size; have d0 := (hb3.cell (p := ⟨w.heap.size, 0, none⟩) z2).trans c0; have d2 := (hb3.cell (p := ⟨w.heap.size, 3, none⟩) z2).trans c3; have d3 := (hb3.cell (p := ⟨w.heap.size, 4, none⟩) z2).trans c4; have d4 := (hb3.cell (p := ⟨w.heap.size, 5, none⟩) z2).trans c5; clear hb3 c0 c1 c2 c3 c4 c5))
            go_ret
            exact ⟨rfl, B3.out⟩
        · rw [decide_eq_true q3, decide_eq_false q4] at hB
          obtain rfl : B = false := by simpa using hB.symm
          have q3' : ((eN : Int) != (tN : Int)) = false := by simp; omega
          have q4' : ((bN : Int) != (tN : Int)) = true := by simp; omega
          clear hB q3
          go_enter Tryz.func27, Tryz.ntmps27
          go_wp2_with (first | (go_at_call 68; (with_reducible refine (rValid_is (HT.out.ext (by (repeat' (first | (with_reducible exact Below.refl _ _) | (with_reducible assumption) | (with_reducible refine Below.alloc ?_ ?_ _) | (with_reducible refine Below.drew ?_) | (with_reducible refine Below.draws ?_ _) | (with_reducible refine Below.setCell ?_ ?_ _) | (refine Below.then ?_ (by with_reducible assumption)) | go_size)))) E1'.out).mono ?_); rintro e w2 ⟨rfl, hb2⟩; have B2 : Hid (Below w.heap.size w w2) := Lib.hid (Below.trans (by (repeat' (first | (with_reducible exact Below.refl _ _) | (with_reducible assumption) | (with_reducible refine Below.alloc ?_ ?_ _) | (with_reducible refine Below.drew ?_) | (with_reducible refine Below.draws ?_ _) | (with_reducible refine Below.setCell ?_ ?_ _) | (refine Below.then ?_ (by with_reducible assumption)) | go_size))) (hb2.mono (by simp))); have z2 : w.heap.size < w2.heap.size := Nat.lt_of_lt_of_le (by simp) hb2.size; have c0 := (hb2.cell (p := ⟨w.heap.size, 0, none⟩) (by simp)).trans (by simp [go_sem]; rfl); have c1 := (hb2.cell (p := ⟨w.heap.size, 1, none⟩) (by simp)).trans (by simp [go_sem]; rfl); have c2 := (hb2.cell (p := ⟨w.heap.size, 2, none⟩) (by simp)).trans (by simp [go_sem]; rfl); have c3 := (hb2.cell (p := ⟨w.heap.size, 3, none⟩) (by simp)).trans (by simp [go_sem]; rfl); have c4 := (hb2.cell (p := ⟨w.heap.size, 4, none⟩) (by simp)).trans (by simp [go_sem]; rfl); have c5 := (hb2.cell (p := ⟨w.heap.size, 5, none⟩) (by simp)).trans (by simp [go_sem]; rfl); clear hb2) | (go_at_call 69; (with_reducible refine (rsupV_is E2'.out).mono ?_); rintro e w3 ⟨rfl, hb3⟩; have B3 := Lib.hid (Below.then B2.out hb3); have z3 : w.heap.size < w3.heap.size := Nat.lt_of_lt_of_le z2 hb3.size; have d0 := (hb3.cell (p := ⟨w.heap.size, 0, none⟩) z2).trans c0; have d2 := (hb3.cell (p := ⟨w.heap.size, 3, none⟩) z2).trans c3; have d3 := (hb3.cell (p := ⟨w.heap.size, 4, none⟩) z2).trans c4; have d4 := (hb3.cell (p := ⟨w.heap.size, 5, none⟩) z2).trans c5; clear hb3 c0 c1 c2 c3 c4 c5))
          go_ret
          exact ⟨rfl, B3.out⟩
      · rw [decide_eq_false q3] at hB
        obtain rfl : B = false := by simpa using hB.symm
        have q3' : ((eN : Int) != (tN : Int)) = true := by simp; omega
        clear hB
        go_enter Tryz.func27, Tryz.ntmps27
        go_wp2_with (first | (go_at_call 68; (with_reducible refine (rValid_is (HT.out.ext (by (repeat' (first | (with_reducible exact Below.refl _ _) | (with_reducible assumption) | (with_reducible refine Below.alloc ?_ ?_ _) | (with_reducible refine Below.drew ?_) | (with_reducible refine Below.draws ?_ _) | (with_reducible refine Below.setCell ?_ ?_ _) | (refine Below.then ?_ (by with_reducible assumption)) | go_size)))) E1'.out).mono ?_); rintro e w2 ⟨rfl, hb2⟩; have B2 : Hid (Below w.heap.size w w2) := Lib.hid (Below.trans (by (repeat' (first | (with_reducible exact Below.refl _ _) | (with_reducible assumption) | (with_reducible refine Below.alloc ?_ ?_ _) | (with_reducible refine Below.drew ?_) | (with_reducible refine Below.draws ?_ _) | (with_reducible refine Below.setCell ?_ ?_ _) | (refine Below.then ?_ (by with_reducible assumption)) | go_size))) (hb2.mono (by simp))); have z2 : w.heap.size < w2.heap.size := Nat.lt_of_lt_of_le (by simp) hb2.size; have c0 := (hb2.cell (p := ⟨w.heap.size, 0, none⟩) (by simp)).trans (by simp [go_sem]; rfl); have c1 := (hb2.cell (p := ⟨w.heap.size, 1, none⟩) (by simp)).trans (by simp [go_sem]; rfl); have c2 := (hb2.cell (p := ⟨w.heap.size, 2, none⟩) (by simp)).trans (by simp [go_sem]; rfl); have c3 := (hb2.cell (p := ⟨w.heap.size, 3, none⟩) (by simp)).trans (by simp [go_sem]; rfl); have c4 := (hb2.cell (p := ⟨w.heap.size, 4, none⟩) (by simp)).trans (by simp [go_sem]; rfl); have c5 := (hb2.cell (p := ⟨w.heap.size, 5, none⟩) (by simp)).trans (by simp [go_sem]; rfl); clear hb2) | (go_at_call 69; (with_reducible refine (rsupV_is E2'.out).mono ?_); rintro e w3 ⟨rfl, hb3⟩; have B3 := Lib.hid (Below.then B2.out hb3); have z3 : w.heap.size < w3.heap.size := Nat.lt_of_lt_of_le z2 hb3.size; have d0 := (hb3.cell (p := ⟨w.heap.size, 0, none⟩) z2).trans c0; have d2 := (hb3.cell (p := ⟨w.heap.size, 3, none⟩) z2).trans c3; have d3 := (hb3.cell (p := ⟨w.heap.size, 4, none⟩) z2).trans c4; have d4 := (hb3.cell (p := ⟨w.heap.size, 5, none⟩) z2).trans c5; clear hb3 c0 c1 c2 c3 c4 c5))
        go_ret
        exact ⟨rfl, B3.out⟩
end Go.Proofs.YtlhnhmimhpcoaaaGreat
namespace Go.Proofs.YtlhnhmimhpcoaaaGreat
open Go.RowKit
set_option linter.unusedSimpArgs false
set_option linter.unusedVariables false
theorem as_any (H : RunH) (fr sl_ : Int) (w : World) : Calls Tryz.prog 10 #[runV H fr sl_] w fun e w' => e = .returned (runV H fr sl_) ∧ Below w.heap.size w w' := by
  obtain ⟨tA, tN, tC, eA, eN, eC, bA, bN, bC, sA, sN, sC⟩ := H
  unfold runV
  simp only []
  go_enter Tryz.func10, Tryz.ntmps10
  go_wp2
  obtain ⟨w1, hw1⟩ : ∃ x, x = ((w.alloc (.cells #[.slice tA tN tC, .int .i64 fr, .int .i64 sl_, .slice eA eN eC, .slice bA bN bC, .slice sA sN sC] 29)).alloc (.cells #[.slice tA tN tC, .int .i64 fr, .int .i64 sl_, .slice eA eN eC, .slice bA bN bC, .slice sA sN sC] 36)) := ⟨_, rfl⟩
  rw [← hw1]
  have hb : Below w.heap.size w w1 := by rw [hw1]; (repeat' (first | (with_reducible exact Below.refl _ _) | (with_reducible assumption) | (with_reducible refine Below.alloc ?_ ?_ _) | (with_reducible refine Below.drew ?_) | (with_reducible refine Below.draws ?_ _) | (with_reducible refine Below.setCell ?_ ?_ _) | (refine Below.then ?_ (by with_reducible assumption)) | go_size))
  have x0 : w1.cell? ⟨w.heap.size + 1, 0, none⟩ = some (.slice tA tN tC) := by rw [hw1]; simp [go_sem]
  have x1 : w1.cell? ⟨w.heap.size + 1, 1, none⟩ = some (.int .i64 fr) := by rw [hw1]; simp [go_sem]
  have x2 : w1.cell? ⟨w.heap.size + 1, 2, none⟩ = some (.int .i64 sl_) := by rw [hw1]; simp [go_sem]
  have x3 : w1.cell? ⟨w.heap.size + 1, 3, none⟩ = some (.slice eA eN eC) := by rw [hw1]; simp [go_sem]
  have x4 : w1.cell? ⟨w.heap.size + 1, 4, none⟩ = some (.slice bA bN bC) := by rw [hw1]; simp [go_sem]
  have x5 : w1.cell? ⟨w.heap.size + 1, 5, none⟩ = some (.slice sA sN sC) := by rw [hw1]; simp [go_sem]
  exact bodyPost_ret (by simp [results, Tryz.results10, go_sem, x0, x1, x2, x3, x4, x5]) rfl ⟨rfl, hb⟩
theorem rSim_bad (H : RunH) (R : Rn) (t : Int) (w : World) (hR : ReadRun w H R) (h : (runB R && inB t 0 2000) = false) : Calls Tryz.prog 23 #[runV H R.fr R.sl, .int .i64 t] w fun e w' => e = .returned (.tuple #[.slice none 0 0, .int .i64 1]) ∧ Below w.heap.size w w' := by
  have HV := Lib.hid (fun w1 (hb : Below w.heap.size w w1) => rValid_run H R w1 (hR.ext hb))
  obtain ⟨A, hA⟩ : ∃ A, runB R = A := ⟨_, rfl⟩
  obtain ⟨C, hC⟩ : ∃ C, inB t 0 2000 = C := ⟨_, rfl⟩
  rw [hA, hC] at h
  rw [hA] at HV
  have HC := Lib.hid hC
  obtain ⟨fr, hfr⟩ : ∃ x, R.fr = x := ⟨_, rfl⟩
  obtain ⟨sl_, hsl⟩ : ∃ x, R.sl = x := ⟨_, rfl⟩
  rw [hfr, hsl] at HV ⊢
  obtain ⟨tA, tN, tC, eA, eN, eC, bA, bN, bC, sA, sN, sC⟩ := H
  unfold runV at HV ⊢
  simp only [] at HV ⊢
  clear hR hA hC hfr hsl
  cases A
  · go_enter Tryz.func23, Tryz.ntmps23
    go_wp2_with (go_at_call 27; (with_reducible refine (HV.out _ (by (repeat' (first | (with_reducible exact Below.refl _ _) | (with_reducible assumption) | (with_reducible refine Below.alloc ?_ ?_ _) | (with_reducible refine Below.drew ?_) | (with_reducible refine Below.draws ?_ _) | (with_reducible refine Below.setCell ?_ ?_ _) | (refine Below.then ?_ (by with_reducible assumption)) | go_size)))).mono ?_); rintro e w2 ⟨rfl, hb2⟩)
    go_ret2
    exact ⟨rfl, Below.trans (by (repeat' (first | (with_reducible exact Below.refl _ _) | (with_reducible assumption) | (with_reducible refine Below.alloc ?_ ?_ _) | (with_reducible refine Below.drew ?_) | (with_reducible refine Below.draws ?_ _) | (with_reducible refine Below.setCell ?_ ?_ _) | (refine Below.then ?_ (by with_reducible assumption)) | go_size))) (hb2.mono (by simp))⟩
  · obtain rfl : C = false := by simpa using h
    go_enter Tryz.func23, Tryz.ntmps23
    go_wp2_with (first
      | (go_at_call 27; (with_reducible refine (HV.out _ (by (repeat' (first | (with_reducible exact Below.refl _ _) | (with_reducible assumption) | (with_reducible refine Below.alloc ?_ ?_ _) | (with_reducible refine Below.drew ?_) | (with_reducible refine Below.draws ?_ _) | (with_reducible refine Below.setCell ?_ ?_ _) | (refine Below.then ?_ (by with_reducible assumption)) | go_size)))).mono ?_); rintro e w2 ⟨rfl, hb2⟩)
      | (go_at_call 53; (with_reducible refine (cin_is HC.out).mono ?_); rintro e w3 ⟨rfl, rfl⟩))
    go_ret2
    exact ⟨rfl, Below.trans (by (repeat' (first | (with_reducible exact Below.refl _ _) | (with_reducible assumption) | (with_reducible refine Below.alloc ?_ ?_ _) | (with_reducible refine Below.drew ?_) | (with_reducible refine Below.draws ?_ _) | (with_reducible refine Below.setCell ?_ ?_ _) | (refine Below.then ?_ (by with_reducible assumption)) | go_size))) (hb2.mono (by simp))⟩
theorem Rd.en_at {w : World} {a : Option Addr} {n : Nat} {xs : List En} (h : Rd w a n 5 (xs.map encE)) (k : Nat) (hk : k < n) : ∃ (e : En) (b off : Nat), a = some ⟨b, off, none⟩ ∧ b < w.heap.size ∧ xs[k]? = some e ∧
    w.cell? ⟨b, off + k * 5, none⟩ = some (.int .i64 e.m) ∧ w.cell? ⟨b, off + k * 5 + 1, none⟩ = some (.int .i64 e.k) ∧ w.cell? ⟨b, off + k * 5 + 2, none⟩ = some (.int .i64 e.w) ∧ w.cell? ⟨b, off + k * 5 + 3, none⟩ = some (.int .i64 e.a) ∧ w.cell? ⟨b, off + k * 5 + 4, none⟩ = some (.int .i64 e.b) := by
  obtain ⟨x, b, off, rfl, hb, hc, _, hg, _⟩ := h.nextK k hk
  have h0 := hc 0 (by omega)
  have h1 := hc 1 (by omega)
  have h2 := hc 2 (by omega)
  have h3 := hc 3 (by omega)
  have h4 := hc 4 (by omega)
  exact ⟨x, b, off, rfl, hb, hg, h0, h1, h2, h3, h4⟩
end Go.Proofs.YtlhnhmimhpcoaaaGreat
namespace Go.Proofs.YtlhnhmimhpcoaaaGreat
open Go.RowKit
set_option linter.unusedSimpArgs false
set_option linter.unusedVariables false
theorem rRanks_is {a : Option Addr} {n c : Nat} {L : List Ta} {xs : List Int} {y : Int} {w : World} (hL : RdL w a n L) (h : ranksR L = (xs, y)) : Calls Tryz.prog 54 #[.slice a n c] w (OutTE w.heap.size w xs y) := by
  have := rRanks_any a n c L w hL
  rw [h] at this; exact this
theorem Blk.ext {w w' : World} {b : Nat} {cs : Array Value} (h : Blk w b cs) (hb : Below w.heap.size w w') : Blk w' b cs :=
  ⟨fun i => (hb.cell (p := ⟨b, i, none⟩) h.l).trans (h.c i), fun i => (hb.frozen (p := ⟨b, i, none⟩) h.l).trans (h.f i), Nat.lt_of_lt_of_le h.l hb.size⟩
set_option maxRecDepth 100000 in
set_option maxHeartbeats 8000000 in
theorem rSim_good (H : RunH) (R : Rn) (tn : Nat) (w : World) (hR : ReadRun w H R) (hv : runB R = true) (ht : tn ≤ 2000) : Calls Tryz.prog 23 #[runV H R.fr R.sl, .int .i64 tn] w (OutEn w (plM R tn).o 0) := by
  have HV := Lib.hid (fun w1 (hb : Below w.heap.size w w1) => rValid_run H R w1 (hR.ext hb))
  rw [hv] at HV
  obtain ⟨hr, _, hsup, _⟩ := run_ok hv
  have hfr := (supB_iff.1 hsup).1.2
  have HR := Lib.hid hR.rd; have HRN := Lib.hid hr
  have HC : Hid (inB (tn : Int) 0 2000 = true) := Lib.hid (by rw [inB_iff]; omega)
  have htn := hR.rd.t.length
  have hen := hR.rd.e.len
  have hen2 := hr.ev
  have hL5 := hr.r.len
  obtain ⟨nL, hnL⟩ : ∃ x, R.L.length = x := ⟨_, rfl⟩
  have HNL := Lib.hid hnL
  have htn' : H.tN = nL := by omega
  have hEN : H.eN = nL := by omega
  have HEN := Lib.hid hEN
  have hn5 : nL ≤ 5 := by omega
  unfold runV at HV ⊢
  rw [htn']
  rw [htn'] at HV
  obtain ⟨fr, hfr'⟩ : ∃ x, R.fr = x := ⟨_, rfl⟩
  obtain ⟨sl_, hsl⟩ : ∃ x, R.sl = x := ⟨_, rfl⟩
  rw [hfr', hsl] at HV ⊢
  have HFR := Lib.hid hfr'; have HSL := Lib.hid hsl; have HTN := Lib.hid htn'; have HFB := Lib.hid hfr
  clear hR hr htn hnL htn' hfr hfr' hsl hen hen2 hEN hsup hv
  go_enter Tryz.func23, Tryz.ntmps23
  go_upto_region 3 with (first
    | (go_at_call 27; (with_reducible refine (HV.out _ (by (repeat' (first | (with_reducible exact Below.refl _ _) | (with_reducible assumption) | (with_reducible refine Below.alloc ?_ ?_ _) | (with_reducible refine Below.drew ?_) | (with_reducible refine Below.draws ?_ _) | (with_reducible refine Below.setCell ?_ ?_ _) | (refine Below.then ?_ (by with_reducible assumption)) | go_size)))).mono ?_); rintro e w2 ⟨rfl, hb2⟩; have B2 := Lib.hid hb2; clear hb2)
    | (go_at_call 53; (with_reducible refine (cin_is HC.out).mono ?_); rintro e w3 ⟨rfl, rfl⟩))
  have hB0 : Blk (w.alloc (.cells #[.slice H.tA nL H.tC, .int .i64 fr, .int .i64 sl_, .slice H.eA H.eN H.eC, .slice H.bA H.bN H.bC, .slice H.sA H.sN H.sC] 36)) w.heap.size #[.slice H.tA nL H.tC, .int .i64 fr, .int .i64 sl_, .slice H.eA H.eN H.eC, .slice H.bA H.bN H.bC, .slice H.sA H.sN H.sC] := Blk.at _ _ _ _ rfl
  have hB2 := hB0.ext B2.out
  have hb2 : Below w.heap.size w w2 := Below.trans (by (repeat' (first | (with_reducible exact Below.refl _ _) | (with_reducible assumption) | (with_reducible refine Below.alloc ?_ ?_ _) | (with_reducible refine Below.drew ?_) | (with_reducible refine Below.draws ?_ _) | (with_reducible refine Below.setCell ?_ ?_ _) | (refine Below.then ?_ (by with_reducible assumption)) | go_size))) (B2.out.mono (by simp))
  have r0 := hB2.c 0; have r1 := hB2.c 1; have r2 := hB2.c 2; have r3 := hB2.c 3; have r4 := hB2.c 4; have r5 := hB2.c 5
  simp at r0 r1 r2 r3 r4 r5
  have hq0 := hB2.l
  have hmk1 := run_make_row' (P := Tryz.prog) 26 3 (.int .i64 0) 8 Tryz.underlying26 (by kernel_rfl) rfl .i64 .i64 nL (by omega) (by omega)
  have HB2 := Lib.hid hB2; have HBW := Lib.hid hb2
  clear hB0 hB2 hb2
  go_cut [6] (fun v wx => ∃ p rb : Nat, v = .pointer (some ⟨p, 0, none⟩) ∧ Blk wx p #[.slice H.tA nL H.tC, .int .i64 fr, .int .i64 sl_, .slice H.eA H.eN H.eC, .slice H.bA H.bN H.bC, .slice H.sA H.sN H.sC, .slice (some ⟨rb, 0, none⟩) nL nL, .slice none 0 0, .slice none 0 0] ∧ Blk wx rb (madeCells #[.int .i64 0] nL) ∧ w2.heap.size ≤ p ∧ w2.heap.size ≤ rb ∧ p ≠ rb ∧ Below w2.heap.size w2 wx)
  case first =>
    go_region
    all_goals
      go_wp2_with fail
      go_meet
      exact ⟨_, w2.heap.size, rfl, (Blk.at _ _ _ _ (by simp)).drew, ((Blk.at _ _ _ _ rfl).old _).drew, by omega, by omega, by omega, by (repeat' (first | (with_reducible exact Below.refl _ _) | (with_reducible assumption) | (with_reducible refine Below.alloc ?_ ?_ _) | (with_reducible refine Below.drew ?_) | (with_reducible refine Below.draws ?_ _) | (with_reducible refine Below.setCell ?_ ?_ _) | (refine Below.then ?_ (by with_reducible assumption)) | go_size))⟩
  case rest =>
    obtain ⟨p, rb, rfl, kp, kr, h1, h2, h5, hb3⟩ := hcut
    obtain ⟨rk, hrk⟩ : ∃ x, rankL R.L = x := ⟨_, rfl⟩
    have HRK : Hid (ranksR R.L = (rk, 0)) := Lib.hid (by rw [← hrk]; exact ranks_ok HRN.out.r)
    have hrl : rk.length = nL := by rw [← hrk, rank_len, HNL.out]
    have hrm : ∀ k ∈ rk, 0 ≤ k ∧ k < nL := fun k hk => by rw [← hrk] at hk; have := rank_mem.1 hk; rw [HNL.out] at this; exact this
    have hos : ofSet 0 (List.replicate nL 0) (rk.drop 0) = ofL R.L := by rw [← hrk, List.drop_zero, ← ofSet_eq, HNL.out]
    have hq1 : w.heap.size < wc.heap.size := Nat.lt_of_lt_of_le hq0 hb3.size
    have hbw : Below w.heap.size w wc := HBW.out.trans (hb3.mono HBW.out.size)
    have hbx : ∀ j, wc.cell? ⟨w.heap.size, j, none⟩ = w2.cell? ⟨w.heap.size, j, none⟩ := fun j => hb3.cell (p := ⟨w.heap.size, j, none⟩) hq0
    have HBX := Lib.hid hbx
    have HBF : Hid (∀ j, wc.frozen? ⟨w.heap.size, j, none⟩ = false) := Lib.hid (fun j => (hb3.frozen (p := ⟨w.heap.size, j, none⟩) hq0).trans (HB2.out.f j))
    have HPC : Hid (Blk wc p #[.slice H.tA H.tN H.tC, .int .i64 R.fr, .int .i64 R.sl, .slice H.eA H.eN H.eC, .slice H.bA H.bN H.bC, .slice H.sA H.sN H.sC, .slice (some ⟨rb, 0, none⟩) R.L.length R.L.length, .slice none 0 0, .slice none 0 0]) := Lib.hid (by rw [HTN.out, HFR.out, HSL.out, HNL.out]; exact kp)
    have HKR := Lib.hid kr; have HKP := Lib.hid kp
    have HRM := Lib.hid hrm; have HOS := Lib.hid hos; have HRL := Lib.hid hrl; have HBWC := Lib.hid hbw
    have HTR : Hid (RdL wc H.tA nL R.L) := Lib.hid (by have := HR.out.t.ext hbw; rw [HTN.out] at this; exact this)
    have s0 := (hb3.cell (p := ⟨w.heap.size, 0, none⟩) hq0).trans r0
    clear hrk hrl hrm hos kp kr hmk1 r0 hb3 hbw hbx
    go_wp2_with (go_at_call 54; (with_reducible refine (rRanks_is HTR.out HRK.out).mono ?_); rintro e w3 ⟨a3, n3, c3, rfl, hown3, hb3⟩; have HO3 := Lib.hid hown3; have HB3 := Lib.hid hb3; clear hown3 hb3)
    have hn3 : n3 = nL := by rw [← (ownsI_rd HO3.out).length]; exact HRL.out
    subst hn3
    have hpl := HKP.out.l
    have hrl2 := HKR.out.l
    have hpw : w.heap.size < p := by omega
    have hrw : w.heap.size < rb := by omega
    have HP0 : Hid (PB w wc p rb (evA R) rk (.slice a3 n3 c3) w3 0 (fun _ => ⟨none, 0, 0⟩)) := Lib.hid (by
      have hz := HB3.out.size
      have cp : ∀ j, w3.cell? ⟨p, j, none⟩ = wc.cell? ⟨p, j, none⟩ := fun j => HB3.out.cell (p := ⟨p, j, none⟩) hpl
      refine ⟨fun j _ => cp j, ⟨none, 0, (cp 7).trans (HKP.out.c 7), World.ownsRow_nil _ _ _ _⟩, fun i hi => absurd hi (Nat.not_lt_zero i), by rw [HRL.out]; exact HO3.out, fun j => (HB3.out.frozen (p := ⟨p, j, none⟩) hpl).trans (HKP.out.f j), fun j => (HB3.out.frozen (p := ⟨rb, j, none⟩) hrl2).trans (HKR.out.f j), hz, HBWC.out.trans (HB3.out.mono HBWC.out.size), fun j => HB3.out.cell (p := ⟨w.heap.size, j, none⟩) hq1, fun j => (HB3.out.frozen (p := ⟨w.heap.size, j, none⟩) hq1).trans (HBF.out j)⟩)
    have HK0 : Hid (∀ j, j < n3 → ∃ x, (List.replicate n3 (0 : Int))[j]? = some x ∧ w3.cell? ⟨rb, j, none⟩ = some (.int .i64 x)) := Lib.hid (fun j hj => ⟨0, by rw [List.getElem?_replicate, if_pos hj], (HB3.out.cell (p := ⟨rb, j, none⟩) hrl2).trans (by rw [HKR.out.c, made_one _ _ _ hj])⟩)
    go_loopw [9] (fun i wr => ∃ (k : Nat) (O : List Int) (h : Nat → Hdr), k ≤ n3 ∧ i = .int .i64 k ∧ PB w wc p rb (evA R) rk (.slice a3 n3 c3) wr k h ∧ O.length = n3 ∧ ofSet k O (rk.drop k) = ofL R.L ∧ (∀ j, j < n3 → ∃ x, O[j]? = some x ∧ wr.cell? ⟨rb, j, none⟩ = some (.int .i64 x))) (fun i _ => n3 - (intOf i).toNat)
    case atStart => exact ⟨0, _, _, Nat.zero_le _, rfl, HP0.out, by simp, HOS.out, HK0.out⟩
    case round =>
      clear HP0 HK0 HO3 HOS s0
      obtain ⟨k, O, h, hk, rfl, hP, hOl, hos, hrk⟩ := hrel
      have HP := Lib.hid hP; have HOL := Lib.hid hOl; have HRKC := Lib.hid hrk
      by_cases hkn : k < n3
      · obtain ⟨x, b3, o3, rfl, hb3, hc3, hx⟩ := (ownsI_rd (n := n3) (by have := hP.r3; rw [HRL.out] at this; exact this)).idx k hkn
        have hxm := HRM.out x (List.mem_of_getElem? hx)
        obtain ⟨j, rfl⟩ := Int.eq_ofNat_of_zero_le hxm.1
        have hjn : j < n3 := by omega
        have hrd : rk.drop k = (j : Int) :: rk.drop (k + 1) := by obtain ⟨g1, g2⟩ := List.getElem?_eq_some_iff.1 hx; rw [List.drop_eq_getElem_cons g1, g2]
        rw [hrd] at hos
        have hos' := ofSet_step hos
        rw [Int.toNat_natCast] at hos'
        have HOS' := Lib.hid hos'
        obtain ⟨y, hy1, hy2⟩ := hrk j hjn
        have fr6 := hP.fr j
        have c6 := (hP.c 6 (by decide)).trans (HKP.out.c 6)
        simp at c6
        clear hP hos hos' hrd hx hy1 hxm hrk hOl
        go_upto_region 8 with fail
        go_region
        all_goals
          go_wp2_with fail
          obtain ⟨W8, hW8⟩ : ∃ x, x = (wr.setCell ⟨rb, j, none⟩ (.int .i64 (k : Int))).drew := ⟨_, rfl⟩
          have hP8 : PB w wc p rb (evA R) rk (.slice (some ⟨b3, o3, none⟩) n3 c3) W8 k h := by rw [hW8]; exact (HP.out.rank h5 hrl2 hrw j _).ext hpl hrl2 hq1 (Below.refl _ _).drew
          have hk8 : ∀ m, m < n3 → ∃ x, (O.set j (k : Int))[m]? = some x ∧ W8.cell? ⟨rb, m, none⟩ = some (.int .i64 x) := fun m hm => by
            rw [hW8]
            by_cases e : m = j
            · subst e
              exact ⟨k, by rw [List.getElem?_set, if_pos rfl, if_pos (by rw [HOL.out]; exact hm)], World.cell?_setCell_same _ _ _ hy2⟩
            · obtain ⟨z, g1, g2⟩ := HRKC.out m hm
              exact ⟨z, by rw [List.getElem?_set, if_neg (fun q => e q.symm)]; exact g1, (World.cell?_setCell_other _ _ _ _ (addr_neS (.inr (fun q => e q.symm)))).trans g2⟩
          rw [← hW8]
          have hkL : k < R.L.length := by rw [HNL.out]; exact hkn
          have hkE : k < H.eN := by rw [HEN.out]; exact hkn
          have hkev : k < R.ev.length := by rw [HRN.out.ev]; exact hkL
          obtain ⟨eb, eoff, ea, en, ec, hea, heb, hec, hRd⟩ := HR.out.e.at_ k hkE
          have hel := HRN.out.el (evAt R.ev k) (by unfold evAt; rw [List.getElem?_eq_getElem hkev]; exact List.getElem_mem hkev)
          have hen40 : en ≤ 40 := by rw [← hRd.length]; exact hel.1
          have hevA : evA R k = evAt R.ev k := rfl
          have HEV : Hid (∀ wz, Below w.heap.size w wz → Calls Tryz.prog 55 #[.slice ea en ec] wz fun e w' => ∃ a' c', e = .returned (.slice a' en c') ∧ w'.ownsRow wz.heap.size 3 1 (.slice a' en c') en ((ordE (evA R k)).flatMap enc1) ∧ Below wz.heap.size wz w') := Lib.hid (fun wz hz => ordered_any ea en ec (evA R k) wz hen40 (hRd.ext hz) hel.2)
          have hlb := hP8.lb
          have d3 := (hlb.cell (p := ⟨eb, eoff + k, none⟩) heb).trans hec
          have d1 := (hP8.bx 3).trans ((HBX.out 3).trans r3)
          obtain ⟨sa, sc, d7, hs⟩ := hP8.s
          have f7 := hP8.fp 7
          have HS := Lib.hid hs; have HP8 := Lib.hid hP8; have HK8 := Lib.hid hk8
          have hEA := Lib.hid hea
          have hz8 := hP8.sz
          have hwz8 : w.heap.size < W8.heap.size := by omega
          have hpz8 : p < W8.heap.size := by omega
          have hebz : eb < W8.heap.size := Nat.lt_of_lt_of_le heb hlb.size
          rw [hea] at d1
          have ES := ESt
          clear hW8 hP8 hk8 hRd hel hs hlb hec hea y hy2 fr6 c6 hc3
          go_region_law (first
            | (go_simp; go_at_call 55; (with_reducible refine (HEV.out _ (by have hq := HP8.out.lb; (repeat' (first | (with_reducible exact Below.refl _ _) | (with_reducible assumption) | (with_reducible refine Below.alloc ?_ ?_ _) | (with_reducible refine Below.drew ?_) | (with_reducible refine Below.draws ?_ _) | (with_reducible refine Below.setCell ?_ ?_ _) | (refine Below.then ?_ (by with_reducible assumption)) | go_size)))).mono ?_); rintro e w4 ⟨a4, c4, rfl, hown4, hb4⟩; have hb4' : Below W8.heap.size W8 w4 := Below.then (Below.refl W8.heap.size W8).drew hb4; have x7 := (hb4'.cell (p := ⟨p, 7, none⟩) hpz8).trans d7; have xf := (hb4'.frozen (p := ⟨p, 7, none⟩) hpz8).trans f7; have HO4 := Lib.hid hown4; have HB4 := Lib.hid hb4'; have hpz4 := Nat.lt_of_lt_of_le hpz8 hb4'.size; have hz4 : wc.heap.size ≤ w4.heap.size := Nat.le_trans hz8 hb4'.size; have HP4 := Lib.hid (HP8.out.ext hpl hrl2 hq1 hb4'); have HS4 := Lib.hid (owns_ext HS.out hb4'); clear hown4 hb4 hb4')
            | (refine step_app2 (by rfl) _ _ _ (by rfl) ES (B := wc.heap.size) (news := [.slice a4 en c4, .int .i64 0, .int .i64 0, .int .i64 0, .int .i64 0, .bool false]) (by rfl) (by exact owns_ext HS4.out (by (repeat' (first | (with_reducible exact Below.refl _ _) | (with_reducible assumption) | (with_reducible refine Below.alloc ?_ ?_ _) | (with_reducible refine Below.drew ?_) | (with_reducible refine Below.draws ?_ _) | (with_reducible refine Below.setCell ?_ ?_ _) | (refine Below.then ?_ (by with_reducible assumption)) | go_size)))) (by rfl) (by rfl) (by exact World.news_of_block (heap_alloc_new _ _)) (by intro u hu; simp at hu; rcases hu with rfl | rfl | rfl | rfl <;> rfl) (by omega) (by omega) (by decide) (by simp; omega) ?_; intro a7 c7' w7 hown7 hg7 _; have hb8 := grown_below (owns_ext HS4.out (by (repeat' (first | (with_reducible exact Below.refl _ _) | (with_reducible assumption) | (with_reducible refine Below.alloc ?_ ?_ _) | (with_reducible refine Below.drew ?_) | (with_reducible refine Below.draws ?_ _) | (with_reducible refine Below.setCell ?_ ?_ _) | (refine Below.then ?_ (by with_reducible assumption)) | go_size)))) hg7 (by simp; omega); have z7 := (hb8.cell (p := ⟨p, 7, none⟩) hpl).trans (((Below.alloc (Below.refl w4.heap.size w4) (Nat.le_refl _) _).cell (p := ⟨p, 7, none⟩) hpz4).trans x7); have zf := (hb8.frozen (p := ⟨p, 7, none⟩) hpl).trans (((Below.alloc (Below.refl w4.heap.size w4) (Nat.le_refl _) _).frozen (p := ⟨p, 7, none⟩) hpz4).trans xf); have zr : ∀ m, w7.cell? ⟨rb, m, none⟩ = w4.cell? ⟨rb, m, none⟩ := (fun m => (hb8.cell (p := ⟨rb, m, none⟩) hrl2).trans ((Below.alloc (Below.refl w4.heap.size w4) (Nat.le_refl _) _).cell (p := ⟨rb, m, none⟩) (show rb < w4.heap.size by omega))); have HZR := Lib.hid zr; have HP7 := Lib.hid ((HP4.out.ext hpl hrl2 hq1 (show Below w4.heap.size w4 (w4.alloc (.cells #[.slice a4 en c4, .int .i64 0, .int .i64 0, .int .i64 0, .int .i64 0, .bool false] 113)) by (repeat' (first | (with_reducible exact Below.refl _ _) | (with_reducible assumption) | (with_reducible refine Below.alloc ?_ ?_ _) | (with_reducible refine Below.drew ?_) | (with_reducible refine Below.draws ?_ _) | (with_reducible refine Below.setCell ?_ ?_ _) | (refine Below.then ?_ (by with_reducible assumption)) | go_size)))).push (d := ⟨a4, en, c4⟩) h5 hpl hrl2 hpw hq1 (owns_ext (owns_mono HO4.out hz8) (by (repeat' (first | (with_reducible exact Below.refl _ _) | (with_reducible assumption) | (with_reducible refine Below.alloc ?_ ?_ _) | (with_reducible refine Below.drew ?_) | (with_reducible refine Below.draws ?_ _) | (with_reducible refine Below.setCell ?_ ?_ _) | (refine Below.then ?_ (by with_reducible assumption)) | go_size)))) (((Below.alloc (Below.refl w4.heap.size w4) (Nat.le_refl _) _).cell (p := ⟨p, 7, none⟩) hpz4).trans x7) (owns_ext HS4.out (by (repeat' (first | (with_reducible exact Below.refl _ _) | (with_reducible assumption) | (with_reducible refine Below.alloc ?_ ?_ _) | (with_reducible refine Below.drew ?_) | (with_reducible refine Below.draws ?_ _) | (with_reducible refine Below.setCell ?_ ?_ _) | (refine Below.then ?_ (by with_reducible assumption)) | go_size)))) hown7 hg7); clear hown7 hg7 hb8 zr))
          all_goals
            go_wp2_with fail
            go_roundw
            case rel =>
              refine ⟨k + 1, O.set j (k : Int), _, hkn, by go_num, HP7.out, by simp [HOL.out], HOS'.out, fun m hm => ?_⟩
              obtain ⟨z, g1, g2⟩ := HK8.out m hm
              refine ⟨z, g1, (World.cell?_setCell_other _ _ _ _ (addr_neS (.inl h5))).trans ((HZR.out m).trans ?_)⟩
              exact (HB4.out.cell (p := ⟨rb, m, none⟩) (show rb < W8.heap.size by omega)).trans g2
            case measure => simp [intOf]; omega
      · have hOf : O = ofL R.L := by
          rw [List.drop_of_length_le (by rw [HRL.out]; omega)] at hos
          exact hos
        have hkn3 : k = n3 := by omega
        subst hkn3
        have hstart := PB.start (H := H) (R := R) (O := O) (by rw [HNL.out]; exact hP) h5 hpl hrl2 hpw hrw HPC.out hOf (fun j hj => hrk j (by rw [← HNL.out]; exact hj)) hq1
        obtain ⟨M, m1, m2, m3, m4, m5, hl, hM0⟩ := hstart
        have HM0 : Hid (PlM M wr (plM R 0) (List.replicate R.L.length 0)) := Lib.hid hM0
        have HL := Lib.hid hl; have HMR := Lib.hid m3; have HMW := Lib.hid m1; have HM5 := Lib.hid m5
        have HRM2 : Hid (RdRun M.w0 M.H M.R) := Lib.hid (by rw [m1, m2, m3]; exact HR.out)
        have HRNM : Hid (RnOk M.R) := Lib.hid (by rw [m3]; exact HRN.out)
        have HFR2 : Hid (M.R.fr ≤ 1000) := Lib.hid (by rw [m3]; have := HFB.out; omega)
        have hr3 : wr.ownsRow wc.heap.size 3 1 (.slice a3 k c3) k (rk.flatMap enc1) := by have := hP.r3; rw [HRL.out] at this; exact this
        clear hP hos hrk hOl hOf hM0 hl m1 m2 m3 m5 HP HRKC HOL hr3
        obtain rfl : p = M.p := m4.symm
        go_wp2
        go_loopw [10] (fun i wx => ∃ (q : Nat) (at_ : List Nat), q ≤ tn ∧ i = .int .i64 q ∧ PlM M wx (plM R q) at_ ∧ QR R ((q : Int) - 1) (plM R q) at_) (fun i _ => tn - (intOf i).toNat)
        case atStart => exact ⟨0, _, Nat.zero_le _, rfl, HM0.out, qr_zero HRN.out⟩
        case round =>
          clear HM0
          obtain ⟨q, at_, hq, rfl, hM, hQ⟩ := hrel
          have HM := Lib.hid hM; have HQ := Lib.hid hQ
          by_cases hqt : q < tn
          · have hko := plM_o HRN.out q
            have HT : Hid (Calls Tryz.prog 56 #[.pointer (some ⟨M.p, 0, none⟩), .int .i64 (q : Int)] wr fun e w' => e = .returned (.tuple #[]) ∧ ∃ at', QR R q (plM R (q + 1)) at' ∧ PlM M w' (plM R (q + 1)) at') := Lib.hid (by
              have := tick_any (t := q) hM HL.out HRM2.out HRNM.out (by rw [HMR.out]; exact plM_ok HRN.out q) (by rw [HMR.out]; exact hQ) (by omega) (by omega) HFR2.out (fun x => by rw [HMR.out]; exact Nat.le_trans (arr_d HRN.out q x) (by omega))
              rw [HMR.out] at this
              exact this)
            clear hM hQ hko
            go_wp2_with (go_at_call 56; (with_reducible refine HT.out.mono ?_); rintro e w4 ⟨rfl, a4, hq4, hM4⟩; have HQ4 := Lib.hid hq4; have HM4 := Lib.hid hM4; clear hq4 hM4)
            go_roundw
            case rel => exact ⟨q + 1, a4, hqt, by go_num, HM4.out, by rw [show (((q + 1 : Nat) : Int) - 1) = (q : Int) by omega]; exact HQ4.out⟩
            case measure => simp [intOf]; omega
          · have hqe : q = tn := by omega
            subst hqe
            obtain ⟨a9, m9, c9', g9, g10⟩ := hM.en
            have hlb : Below w.heap.size w wr := by have := hM.lb; rw [HMW.out] at this; exact this
            have G10 : Hid (wr.ownsRow w.heap.size 58 5 (.slice a9 m9 c9') m9 ((plM R q).o.flatMap encE)) := Lib.hid (owns_mono g10 HM5.out)
            have HLB := Lib.hid hlb
            clear hM g10 hlb hQ
            go_wp2
            go_ret2
            exact ⟨_, _, _, rfl, G10.out, HLB.out⟩
theorem rSim_any (H : RunH) (R : Rn) (t : Int) (w : World) (hR : ReadRun w H R) : Calls Tryz.prog 23 #[runV H R.fr R.sl, .int .i64 t] w (OutEn w (simR R t).1 (simR R t).2) := by
  unfold simR
  cases hB : (runB R && inB t 0 2000)
  · refine (rSim_bad H R t w hR hB).mono ?_
    rintro e w' ⟨rfl, hb⟩
    exact ⟨_, _, _, rfl, World.ownsRow_nil _ _ _ _, hb⟩
  · rw [Bool.and_eq_true, inB_iff] at hB
    obtain ⟨tn, rfl⟩ := Int.eq_ofNat_of_zero_le hB.2.1
    rw [if_pos rfl, Int.toNat_natCast]
    exact rSim_good H R tn w hR hB.1 (by omega)
end Go.Proofs.YtlhnhmimhpcoaaaGreat
