/- The contract of heavy, as, entries of the law's package. The conditions: the run reads as named and its parts are not of all lengths. -/
import Derived.Test.YtlhnhmimhpcoaaaScLaw
import Derived.Test.YtlhnhmimhpcoaaaScOpen
namespace Go.Proofs.Ytlhnhmimhpcoaaa
open Go.RowKit
set_option linter.unusedSimpArgs false
set_option linter.unusedVariables false
set_option maxRecDepth 100000 in
set_option maxHeartbeats 4000000 in
theorem heavy_any (H : RunH) (R : Rn) (w : World) (hR : ReadRun w H R) (hS : RunS H R) : Calls Try.prog 13 #[runV H R.fr R.sl] w fun e w' => e = .returned (.bool (heavyB R)) ∧ Below w.heap.size w w' := by
  have h1 := hR.t.length
  have h2 := hR.e.evs.len
  have h3 := hR.b.length
  have h4 := hR.s.length
  have t1 := hS.t; have t2 := hS.e; have t3 := hS.b; have t4 := hS.s
  have HE := Lib.hid hR.e.evs; have HT := Lib.hid hR.t
  have HSE := Lib.hid hS.v; have HSP := Lib.hid hS.p
  obtain ⟨B, hB⟩ : ∃ B, heavyB R = B := ⟨_, rfl⟩
  rw [hB]
  unfold heavyB at hB
  have ha : hvA R = H.tN + H.eN + H.bN + H.sN := by unfold hvA; rw [h1, h2, h3, h4]
  rw [ha] at hB
  have HL1 := Lib.hid h1; have HL2 := Lib.hid h2
  obtain ⟨fr, hfr⟩ : ∃ x, R.fr = x := ⟨_, rfl⟩
  obtain ⟨sl_, hsl⟩ : ∃ x, R.sl = x := ⟨_, rfl⟩
  rw [hfr, hsl]
  obtain ⟨tA, tN, tC, eA, eN, eC, bA, bN, bC, sA, sN, sC⟩ := H
  unfold runV
  simp only [] at hB t1 t2 t3 t4 HE HT HL1 HL2 ⊢
  have w1 : IntKind.i64.wrap ((tN : Int) + (eN : Int)) = (tN : Int) + (eN : Int) := IntWalk.i64_in _ (by omega)
  have w2 : IntKind.i64.wrap ((tN : Int) + (eN : Int) + (bN : Int)) = (tN : Int) + (eN : Int) + (bN : Int) := IntWalk.i64_in _ (by omega)
  have w3 : IntKind.i64.wrap ((tN : Int) + (eN : Int) + (bN : Int) + (sN : Int)) = (tN : Int) + (eN : Int) + (bN : Int) + (sN : Int) := IntWalk.i64_in _ (by omega)
  clear hR hS h1 h2 h3 h4 hfr hsl ha
  by_cases q : 300 < tN + eN + bN + sN
  · have q' : (300 : Int) < (tN : Int) + (eN : Int) + (bN : Int) + (sN : Int) := by omega
    obtain rfl : B = true := by simpa [q] using hB.symm
    clear hB
    go_enter Try.func13, Try.ntmps13
    go_wp2
    go_ret
    exact ⟨rfl, by (repeat' (first | (with_reducible exact Below.refl _ _) | (with_reducible assumption) | (with_reducible refine Below.alloc ?_ ?_ _) | (with_reducible refine Below.drew ?_) | (with_reducible refine Below.draws ?_ _) | (with_reducible refine Below.setCell ?_ ?_ _) | (refine Below.then ?_ (by with_reducible assumption)) | go_size))⟩
  · have q' : ¬ (300 : Int) < (tN : Int) + (eN : Int) + (bN : Int) + (sN : Int) := by omega
    obtain ⟨A, hA⟩ : ∃ x, tN + eN + bN + sN = x := ⟨_, rfl⟩
    have hA' : (tN : Int) + (eN : Int) + (bN : Int) + (sN : Int) = (A : Int) := by omega
    rw [hA] at hB q
    have HA' := Lib.hid hA'
    rw [decide_eq_false q, Bool.false_or] at hB
    obtain ⟨n1, hn1⟩ : ∃ x, hvE R.ev A = x := ⟨_, rfl⟩
    rw [hn1] at hB
    have HN1 : Hid (hvE (R.ev.drop 0) A = n1) := Lib.hid hn1
    have HB := Lib.hid hB
    have hA3 : A ≤ 300 := by omega
    have he3 : eN ≤ 300 := by omega
    have ht3 : tN ≤ 300 := by omega
    clear hB hn1 hA hA'
    go_enter Try.func13, Try.ntmps13
    go_wp2
    rw [HA'.out]
    clear w1 w2 w3 q'
    obtain ⟨wb, hwb⟩ : ∃ x, x = w.alloc (.cells #[.slice tA tN tC, .int .i64 fr, .int .i64 sl_, .slice eA eN eC, .slice bA bN bC, .slice sA sN sC] 29) := ⟨_, rfl⟩
    have c0 : wb.cell? ⟨w.heap.size, 0, none⟩ = some (.slice tA tN tC) := by rw [hwb]; simp [go_sem]
    have c3 : wb.cell? ⟨w.heap.size, 3, none⟩ = some (.slice eA eN eC) := by rw [hwb]; simp [go_sem]
    have hbw : Below w.heap.size w wb := by rw [hwb]; (repeat' (first | (with_reducible exact Below.refl _ _) | (with_reducible assumption) | (with_reducible refine Below.alloc ?_ ?_ _) | (with_reducible refine Below.drew ?_) | (with_reducible refine Below.draws ?_ _) | (with_reducible refine Below.setCell ?_ ?_ _) | (refine Below.then ?_ (by with_reducible assumption)) | go_size))
    have HE2 := Lib.hid (HE.out.ext hbw); have HT2 := Lib.hid (HT.out.ext hbw); have HBW := Lib.hid hbw
    rw [← hwb]
    clear hwb hbw
    go_loopw [3, 4] (fun v i wr => ∃ (k x : Nat), k ≤ eN ∧ v = .int .i64 x ∧ i = .int .i64 k ∧ hvE (R.ev.drop k) x = n1 ∧ x ≤ 300 + k * 281474976710656 ∧ wb = wr) (fun _ i _ => eN - (intOf i).toNat)
    case atStart => exact ⟨0, A, Nat.zero_le _, rfl, rfl, HN1.out, by omega, rfl⟩
    case round =>
      clear HN1
      obtain ⟨k, x, hk, rfl, rfl, hN, hx, rfl⟩ := hrel
      have HN := Lib.hid hN
      by_cases hlt : k < eN
      · obtain ⟨b, off, ea, en, ec, rfl, hb, hc, hRd⟩ := HE2.out.at_ k hlt
        have hkl : k < R.ev.length := by rw [HL2.out]; exact hlt
        have hel := HSE.out _ (List.getElem_mem hkl)
        have hen : en = (R.ev[k]).length := by
          have := hRd.length
          unfold evAt at this
          rw [List.getElem?_eq_getElem hkl] at this
          exact this.symm
        rw [List.drop_eq_getElem_cons hkl, hvE, ← hen] at hN
        have HN2 := Lib.hid hN
        have hmul : k * 281474976710656 ≤ 300 * 281474976710656 := Nat.mul_le_mul_right _ (by omega)
        have wx : IntKind.i64.wrap ((x : Int) + (en : Int)) = ((x + en : Nat) : Int) := by rw [IntWalk.i64_in _ (by omega)]; omega
        have hstep : x + en ≤ 300 + (k + 1) * 281474976710656 := by rw [Nat.add_mul]; omega
        clear hN hRd hel hen hmul
        go_wp2
        go_roundw
        case rel => exact ⟨k + 1, x + en, hlt, rfl, by go_num, HN2.out, hstep, by first | rfl | trivial⟩
        case measure => simp [intOf]; omega
      · have hxe : x = n1 := by
          rw [List.drop_of_length_le (by rw [HL2.out]; omega)] at hN
          exact hN
        subst hxe
        have hx2 : x ≤ 300 + 300 * 281474976710656 := by
          have : k * 281474976710656 ≤ 300 * 281474976710656 := Nat.mul_le_mul_right _ (by omega)
          exact Nat.le_trans hx (Nat.add_le_add_left this 300)
        have HB2 : Hid (decide (1000 < hvT (R.L.drop 0) x) = B) := HB
        clear hN hx HN
        go_wp2
        go_loopw [3, 5] (fun v i wr => ∃ (k y : Nat), k ≤ tN ∧ v = .int .i64 y ∧ i = .int .i64 k ∧ decide (1000 < hvT (R.L.drop k) y) = B ∧ y ≤ 300 + 300 * 281474976710656 + k * 281474976710656 ∧ wb = wr) (fun _ i _ => tN - (intOf i).toNat)
        case atStart => exact ⟨0, x, Nat.zero_le _, rfl, rfl, HB2.out, by rw [Nat.zero_mul, Nat.add_zero]; exact hx2, rfl⟩
        case round =>
          clear HB HB2
          obtain ⟨k2, y, hk2, rfl, rfl, hN, hy, rfl⟩ := hrel
          by_cases hlt2 : k2 < tN
          · obtain ⟨t, b, off, pa, pn, pc, rfl, hb, _, _, _, _, _, c5, hp, _, hg, _⟩ := HT2.out.at_ k2 hlt2
            have hkl : k2 < R.L.length := by rw [HL1.out]; exact hlt2
            have htm := List.mem_of_getElem? hg
            have hpl := HSP.out _ htm
            have hen : pn = t.pcs.length := hp.length.symm
            have hge : R.L[k2] = t := by have := List.getElem?_eq_getElem hkl; rw [hg] at this; simpa using this.symm
            rw [List.drop_eq_getElem_cons hkl, hvT, hge, ← hen] at hN
            have HN2 := Lib.hid hN
            have hmul : k2 * 281474976710656 ≤ 300 * 281474976710656 := Nat.mul_le_mul_right _ (by omega)
            have wx : IntKind.i64.wrap ((y : Int) + (pn : Int)) = ((y + pn : Nat) : Int) := by rw [IntWalk.i64_in _ (by omega)]; omega
            have hstep : y + pn ≤ 300 + 300 * 281474976710656 + (k2 + 1) * 281474976710656 := by rw [Nat.add_mul (k2)]; omega
            clear hN hp hg hpl hen hge hmul htm
            go_wp2
            go_roundw
            case rel => exact ⟨k2 + 1, y + pn, hlt2, rfl, by go_num, HN2.out, hstep, by first | rfl | trivial⟩
            case measure => simp [intOf]; omega
          · rw [List.drop_of_length_le (by rw [HL1.out]; omega), hvT] at hN
            have hN2 : decide ((1000 : Int) < (y : Int)) = B := by rw [← hN]; simp; omega
            clear hN
            go_wp2
            go_ret
            exact ⟨rfl, HBW.out⟩
end Go.Proofs.Ytlhnhmimhpcoaaa
