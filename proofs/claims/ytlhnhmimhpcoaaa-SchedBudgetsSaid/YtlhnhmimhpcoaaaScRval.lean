/- The contract of Valid of the reference. The conditions: the run reads as named. -/
import Derived.Test.YtlhnhmimhpcoaaaScVal2
namespace Go.Proofs.Ytlhnhmimhpcoaaa
open Go.RowKit
set_option linter.unusedSimpArgs false
set_option linter.unusedVariables false
set_option maxRecDepth 100000 in
set_option maxHeartbeats 8000000 in
theorem rValid_run (H : RunH) (R : Rn) (w : World) (hR : ReadRun w H R) : Calls Try.prog 19 #[runV H R.fr R.sl] w fun e w' => e = .returned (.bool (runB R)) ∧ Below w.heap.size w w' := by
  have h1 := hR.t.length
  have h2 := hR.e.evs.len
  have h3 := hR.b.length
  have h4 := hR.s.length
  have s1 := hR.t.small; have s2 := hR.e.evs.sm; have s3 := hR.b.small; have s4 := hR.s.small
  obtain ⟨B, hB⟩ : ∃ B, runB R = B := ⟨_, rfl⟩
  rw [hB]
  unfold runB at hB
  rw [h1, h2, h3, h4] at hB
  obtain ⟨V1, e1⟩ : ∃ x, validL R.L = x := ⟨_, rfl⟩
  obtain ⟨V2, e2⟩ : ∃ x, supB R.fr R.sl = x := ⟨_, rfl⟩
  obtain ⟨V8, e8⟩ : ∃ x, R.sg.all (sgB H.tN) = x := ⟨_, rfl⟩
  rw [e1, e2, e8] at hB
  have E1' := Lib.hid e1; have E2' := Lib.hid e2; have E8 := Lib.hid e8
  obtain ⟨fr, hfr⟩ : ∃ x, R.fr = x := ⟨_, rfl⟩
  obtain ⟨sl_, hsl⟩ : ∃ x, R.sl = x := ⟨_, rfl⟩
  rw [hfr, hsl]
  rw [hfr, hsl] at E2'
  have HT := Lib.hid hR.t; have HE := Lib.hid hR.e.evs; have HBU := Lib.hid hR.b; have HSG := Lib.hid hR.s
  obtain ⟨tA, tN, tC, eA, eN, eC, bA, bN, bC, sA, sN, sC⟩ := H
  simp only [] at h1 h2 h3 h4 s1 s2 s3 s4 hB HT HE HBU HSG E8
  unfold runV
  simp only []
  have HH1 := Lib.hid h1; have HH2 := Lib.hid h2; have HH3 := Lib.hid h3; have HH4 := Lib.hid h4
  clear hR e1 e2 e8 hfr hsl h1 h2 h3 h4
  cases V1
  · obtain rfl : B = false := by simpa using hB.symm
    clear hB
    go_enter Try.func19, Try.ntmps19
    go_wp2_with (go_at_call 50; (with_reducible refine (rValid_is (HT.out.ext (by (repeat' (first | (with_reducible exact Below.refl _ _) | (with_reducible assumption) | (with_reducible refine Below.alloc ?_ ?_ _) | (with_reducible refine Below.drew ?_) | (with_reducible refine Below.draws ?_ _) | (with_reducible refine Below.setCell ?_ ?_ _) | (refine Below.then ?_ (by with_reducible assumption)) | go_size)))) E1'.out).mono ?_); rintro e w2 ⟨rfl, hb2⟩; have B2 : Hid (Below w.heap.size w w2) := Lib.hid (Below.trans (by (repeat' (first | (with_reducible exact Below.refl _ _) | (with_reducible assumption) | (with_reducible refine Below.alloc ?_ ?_ _) | (with_reducible refine Below.drew ?_) | (with_reducible refine Below.draws ?_ _) | (with_reducible refine Below.setCell ?_ ?_ _) | (refine Below.then ?_ (by with_reducible assumption)) | go_size))) (hb2.mono (by simp))); have z2 : w.heap.size < w2.heap.size := Nat.lt_of_lt_of_le (by simp) hb2.size; have c0 := (hb2.cell (p := ⟨w.heap.size, 0, none⟩) (by simp)).trans (by simp [go_sem]; rfl); have c1 := (hb2.cell (p := ⟨w.heap.size, 1, none⟩) (by simp)).trans (by simp [go_sem]; rfl); have c2 := (hb2.cell (p := ⟨w.heap.size, 2, none⟩) (by simp)).trans (by simp [go_sem]; rfl); have c3 := (hb2.cell (p := ⟨w.heap.size, 3, none⟩) (by simp)).trans (by simp [go_sem]; rfl); have c4 := (hb2.cell (p := ⟨w.heap.size, 4, none⟩) (by simp)).trans (by simp [go_sem]; rfl); have c5 := (hb2.cell (p := ⟨w.heap.size, 5, none⟩) (by simp)).trans (by simp [go_sem]; rfl); clear hb2)
    go_ret
    exact ⟨rfl, B2.out⟩
  · cases V2
    · obtain rfl : B = false := by simpa using hB.symm
      clear hB
      go_enter Try.func19, Try.ntmps19
      go_wp2_with (first | (go_at_call 50; (with_reducible refine (rValid_is (HT.out.ext (by (repeat' (first | (with_reducible exact Below.refl _ _) | (with_reducible assumption) | (with_reducible refine Below.alloc ?_ ?_ _) | (with_reducible refine Below.drew ?_) | (with_reducible refine Below.draws ?_ _) | (with_reducible refine Below.setCell ?_ ?_ _) | (refine Below.then ?_ (by with_reducible assumption)) | go_size)))) E1'.out).mono ?_); rintro e w2 ⟨rfl, hb2⟩; have B2 : Hid (Below w.heap.size w w2) := Lib.hid (Below.trans (by (repeat' (first | (with_reducible exact Below.refl _ _) | (with_reducible assumption) | (with_reducible refine Below.alloc ?_ ?_ _) | (with_reducible refine Below.drew ?_) | (with_reducible refine Below.draws ?_ _) | (with_reducible refine Below.setCell ?_ ?_ _) | (refine Below.then ?_ (by with_reducible assumption)) | go_size))) (hb2.mono (by simp))); have z2 : w.heap.size < w2.heap.size := Nat.lt_of_lt_of_le (by simp) hb2.size; have c0 := (hb2.cell (p := ⟨w.heap.size, 0, none⟩) (by simp)).trans (by simp [go_sem]; rfl); have c1 := (hb2.cell (p := ⟨w.heap.size, 1, none⟩) (by simp)).trans (by simp [go_sem]; rfl); have c2 := (hb2.cell (p := ⟨w.heap.size, 2, none⟩) (by simp)).trans (by simp [go_sem]; rfl); have c3 := (hb2.cell (p := ⟨w.heap.size, 3, none⟩) (by simp)).trans (by simp [go_sem]; rfl); have c4 := (hb2.cell (p := ⟨w.heap.size, 4, none⟩) (by simp)).trans (by simp [go_sem]; rfl); have c5 := (hb2.cell (p := ⟨w.heap.size, 5, none⟩) (by simp)).trans (by simp [go_sem]; rfl); clear hb2) | (go_at_call 51; (with_reducible refine (rsupV_is E2'.out).mono ?_); rintro e w3 ⟨rfl, hb3⟩; have B3 := Lib.hid (Below.then B2.out hb3); have z3 : w.heap.size < w3.heap.size := Nat.lt_of_lt_of_le z2 hb3.size; have d0 := (hb3.cell (p := ⟨w.heap.size, 0, none⟩) z2).trans c0; have d2 := (hb3.cell (p := ⟨w.heap.size, 3, none⟩) z2).trans c3; have d3 := (hb3.cell (p := ⟨w.heap.size, 4, none⟩) z2).trans c4; have d4 := (hb3.cell (p := ⟨w.heap.size, 5, none⟩) z2).trans c5; clear hb3 c0 c1 c2 c3 c4 c5))
      go_ret
      exact ⟨rfl, B3.out⟩
    · have hn5 : tN ≤ 5 := by rw [← HH1.out]; exact (valid_of E1'.out).r.len
      by_cases q3 : eN = tN
      · by_cases q4 : bN = tN
        · by_cases q5 : sN ≤ 40
          · rw [decide_eq_true q3, decide_eq_true q4, decide_eq_true q5] at hB
            have q3' : ((eN : Int) != (tN : Int)) = false := by simp; omega
            have q4' : ((bN : Int) != (tN : Int)) = false := by simp; omega
            have q5' : decide ((40 : Int) < (sN : Int)) = false := by simp; omega
            have HB0 : Hid (((R.ev.drop 0).all evB && ((R.bu.drop 0).all (fun b => inB b 0 1000) && V8)) = B) := Lib.hid (by simpa using hB)
            have Q3 := Lib.hid q3; have Q4 := Lib.hid q4
            clear hB q3 q4
            go_enter Try.func19, Try.ntmps19
            go_wp2_with (first | (go_at_call 50; (with_reducible refine (rValid_is (HT.out.ext (by (repeat' (first | (with_reducible exact Below.refl _ _) | (with_reducible assumption) | (with_reducible refine Below.alloc ?_ ?_ _) | (with_reducible refine Below.drew ?_) | (with_reducible refine Below.draws ?_ _) | (with_reducible refine Below.setCell ?_ ?_ _) | (refine Below.then ?_ (by with_reducible assumption)) | go_size)))) E1'.out).mono ?_); rintro e w2 ⟨rfl, hb2⟩; have B2 : Hid (Below w.heap.size w w2) := Lib.hid (Below.trans (by (repeat' (first | (with_reducible exact Below.refl _ _) | (with_reducible assumption) | (with_reducible refine Below.alloc ?_ ?_ _) | (with_reducible refine Below.drew ?_) | (with_reducible refine Below.draws ?_ _) | (with_reducible refine Below.setCell ?_ ?_ _) | (refine Below.then ?_ (by with_reducible assumption)) | go_size))) (hb2.mono (by simp))); have z2 : w.heap.size < w2.heap.size := Nat.lt_of_lt_of_le (by simp) hb2.size; have c0 := (hb2.cell (p := ⟨w.heap.size, 0, none⟩) (by simp)).trans (by simp [go_sem]; rfl); have c1 := (hb2.cell (p := ⟨w.heap.size, 1, none⟩) (by simp)).trans (by simp [go_sem]; rfl); have c2 := (hb2.cell (p := ⟨w.heap.size, 2, none⟩) (by simp)).trans (by simp [go_sem]; rfl); have c3 := (hb2.cell (p := ⟨w.heap.size, 3, none⟩) (by simp)).trans (by simp [go_sem]; rfl); have c4 := (hb2.cell (p := ⟨w.heap.size, 4, none⟩) (by simp)).trans (by simp [go_sem]; rfl); have c5 := (hb2.cell (p := ⟨w.heap.size, 5, none⟩) (by simp)).trans (by simp [go_sem]; rfl); clear hb2) | (go_at_call 51; (with_reducible refine (rsupV_is E2'.out).mono ?_); rintro e w3 ⟨rfl, hb3⟩; have B3 := Lib.hid (Below.then B2.out hb3); have z3 : w.heap.size < w3.heap.size := Nat.lt_of_lt_of_le z2 hb3.size; have d0 := (hb3.cell (p := ⟨w.heap.size, 0, none⟩) z2).trans c0; have d2 := (hb3.cell (p := ⟨w.heap.size, 3, none⟩) z2).trans c3; have d3 := (hb3.cell (p := ⟨w.heap.size, 4, none⟩) z2).trans c4; have d4 := (hb3.cell (p := ⟨w.heap.size, 5, none⟩) z2).trans c5; clear hb3 c0 c1 c2 c3 c4 c5))
            have HE2 := Lib.hid (HE.out.ext B3.out); have HBU2 := Lib.hid (HBU.out.ext B3.out); have HSG2 := Lib.hid (HSG.out.ext B3.out)
            clear q3' q4' q5' B2 z2 HE HBU HSG HT
            go_loopw [3] (fun i wr => ∃ k : Nat, k ≤ eN ∧ i = .int .i64 k ∧ ((R.ev.drop k).all evB && ((R.bu.drop k).all (fun b => inB b 0 1000) && V8)) = B ∧ Below w3.heap.size w3 wr) (fun i _ => eN - (intOf i).toNat)
            case atStart => exact ⟨0, Nat.zero_le _, rfl, HB0.out, Below.refl _ _⟩
            case round =>
              clear HB0
              obtain ⟨k, hk, rfl, hX, hB⟩ := hrel
              have HB := Lib.hid hB
              have f0 := (hB.cell (p := ⟨w.heap.size, 0, none⟩) z3).trans d0
              have f2 := (hB.cell (p := ⟨w.heap.size, 3, none⟩) z3).trans d2
              have f3 := (hB.cell (p := ⟨w.heap.size, 4, none⟩) z3).trans d3
              have f4 := (hB.cell (p := ⟨w.heap.size, 5, none⟩) z3).trans d4
              by_cases hlt : k < eN
              · obtain ⟨b, off, ea, en, ec, rfl, hb, hc, hRd⟩ := HE2.out.at_ k hlt
                have hkl : k < R.ev.length := by rw [HH2.out]; exact hlt
                have hbl : k < R.bu.length := by rw [HH3.out]; have := Q3.out; have := Q4.out; omega
                obtain ⟨es, hes⟩ : ∃ x, R.ev[k] = x := ⟨_, rfl⟩
                have hev : evAt R.ev k = es := by unfold evAt; rw [List.getElem?_eq_getElem hkl]; exact hes
                rw [hev] at hRd
                have HRD := Lib.hid (hRd.ext hB)
                have hen : en = es.length := hRd.length.symm
                obtain ⟨x, b2, off2, rfl, hb2, hc2, hx⟩ := HBU2.out.idx k (by rw [← HBU2.out.length]; exact hbl)
                have hbx : R.bu[k] = x := by have := List.getElem?_eq_getElem hbl; rw [hx] at this; simpa using this.symm
                rw [List.drop_eq_getElem_cons hkl, List.drop_eq_getElem_cons hbl, List.all_cons, List.all_cons, hes, hbx] at hX
                have hcw := (hB.cell (p := ⟨b, off + k, none⟩) hb).trans hc
                have hcw2 := (hB.cell (p := ⟨b2, off2 + k, none⟩) hb2).trans hc2
                have hens := hRd.small
                have hkb : k < bN := by rw [← HH3.out]; exact hbl
                by_cases q6 : 40 < en
                · obtain rfl : B = false := by
                    have : evB es = false := by unfold evB; rw [decide_eq_false (by omega), Bool.and_false]
                    rw [this] at hX; simpa using hX.symm
                  have q6' : (40 : Int) < (en : Int) := by omega
                  clear hX hRd hes hev hbx hx hc hc2 hen hB
                  go_wp2
                  go_ret
                  exact ⟨rfl, Below.then B3.out HB.out⟩
                · have q6' : ¬ (40 : Int) < (en : Int) := by omega
                  cases hbi : inB x 0 1000
                  · obtain rfl : B = false := by rw [hbi] at hX; simpa using hX.symm
                    have HBI := Lib.hid hbi
                    clear hX hRd hes hev hbx hx hc hc2 hen hB hbi
                    go_wp2_with (go_at_call 47; (with_reducible refine (cin_is HBI.out).mono ?_); rintro e w4 ⟨rfl, rfl⟩)
                    go_ret
                    exact ⟨rfl, Below.then B3.out HB.out⟩
                  · have HBI := Lib.hid hbi
                    obtain ⟨X, hXX⟩ : ∃ X, ((R.ev.drop (k + 1)).all evB && ((R.bu.drop (k + 1)).all (fun b => inB b 0 1000) && V8)) = X := ⟨_, rfl⟩
                    have HXX := Lib.hid hXX
                    have HX0 : Hid ((okFrom (prvE es 0) (es.drop 0) && X) = B) := Lib.hid (by
                      rw [hbi, show evB es = okFrom none es by unfold evB; rw [decide_eq_true (by omega), Bool.and_true]] at hX
                      rw [← hX, ← hXX, List.drop_zero]
                      simp only [prvE, Bool.true_and, Bool.and_assoc])
                    have HEN := Lib.hid hen.symm
                    clear hX hRd hes hev hbx hx hc hc2 hen hB hbi hXX
                    go_wp2_with (go_at_call 47; (with_reducible refine (cin_is HBI.out).mono ?_); rintro e w4 ⟨rfl, rfl⟩)
                    go_loopw [5] (fun i wx => ∃ j : Nat, j ≤ en ∧ i = .int .i64 j ∧ (okFrom (prvE es j) (es.drop j) && X) = B ∧ Below wr.heap.size wr wx) (fun i _ => en - (intOf i).toNat)
                    case atStart => exact ⟨0, Nat.zero_le _, rfl, HX0.out, Below.refl _ _⟩
                    case round =>
                      clear HX0
                      obtain ⟨j, hj, rfl, hX, hB2⟩ := hrel
                      have HB2 := Lib.hid hB2
                      by_cases hjn : j < en
                      · obtain ⟨x1, y1, b3, off3, rfl, hb3, e0, e1, hg, _⟩ := (HRD.out.ext hB2).pc_at' j hjn
                        rw [okFrom_step hg] at hX
                        cases hx1 : inB x1 0 1000000
                        · obtain rfl : B = false := by rw [hx1] at hX; simpa using hX.symm
                          have HX := Lib.hid hx1
                          clear hX hB2 hg hx1
                          go_wp2_with (refine wp_region_later_lit (by kernel_rfl) (by kernel_rfl) ?_; (repeat (go_big_quiet_step ((go_at_call 47; exact later_same (cin_is HX.out))))); refine wpQuiet_nil ?_; intro w7 hb7)
                          go_ret
                          exact ⟨rfl, Below.then B3.out ((HB.out.trans ((Below.then HB2.out hb7).mono HB.out.size)))⟩
                        · cases hy1 : inB y1 0 1000000
                          · obtain rfl : B = false := by rw [hx1, hy1] at hX; simpa using hX.symm
                            have HX := Lib.hid hx1; have HY := Lib.hid hy1
                            clear hX hB2 hg hx1 hy1
                            go_wp2_with (refine wp_region_later_lit (by kernel_rfl) (by kernel_rfl) ?_; (repeat (go_big_quiet_step ((first | (go_at_call 47; exact later_same (cin_is HX.out)) | (go_at_call 47; exact later_same (cin_is HY.out)))))); refine wpQuiet_nil ?_; intro w7 hb7)
                            go_ret
                            exact ⟨rfl, Below.then B3.out ((HB.out.trans ((Below.then HB2.out hb7).mono HB.out.size)))⟩
                          · rw [hx1, hy1] at hX
                            have HX := Lib.hid hx1; have HY := Lib.hid hy1
                            rcases Nat.eq_zero_or_pos j with hj0 | hj0
                            · have hp : prvE es j = none := by rw [hj0]; rfl
                              rw [hp, gtP] at hX
                              have HX2 : Hid ((okFrom (prvE es (j + 1)) (es.drop (j + 1)) && X) = B) := Lib.hid (by simpa using hX)
                              have hj0' : decide ((0 : Int) < (j : Int)) = false := by simp; omega
                              have hj0'' : decide (0 < j) = false := by simp; omega
                              clear hX hB2 hg hx1 hy1 hp hj0
                              go_wp2_with (refine wp_region_later_lit (by kernel_rfl) (by kernel_rfl) ?_; (repeat (go_big_quiet_step ((first | (go_at_call 47; exact later_same (cin_is HX.out)) | (go_at_call 47; exact later_same (cin_is HY.out)))))); refine wpQuiet_nil ?_; intro w7 hb7)
                              go_roundw
                              case rel => exact ⟨j + 1, hjn, by go_num, HX2.out, Below.then HB2.out hb7⟩
                              case measure => simp [intOf]; omega
                            · obtain ⟨z, zz2, b4, off4, e', _, g0, _, hg', _⟩ := (HRD.out.ext hB2).pc_at' (j - 1) (by omega)
                              simp at e'
                              obtain ⟨rfl, rfl⟩ := e'
                              have hp : prvE es j = some z := by
                                obtain ⟨m, rfl⟩ : ∃ m, j = m + 1 := ⟨j - 1, by omega⟩
                                rw [Nat.add_sub_cancel] at hg'
                                simp [prvE, hg']
                              rw [hp, gtP] at hX
                              have hj0' : decide ((0 : Int) < (j : Int)) = true := by simp; omega
                              have hj0'' : decide (0 < j) = true := by simp; omega
                              have wk : IntKind.i64.wrap ((j : Int) - 1) = ((j - 1 : Nat) : Int) := by rw [IntWalk.i64_in _ (by omega)]; omega
                              have hj1 : j - 1 < en := by omega
                              by_cases hz : z ≤ x1
                              · have hz' : decide (x1 < z) = false := by simp; omega
                                have HX2 : Hid ((okFrom (prvE es (j + 1)) (es.drop (j + 1)) && X) = B) := Lib.hid (by simpa [hz] using hX)
                                clear hX hB2 hg hx1 hy1 hp hg' hz
                                go_wp2_with (refine wp_region_later_lit (by kernel_rfl) (by kernel_rfl) ?_; (repeat (go_big_quiet_step ((first | (go_at_call 47; exact later_same (cin_is HX.out)) | (go_at_call 47; exact later_same (cin_is HY.out)))))); refine wpQuiet_nil ?_; intro w7 hb7)
                                go_roundw
                                case rel => exact ⟨j + 1, hjn, by go_num, HX2.out, Below.then HB2.out hb7⟩
                                case measure => simp [intOf]; omega
                              · have hz' : decide (x1 < z) = true := by simp; omega
                                obtain rfl : B = false := by simpa [hz] using hX.symm
                                clear hX hB2 hg hx1 hy1 hp hg' hz
                                go_wp2_with (refine wp_region_later_lit (by kernel_rfl) (by kernel_rfl) ?_; (repeat (go_big_quiet_step ((first | (go_at_call 47; exact later_same (cin_is HX.out)) | (go_at_call 47; exact later_same (cin_is HY.out)))))); refine wpQuiet_nil ?_; intro w7 hb7)
                                go_ret
                                exact ⟨rfl, Below.then B3.out ((HB.out.trans ((Below.then HB2.out hb7).mono HB.out.size)))⟩
                      · rw [List.drop_of_length_le (by rw [HEN.out]; omega)] at hX
                        have hX2 : X = B := by simpa [okFrom] using hX
                        subst hX2
                        clear hX hB2
                        go_wp2
                        go_roundw
                        case rel => exact ⟨k + 1, hlt, by go_num, HXX.out, HB.out.trans (HB2.out.mono HB.out.size)⟩
                        case measure => simp [intOf]; omega
              · rw [List.drop_of_length_le (by rw [HH2.out]; omega), List.drop_of_length_le (by rw [HH3.out]; have := Q3.out; have := Q4.out; omega)] at hX
                have HX0 : Hid ((R.sg.drop 0).all (sgB tN) = B) := Lib.hid (by rw [List.drop_zero, E8.out]; simpa using hX)
                have HS3 := Lib.hid (HSG2.out.ext hB)
                have hwz : w.heap.size < wr.heap.size := Nat.lt_of_lt_of_le z3 hB.size
                clear hX hB
                go_wp2
                go_loopw [6] (fun i wx => ∃ j : Nat, j ≤ sN ∧ i = .int .i64 j ∧ (R.sg.drop j).all (sgB tN) = B ∧ Below wr.heap.size wr wx) (fun i _ => sN - (intOf i).toNat)
                case atStart => exact ⟨0, Nat.zero_le _, rfl, HX0.out, Below.refl _ _⟩
                case round =>
                  clear HX0
                  obtain ⟨j, hj, rfl, hX, hB2⟩ := hrel
                  have HB2 := Lib.hid hB2
                  have g0 := (hB2.cell (p := ⟨w.heap.size, 0, none⟩) hwz).trans f0
                  have g4 := (hB2.cell (p := ⟨w.heap.size, 5, none⟩) hwz).trans f4
                  have hwz2 := Nat.lt_of_lt_of_le hwz hB2.size
                  by_cases hjn : j < sN
                  · obtain ⟨x1, y1, b3, off3, rfl, hb3, e0, e1, hg, _⟩ := (HS3.out.ext hB2).pc_at' j hjn
                    obtain ⟨hjl, hge⟩ := List.getElem?_eq_some_iff.1 hg
                    rw [List.drop_eq_getElem_cons hjl, List.all_cons, hge, sgB] at hX
                    simp only [] at hX
                    have wn : IntKind.i64.wrap ((tN : Int) - 1) = (tN : Int) - 1 := IntWalk.i64_in _ (by omega)
                    cases hx1 : inB x1 0 1000000
                    · obtain rfl : B = false := by rw [hx1] at hX; simpa using hX.symm
                      have HX := Lib.hid hx1
                      clear hX hB2 hg hx1 hge
                      go_wp2_with (refine wp_region_later_lit (by kernel_rfl) (by kernel_rfl) ?_; (repeat (go_big_quiet_step ((go_at_call 47; exact later_same (cin_is HX.out))))); refine wpQuiet_nil ?_; intro w7 hb7)
                      go_ret
                      exact ⟨rfl, Below.then B3.out ((HB.out.trans ((Below.then HB2.out hb7).mono HB.out.size)))⟩
                    · cases hy1 : inB y1 0 ((tN : Int) - 1)
                      · obtain rfl : B = false := by rw [hx1, hy1] at hX; simpa using hX.symm
                        have HX := Lib.hid hx1; have HY := Lib.hid hy1
                        clear hX hB2 hg hx1 hy1 hge
                        go_wp2_with (refine wp_region_later_lit (by kernel_rfl) (by kernel_rfl) ?_; (repeat (go_big_quiet_step ((first | (go_at_call 47; exact later_same (cin_is HX.out)) | (go_at_call 47; exact later_same (cin_is HY.out)))))); refine wpQuiet_nil ?_; intro w7 hb7)
                        go_ret
                        exact ⟨rfl, Below.then B3.out ((HB.out.trans ((Below.then HB2.out hb7).mono HB.out.size)))⟩
                      · rw [hx1, hy1] at hX
                        have HX2 : Hid ((R.sg.drop (j + 1)).all (sgB tN) = B) := Lib.hid (by simpa using hX)
                        have HX := Lib.hid hx1; have HY := Lib.hid hy1
                        clear hX hB2 hg hx1 hy1 hge
                        go_wp2_with (refine wp_region_later_lit (by kernel_rfl) (by kernel_rfl) ?_; (repeat (go_big_quiet_step ((first | (go_at_call 47; exact later_same (cin_is HX.out)) | (go_at_call 47; exact later_same (cin_is HY.out)))))); refine wpQuiet_nil ?_; intro w7 hb7)
                        go_roundw
                        case rel => exact ⟨j + 1, hjn, by go_num, HX2.out, Below.then HB2.out hb7⟩
                        case measure => simp [intOf]; omega
                  · rw [List.drop_of_length_le (by rw [HH4.out]; omega)] at hX
                    obtain rfl : B = true := by simpa using hX.symm
                    clear hX hB2
                    go_wp2
                    go_ret
                    exact ⟨rfl, Below.then B3.out (HB.out.trans (HB2.out.mono HB.out.size))⟩
          · rw [decide_eq_true q3, decide_eq_true q4, decide_eq_false q5] at hB
            obtain rfl : B = false := by simpa using hB.symm
            have q3' : ((eN : Int) != (tN : Int)) = false := by simp; omega
            have q4' : ((bN : Int) != (tN : Int)) = false := by simp; omega
            have q5' : decide ((40 : Int) < (sN : Int)) = true := by simp; omega
            clear hB q3 q4
            go_enter Try.func19, Try.ntmps19
            go_wp2_with (first | (go_at_call 50; (with_reducible refine (rValid_is (HT.out.ext (by (repeat' (first | (with_reducible exact Below.refl _ _) | (with_reducible assumption) | (with_reducible refine Below.alloc ?_ ?_ _) | (with_reducible refine Below.drew ?_) | (with_reducible refine Below.draws ?_ _) | (with_reducible refine Below.setCell ?_ ?_ _) | (refine Below.then ?_ (by with_reducible assumption)) | go_size)))) E1'.out).mono ?_); rintro e w2 ⟨rfl, hb2⟩; have B2 : Hid (Below w.heap.size w w2) := Lib.hid (Below.trans (by (repeat' (first | (with_reducible exact Below.refl _ _) | (with_reducible assumption) | (with_reducible refine Below.alloc ?_ ?_ _) | (with_reducible refine Below.drew ?_) | (with_reducible refine Below.draws ?_ _) | (with_reducible refine Below.setCell ?_ ?_ _) | (refine Below.then ?_ (by with_reducible assumption)) | go_size))) (hb2.mono (by simp))); have z2 : w.heap.size < w2.heap.size := Nat.lt_of_lt_of_le (by simp) hb2.size; have c0 := (hb2.cell (p := ⟨w.heap.size, 0, none⟩) (by simp)).trans (by simp [go_sem]; rfl); have c1 := (hb2.cell (p := ⟨w.heap.size, 1, none⟩) (by simp)).trans (by simp [go_sem]; rfl); have c2 := (hb2.cell (p := ⟨w.heap.size, 2, none⟩) (by simp)).trans (by simp [go_sem]; rfl); have c3 := (hb2.cell (p := ⟨w.heap.size, 3, none⟩) (by simp)).trans (by simp [go_sem]; rfl); have c4 := (hb2.cell (p := ⟨w.heap.size, 4, none⟩) (by simp)).trans (by simp [go_sem]; rfl); have c5 := (hb2.cell (p := ⟨w.heap.size, 5, none⟩) (by simp)).trans (by simp [go_sem]; rfl); clear hb2) | (go_at_call 51; (with_reducible refine (rsupV_is E2'.out).mono ?_); rintro e w3 ⟨rfl, hb3⟩; have B3 := Lib.hid (Below.then B2.out hb3); have z3 : w.heap.size < w3.heap.size := Nat.lt_of_lt_of_le z2 hb3.size; have d0 := (hb3.cell (p := ⟨w.heap.size, 0, none⟩) z2).trans c0; have d2 := (hb3.cell (p := ⟨w.heap.size, 3, none⟩) z2).trans c3; have d3 := (hb3.cell (p := ⟨w.heap.size, 4, none⟩) z2).trans c4; have d4 := (hb3.cell (p := ⟨w.heap.size, 5, none⟩) z2).trans c5; clear hb3 c0 c1 c2 c3 c4 c5))
            go_ret
            exact ⟨rfl, B3.out⟩
        · rw [decide_eq_true q3, decide_eq_false q4] at hB
          obtain rfl : B = false := by simpa using hB.symm
          have q3' : ((eN : Int) != (tN : Int)) = false := by simp; omega
          have q4' : ((bN : Int) != (tN : Int)) = true := by simp; omega
          clear hB q3
          go_enter Try.func19, Try.ntmps19
          go_wp2_with (first | (go_at_call 50; (with_reducible refine (rValid_is (HT.out.ext (by (repeat' (first | (with_reducible exact Below.refl _ _) | (with_reducible assumption) | (with_reducible refine Below.alloc ?_ ?_ _) | (with_reducible refine Below.drew ?_) | (with_reducible refine Below.draws ?_ _) | (with_reducible refine Below.setCell ?_ ?_ _) | (refine Below.then ?_ (by with_reducible assumption)) | go_size)))) E1'.out).mono ?_); rintro e w2 ⟨rfl, hb2⟩; have B2 : Hid (Below w.heap.size w w2) := Lib.hid (Below.trans (by (repeat' (first | (with_reducible exact Below.refl _ _) | (with_reducible assumption) | (with_reducible refine Below.alloc ?_ ?_ _) | (with_reducible refine Below.drew ?_) | (with_reducible refine Below.draws ?_ _) | (with_reducible refine Below.setCell ?_ ?_ _) | (refine Below.then ?_ (by with_reducible assumption)) | go_size))) (hb2.mono (by simp))); have z2 : w.heap.size < w2.heap.size := Nat.lt_of_lt_of_le (by simp) hb2.size; have c0 := (hb2.cell (p := ⟨w.heap.size, 0, none⟩) (by simp)).trans (by simp [go_sem]; rfl); have c1 := (hb2.cell (p := ⟨w.heap.size, 1, none⟩) (by simp)).trans (by simp [go_sem]; rfl); have c2 := (hb2.cell (p := ⟨w.heap.size, 2, none⟩) (by simp)).trans (by simp [go_sem]; rfl); have c3 := (hb2.cell (p := ⟨w.heap.size, 3, none⟩) (by simp)).trans (by simp [go_sem]; rfl); have c4 := (hb2.cell (p := ⟨w.heap.size, 4, none⟩) (by simp)).trans (by simp [go_sem]; rfl); have c5 := (hb2.cell (p := ⟨w.heap.size, 5, none⟩) (by simp)).trans (by simp [go_sem]; rfl); clear hb2) | (go_at_call 51; (with_reducible refine (rsupV_is E2'.out).mono ?_); rintro e w3 ⟨rfl, hb3⟩; have B3 := Lib.hid (Below.then B2.out hb3); have z3 : w.heap.size < w3.heap.size := Nat.lt_of_lt_of_le z2 hb3.size; have d0 := (hb3.cell (p := ⟨w.heap.size, 0, none⟩) z2).trans c0; have d2 := (hb3.cell (p := ⟨w.heap.size, 3, none⟩) z2).trans c3; have d3 := (hb3.cell (p := ⟨w.heap.size, 4, none⟩) z2).trans c4; have d4 := (hb3.cell (p := ⟨w.heap.size, 5, none⟩) z2).trans c5; clear hb3 c0 c1 c2 c3 c4 c5))
          go_ret
          exact ⟨rfl, B3.out⟩
      · rw [decide_eq_false q3] at hB
        obtain rfl : B = false := by simpa using hB.symm
        have q3' : ((eN : Int) != (tN : Int)) = true := by simp; omega
        clear hB
        go_enter Try.func19, Try.ntmps19
        go_wp2_with (first | (go_at_call 50; (with_reducible refine (rValid_is (HT.out.ext (by (repeat' (first | (with_reducible exact Below.refl _ _) | (with_reducible assumption) | (with_reducible refine Below.alloc ?_ ?_ _) | (with_reducible refine Below.drew ?_) | (with_reducible refine Below.draws ?_ _) | (with_reducible refine Below.setCell ?_ ?_ _) | (refine Below.then ?_ (by with_reducible assumption)) | go_size)))) E1'.out).mono ?_); rintro e w2 ⟨rfl, hb2⟩; have B2 : Hid (Below w.heap.size w w2) := Lib.hid (Below.trans (by (repeat' (first | (with_reducible exact Below.refl _ _) | (with_reducible assumption) | (with_reducible refine Below.alloc ?_ ?_ _) | (with_reducible refine Below.drew ?_) | (with_reducible refine Below.draws ?_ _) | (with_reducible refine Below.setCell ?_ ?_ _) | (refine Below.then ?_ (by with_reducible assumption)) | go_size))) (hb2.mono (by simp))); have z2 : w.heap.size < w2.heap.size := Nat.lt_of_lt_of_le (by simp) hb2.size; have c0 := (hb2.cell (p := ⟨w.heap.size, 0, none⟩) (by simp)).trans (by simp [go_sem]; rfl); have c1 := (hb2.cell (p := ⟨w.heap.size, 1, none⟩) (by simp)).trans (by simp [go_sem]; rfl); have c2 := (hb2.cell (p := ⟨w.heap.size, 2, none⟩) (by simp)).trans (by simp [go_sem]; rfl); have c3 := (hb2.cell (p := ⟨w.heap.size, 3, none⟩) (by simp)).trans (by simp [go_sem]; rfl); have c4 := (hb2.cell (p := ⟨w.heap.size, 4, none⟩) (by simp)).trans (by simp [go_sem]; rfl); have c5 := (hb2.cell (p := ⟨w.heap.size, 5, none⟩) (by simp)).trans (by simp [go_sem]; rfl); clear hb2) | (go_at_call 51; (with_reducible refine (rsupV_is E2'.out).mono ?_); rintro e w3 ⟨rfl, hb3⟩; have B3 := Lib.hid (Below.then B2.out hb3); have z3 : w.heap.size < w3.heap.size := Nat.lt_of_lt_of_le z2 hb3.size; have d0 := (hb3.cell (p := ⟨w.heap.size, 0, none⟩) z2).trans c0; have d2 := (hb3.cell (p := ⟨w.heap.size, 3, none⟩) z2).trans c3; have d3 := (hb3.cell (p := ⟨w.heap.size, 4, none⟩) z2).trans c4; have d4 := (hb3.cell (p := ⟨w.heap.size, 5, none⟩) z2).trans c5; clear hb3 c0 c1 c2 c3 c4 c5))
        go_ret
        exact ⟨rfl, B3.out⟩
end Go.Proofs.Ytlhnhmimhpcoaaa
