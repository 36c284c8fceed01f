/- The walk of SchedSignals: it returns true. The conditions: the run reads as named. -/
import Derived.Test.YtlhnhmimhpcoaaaScLaw2
import Derived.Test.YtlhnhmimhpcoaaaScPre
import Derived.BigRegion
namespace Go.Proofs.Ytlhnhmimhpcoaaa
open Go.RowKit
set_option linter.unusedSimpArgs false
set_option linter.unusedVariables false
theorem filter_step {α : Type} {p : α → Bool} {l : List α} {k : Nat} {g : α} (h : l[k]? = some g) : (l.drop k).filter p = (if p g = true then [g] else []) ++ (l.drop (k + 1)).filter p := by
  obtain ⟨hk, e⟩ := List.getElem?_eq_some_iff.1 h
  rw [List.drop_eq_getElem_cons hk, List.filter_cons, e]
  split <;> rfl
theorem hrd_take {es : List En} {g : P2} {k : Nat} {e : En} (h : es[k]? = some e) : hrd (es.take (k + 1)) g = (hrd (es.take k) g || (decide (e.w = 2) && decide (e.m = g.1) && decide (e.k = g.2))) := by
  unfold hrd
  rw [List.take_add_one, h, List.any_append]
  simp
set_option maxRecDepth 100000 in
set_option maxHeartbeats 4000000 in
theorem signals_walk {w : World} (H : RunH) (R : Rn) (hR : ReadRun w H R) (hS : RunS H R) (t : Int) (ht : -9223372036854775808 ≤ t ∧ t ≤ 9223372036854775807) :
    Calls Try.prog 5 #[runV H R.fr R.sl, .int .i64 t] w fun e w' => e = .returned (.bool true) ∧ Below w.heap.size w w' := by
  have HH := Lib.hid (fun w1 (hb : Below w.heap.size w w1) => heavy_any H R w1 (hR.ext hb) hS)
  obtain ⟨es, er, hE⟩ : ∃ es er, simR R t = (es, er) := ⟨_, _, rfl⟩
  have HS := Lib.hid (fun w1 (hb : Below w.heap.size w w1) => Sim_is (hR.ext hb) hE)
  obtain ⟨B, hB⟩ : ∃ B, heavyB R = B := ⟨_, rfl⟩
  rw [hB] at HH
  obtain ⟨fr, hfr⟩ : ∃ x, R.fr = x := ⟨_, rfl⟩
  obtain ⟨sl_, hsl⟩ : ∃ x, R.sl = x := ⟨_, rfl⟩
  have HR := Lib.hid hR
  cases B
  · rcases sim_bad hE with ⟨rfl, hok⟩ | ⟨rfl, rfl, hbad⟩
    · have HS2 := Lib.hid (fun w1 (sA : Option Addr) (sN sC : Nat) (hb : Below w.heap.size w w1) (hs : Rd w1 sA sN 2 ((sgR R es).sg.map enc2)) => Sim_is (H := { H with sA := sA, sN := sN, sC := sC }) (R := sgR R es) (w := w1) ⟨hR.t.ext hb, hR.e.ext hb, hR.b.ext hb, hs⟩ (sgR_sim hE))
      have HSG := Lib.hid hR.s
      have hsm := hR.s.small
      have e1 : (sgR R es).fr = R.fr := rfl
      have e2 : (sgR R es).sl = R.sl := rfl
      have e3 : (sgR R es).sg = R.sg.filter (hrd es) := rfl
      rw [e1, e2, e3, hfr, hsl] at HS2
      rw [hfr, hsl] at HH HS ⊢
      have HSL := Lib.hid hR.s.length
      have hE1 := EB
      obtain ⟨F, hF⟩ : ∃ F, R.sg.filter (hrd es) = F := ⟨_, rfl⟩
      rw [hF] at HS2
      have HF : Hid ([] ++ (R.sg.drop 0).filter (hrd es) = F) := Lib.hid (by simpa using hF)
      obtain ⟨tA, tN, tC, eA, eN, eC, bA, bN, bC, sA, sN, sC⟩ := H
      unfold runV at HH HS HS2 ⊢
      simp only [] at HH HS HS2 HSG HSL hsm ⊢
      have hsg40 : R.sg.length ≤ 40 := by have := (run_ok (Bool.and_eq_true_iff.1 hok).1).1.sl; omega
      rw [HSL.out] at hsg40
      clear hR hS hE hB hfr hsl HR hok hF e1 e2 e3
      go_enter Try.func5, Try.ntmps5
      go_wp2_with (first | (go_at_call 13; (with_reducible refine (HH.out _ (by (repeat' (first | (with_reducible exact Below.refl _ _) | (with_reducible assumption) | (with_reducible refine Below.alloc ?_ ?_ _) | (with_reducible refine Below.drew ?_) | (with_reducible refine Below.draws ?_ _) | (with_reducible refine Below.setCell ?_ ?_ _) | (refine Below.then ?_ (by with_reducible assumption)) | go_size)))).mono ?_); rintro e w1 ⟨rfl, hb1⟩; have B1 : Hid (Below w.heap.size w w1) := Lib.hid (Below.trans (by (repeat' (first | (with_reducible exact Below.refl _ _) | (with_reducible assumption) | (with_reducible refine Below.alloc ?_ ?_ _) | (with_reducible refine Below.drew ?_) | (with_reducible refine Below.draws ?_ _) | (with_reducible refine Below.setCell ?_ ?_ _) | (refine Below.then ?_ (by with_reducible assumption)) | go_size))) (hb1.mono (by simp))); have z1 : w.heap.size < w1.heap.size := Nat.lt_of_lt_of_le (by simp) hb1.size; have c0 := (hb1.cell (p := ⟨w.heap.size, 0, none⟩) (by simp)).trans (by simp [go_sem]; rfl); have c1 := (hb1.cell (p := ⟨w.heap.size, 1, none⟩) (by simp)).trans (by simp [go_sem]; rfl); have c2 := (hb1.cell (p := ⟨w.heap.size, 2, none⟩) (by simp)).trans (by simp [go_sem]; rfl); have c3 := (hb1.cell (p := ⟨w.heap.size, 3, none⟩) (by simp)).trans (by simp [go_sem]; rfl); have c4 := (hb1.cell (p := ⟨w.heap.size, 4, none⟩) (by simp)).trans (by simp [go_sem]; rfl); have c5 := (hb1.cell (p := ⟨w.heap.size, 5, none⟩) (by simp)).trans (by simp [go_sem]; rfl); clear hb1) | (go_at_call 15; (with_reducible refine (HS.out _ B1.out).mono ?_); rintro e w2 ⟨a2, n2, x2, rfl, h2, hb2⟩; have HO2 := Lib.hid h2; have B2 := Lib.hid (Below.then B1.out hb2); have z2 : w.heap.size < w2.heap.size := Nat.lt_of_lt_of_le z1 hb2.size; have d0 := (hb2.cell (p := ⟨w.heap.size, 0, none⟩) z1).trans c0; have d1 := (hb2.cell (p := ⟨w.heap.size, 1, none⟩) z1).trans c1; have d2 := (hb2.cell (p := ⟨w.heap.size, 2, none⟩) z1).trans c2; have d3 := (hb2.cell (p := ⟨w.heap.size, 3, none⟩) z1).trans c3; have d4 := (hb2.cell (p := ⟨w.heap.size, 4, none⟩) z1).trans c4; have d5 := (hb2.cell (p := ⟨w.heap.size, 5, none⟩) z1).trans c5; clear h2 hb2 c0 c1 c2 c3 c4 c5))
      have hn2 := (Rd.of_owns encE_len (by decide) HO2.out).length
      have hn2s := (Rd.of_owns encE_len (by decide) HO2.out).small
      have HN2 := Lib.hid hn2
      have HRE := Lib.hid (Rd.of_owns encE_len (by decide) HO2.out)
      have HSG2 := Lib.hid (HSG.out.ext B2.out)
      clear hn2 HH HS
      go_loopw [9, 10] (fun v i wr => ∃ (k : Nat) (T : List P2) (a' : Option Addr) (c' : Nat), k ≤ sN ∧ v = .slice a' T.length c' ∧ i = .int .i64 k ∧ T.length ≤ k ∧ wr.ownsRow w2.heap.size 44 2 (.slice a' T.length c') T.length (T.flatMap enc2) ∧ T ++ (R.sg.drop k).filter (hrd es) = F ∧ Below w2.heap.size w2 wr) (fun _ i _ => sN - (intOf i).toNat)
      case atStart => exact ⟨0, [], none, 0, Nat.zero_le _, rfl, rfl, Nat.le_refl _, World.ownsRow_nil _ _ _ _, HF.out, Below.refl _ _⟩
      case round =>
        clear HF
        obtain ⟨k, T, a', c', hk, rfl, rfl, hTk, ho, he, hB⟩ := hrel
        have HO := Lib.hid ho; have HE := Lib.hid he; have HB := Lib.hid hB
        have f5 := (hB.cell (p := ⟨w.heap.size, 5, none⟩) z2).trans d5
        have z3 := Nat.lt_of_lt_of_le z2 hB.size
        clear ho he hB
        by_cases hlt : k < sN
        · obtain ⟨x1, y1, b3, off3, rfl, hb3, g0, g1, hg, _⟩ := (HSG2.out.ext HB.out).pc_at' k hlt
          have hE' := HE.out
          rw [filter_step hg] at hE'
          have HE2 := Lib.hid hE'
          clear HE hE' hg
          go_wp2
          go_loopw [11, 12] (fun v i wx => ∃ j : Nat, j ≤ n2 ∧ v = .bool (hrd (es.take j) (x1, y1)) ∧ i = .int .i64 j ∧ Below wr.heap.size wr wx) (fun _ i _ => n2 - (intOf i).toNat)
          case atStart => exact ⟨0, Nat.zero_le _, rfl, rfl, Below.refl _ _⟩
          case round =>
            obtain ⟨j, hj, rfl, rfl, hB2⟩ := hrel
            have HB2 := Lib.hid hB2
            have i5 := (hB2.cell (p := ⟨w.heap.size, 5, none⟩) z3).trans f5
            have j0 := (hB2.cell (p := ⟨b3, off3 + k * 2, none⟩) hb3).trans g0
            have j1 := (hB2.cell (p := ⟨b3, off3 + k * 2 + 1, none⟩) hb3).trans g1
            have z4 := Nat.lt_of_lt_of_le z3 hB2.size
            clear hB2
            by_cases hjn : j < n2
            · obtain ⟨x, b1, o1, rfl, hb1, hx, q0, q1, q2, _, _⟩ := ((HRE.out.ext HB.out).ext HB2.out).en_at j hjn
              obtain ⟨m1, k1, w1', a1, c1⟩ := x
              simp only [] at q0 q1 q2
              obtain ⟨C, hC⟩ : ∃ C, hrd (es.take j) (x1, y1) = C := ⟨_, rfl⟩
              obtain ⟨D, hD⟩ : ∃ D, hrd (es.take (j + 1)) (x1, y1) = D := ⟨_, rfl⟩
              have hst := hrd_take (g := (x1, y1)) hx
              rw [hC, hD] at hst
              simp only [] at hst
              rw [hC]
              have HD := Lib.hid hD
              clear hC hD hx
              cases C
              · rw [Bool.false_or] at hst
                by_cases r1 : w1' = 2
                · subst r1
                  by_cases r2 : m1 = x1
                  · subst r2
                    by_cases r3 : k1 = y1
                    · subst r3
                      obtain rfl : D = true := by rw [hst]; simp
                      clear hst
                      go_wp2
                      go_region
                      all_goals (go_wp2_with fail; go_roundw; (case rel => exact ⟨j + 1, hjn, by rw [HD.out], by go_num, Below.then HB2.out (by (repeat' (first | (with_reducible exact Below.refl _ _) | (with_reducible assumption) | (with_reducible refine Below.alloc ?_ ?_ _) | (with_reducible refine Below.drew ?_) | (with_reducible refine Below.draws ?_ _) | (with_reducible refine Below.setCell ?_ ?_ _) | (refine Below.then ?_ (by with_reducible assumption)) | go_size)))⟩); (case measure => simp [intOf]; omega))
                    · have r3' : (k1 == y1) = false := by simpa using r3
                      obtain rfl : D = false := by rw [hst]; simp [r3]
                      clear hst
                      go_wp2
                      go_region
                      all_goals (go_wp2_with fail; go_roundw; (case rel => exact ⟨j + 1, hjn, by rw [HD.out], by go_num, Below.then HB2.out (by (repeat' (first | (with_reducible exact Below.refl _ _) | (with_reducible assumption) | (with_reducible refine Below.alloc ?_ ?_ _) | (with_reducible refine Below.drew ?_) | (with_reducible refine Below.draws ?_ _) | (with_reducible refine Below.setCell ?_ ?_ _) | (refine Below.then ?_ (by with_reducible assumption)) | go_size)))⟩); (case measure => simp [intOf]; omega))
                  · have r2' : (m1 == x1) = false := by simpa using r2
                    obtain rfl : D = false := by rw [hst]; simp [r2]
                    clear hst
                    go_wp2
                    go_region
                    all_goals (go_wp2_with fail; go_roundw; (case rel => exact ⟨j + 1, hjn, by rw [HD.out], by go_num, Below.then HB2.out (by (repeat' (first | (with_reducible exact Below.refl _ _) | (with_reducible assumption) | (with_reducible refine Below.alloc ?_ ?_ _) | (with_reducible refine Below.drew ?_) | (with_reducible refine Below.draws ?_ _) | (with_reducible refine Below.setCell ?_ ?_ _) | (refine Below.then ?_ (by with_reducible assumption)) | go_size)))⟩); (case measure => simp [intOf]; omega))
                · have r1' : (w1' == 2) = false := by simpa using r1
                  obtain rfl : D = false := by rw [hst]; simp [r1]
                  clear hst
                  go_wp2
                  go_region
                  all_goals (go_wp2_with fail; go_roundw; (case rel => exact ⟨j + 1, hjn, by rw [HD.out], by go_num, Below.then HB2.out (by (repeat' (first | (with_reducible exact Below.refl _ _) | (with_reducible assumption) | (with_reducible refine Below.alloc ?_ ?_ _) | (with_reducible refine Below.drew ?_) | (with_reducible refine Below.draws ?_ _) | (with_reducible refine Below.setCell ?_ ?_ _) | (refine Below.then ?_ (by with_reducible assumption)) | go_size)))⟩); (case measure => simp [intOf]; omega))
              · obtain rfl : D = true := by rw [hst]; rfl
                clear hst
                go_wp2
                go_region
                all_goals (go_wp2_with fail; go_roundw; (case rel => exact ⟨j + 1, hjn, by rw [HD.out], by go_num, Below.then HB2.out (by (repeat' (first | (with_reducible exact Below.refl _ _) | (with_reducible assumption) | (with_reducible refine Below.alloc ?_ ?_ _) | (with_reducible refine Below.drew ?_) | (with_reducible refine Below.draws ?_ _) | (with_reducible refine Below.setCell ?_ ?_ _) | (refine Below.then ?_ (by with_reducible assumption)) | go_size)))⟩); (case measure => simp [intOf]; omega))
            · have hj2 : es.take j = es := List.take_of_length_le (by rw [HN2.out]; omega)
              rw [hj2]
              obtain ⟨C, hC⟩ : ∃ C, hrd es (x1, y1) = C := ⟨_, rfl⟩
              rw [hC]
              have hE3 := HE2.out
              rw [hC] at hE3
              clear hC HE2 hj2
              have HB3 := Lib.hid (Below.then HB.out HB2.out)
              cases C
              · have HE3 : Hid (T ++ (R.sg.drop (k + 1)).filter (hrd es) = F) := Lib.hid (by simpa using hE3)
                clear hE3
                go_wp2
                go_roundw
                case rel => exact ⟨k + 1, T, a', c', hlt, rfl, by go_num, by omega, owns_ext HO.out HB2.out, HE3.out, HB3.out⟩
                case measure => simp [intOf]; omega
              · have HE3 : Hid ((T ++ [(x1, y1)]) ++ (R.sg.drop (k + 1)).filter (hrd es) = F) := Lib.hid (by simpa using hE3)
                have HO3 := Lib.hid (owns_ext HO.out HB2.out)
                have z5 := HB3.out.size
                clear hE3
                go_wp2_with (at_builtin; (refine wpList_push (B := w2.heap.size) rfl _ _ _ rfl hE1 rfl HO3.out rfl rfl (by intro u hu; simp at hu; rcases hu with rfl | rfl <;> rfl) (by omega) (by decide) z5 ?_); intro a6 c6 w6 hown6 hb6; have HO6 := Lib.hid (ownsP_snoc hown6); have B6 := Lib.hid hb6; clear hown6 hb6)
                go_roundw
                case rel => exact ⟨k + 1, T ++ [(x1, y1)], a6, c6, hlt, by rw [List.length_append]; rfl, by go_num, by rw [List.length_append]; simp; omega, by rw [List.length_append]; exact HO6.out, HE3.out, HB3.out.trans B6.out⟩
                case measure => simp [intOf]; omega
        · obtain rfl : T = F := by
            have := HE.out
            rw [List.drop_of_length_le (by rw [HSL.out]; omega)] at this
            simpa using this
          have HT := Lib.hid (Rd.of_owns enc2_len (by decide) HO.out)
          have f0 := (HB.out.cell (p := ⟨w.heap.size, 0, none⟩) z2).trans d0
          have f1 := (HB.out.cell (p := ⟨w.heap.size, 1, none⟩) z2).trans d1
          have f2 := (HB.out.cell (p := ⟨w.heap.size, 2, none⟩) z2).trans d2
          have f3 := (HB.out.cell (p := ⟨w.heap.size, 3, none⟩) z2).trans d3
          have f4 := (HB.out.cell (p := ⟨w.heap.size, 4, none⟩) z2).trans d4
          have HB3 := Lib.hid (Below.then B2.out HB.out)
          have HRE2 := Lib.hid (HRE.out.ext HB.out)
          have HS3 := Lib.hid (fun w1 (hb : Below w.heap.size w w1) (hs : Rd w1 a' T.length 2 (T.map enc2)) => HS2.out w1 a' T.length c' hb hs)
          clear HE HS2 HSG HSG2
          go_wp2_with (first
            | (go_at_call 15; (with_reducible refine (HS3.out _ (HB3.out.trans (by (repeat' (first | (with_reducible exact Below.refl _ _) | (with_reducible assumption) | (with_reducible refine Below.alloc ?_ ?_ _) | (with_reducible refine Below.drew ?_) | (with_reducible refine Below.draws ?_ _) | (with_reducible refine Below.setCell ?_ ?_ _) | (refine Below.then ?_ (by with_reducible assumption)) | go_size)))) (HT.out.ext (by (repeat' (first | (with_reducible exact Below.refl _ _) | (with_reducible assumption) | (with_reducible refine Below.alloc ?_ ?_ _) | (with_reducible refine Below.drew ?_) | (with_reducible refine Below.draws ?_ _) | (with_reducible refine Below.setCell ?_ ?_ _) | (refine Below.then ?_ (by with_reducible assumption)) | go_size))))).mono ?_); rintro e w4 ⟨a4, n4, x4, rfl, h4, hb4⟩; have HO4 := Lib.hid h4; have B4 : Hid (Below wr.heap.size wr w4) := Lib.hid (Below.trans (by (repeat' (first | (with_reducible exact Below.refl _ _) | (with_reducible assumption) | (with_reducible refine Below.alloc ?_ ?_ _) | (with_reducible refine Below.drew ?_) | (with_reducible refine Below.draws ?_ _) | (with_reducible refine Below.setCell ?_ ?_ _) | (refine Below.then ?_ (by with_reducible assumption)) | go_size))) (hb4.mono (by simp))); clear h4 hb4)
            | (go_at_call 18; (with_reducible refine (entries_eq _ _ _ _ _ _ es _ (HRE2.out.ext B4.out) (Rd.of_owns encE_len (by decide) HO4.out)).mono ?_); rintro e w5 ⟨rfl, hb5⟩; have B5 := Lib.hid (Below.then B4.out hb5); clear hb5)
            | (go_at_call 14; (with_reducible refine (sane_any _).mono ?_); rintro e w9 ⟨rfl, hb9⟩))
          go_ret
          exact ⟨rfl, Below.then (HB3.out.trans (B5.out.mono HB3.out.size)) hb9⟩
    · have HAS := Lib.hid (as_any H R.fr R.sl)
      have HRS := Lib.hid (fun w1 (hb : Below w.heap.size w w1) => rSim_bad H R t w1 (hR.ext hb) hbad)
      rw [hfr, hsl] at HH HS HAS HRS ⊢
      obtain ⟨tA, tN, tC, eA, eN, eC, bA, bN, bC, sA, sN, sC⟩ := H
      unfold runV at HH HS HAS HRS ⊢
      simp only [] at HH HS HAS HRS ⊢
      clear hR hS hE hB hfr hsl HR
      go_enter Try.func5, Try.ntmps5
      go_wp2_with (first
        | (go_at_call 13; (with_reducible refine (HH.out _ (by (repeat' (first | (with_reducible exact Below.refl _ _) | (with_reducible assumption) | (with_reducible refine Below.alloc ?_ ?_ _) | (with_reducible refine Below.drew ?_) | (with_reducible refine Below.draws ?_ _) | (with_reducible refine Below.setCell ?_ ?_ _) | (refine Below.then ?_ (by with_reducible assumption)) | go_size)))).mono ?_); rintro e w1 ⟨rfl, hb1⟩; have B1 : Hid (Below w.heap.size w w1) := Lib.hid (Below.trans (by (repeat' (first | (with_reducible exact Below.refl _ _) | (with_reducible assumption) | (with_reducible refine Below.alloc ?_ ?_ _) | (with_reducible refine Below.drew ?_) | (with_reducible refine Below.draws ?_ _) | (with_reducible refine Below.setCell ?_ ?_ _) | (refine Below.then ?_ (by with_reducible assumption)) | go_size))) (hb1.mono (by simp))); have z1 : w.heap.size < w1.heap.size := Nat.lt_of_lt_of_le (by simp) hb1.size; have c0 := (hb1.cell (p := ⟨w.heap.size, 0, none⟩) (by simp)).trans (by simp [go_sem]; rfl); have c1 := (hb1.cell (p := ⟨w.heap.size, 1, none⟩) (by simp)).trans (by simp [go_sem]; rfl); have c2 := (hb1.cell (p := ⟨w.heap.size, 2, none⟩) (by simp)).trans (by simp [go_sem]; rfl); have c3 := (hb1.cell (p := ⟨w.heap.size, 3, none⟩) (by simp)).trans (by simp [go_sem]; rfl); have c4 := (hb1.cell (p := ⟨w.heap.size, 4, none⟩) (by simp)).trans (by simp [go_sem]; rfl); have c5 := (hb1.cell (p := ⟨w.heap.size, 5, none⟩) (by simp)).trans (by simp [go_sem]; rfl); clear hb1)
        | (go_at_call 15; (with_reducible refine (HS.out _ B1.out).mono ?_); rintro e w2 ⟨a2, n2, x2, rfl, h2, hb2⟩; have HO2 := Lib.hid h2; have B2 := Lib.hid (Below.then B1.out hb2); have z2 : w.heap.size < w2.heap.size := Nat.lt_of_lt_of_le z1 hb2.size; have d0 := (hb2.cell (p := ⟨w.heap.size, 0, none⟩) z1).trans c0; have d1 := (hb2.cell (p := ⟨w.heap.size, 1, none⟩) z1).trans c1; have d2 := (hb2.cell (p := ⟨w.heap.size, 2, none⟩) z1).trans c2; have d3 := (hb2.cell (p := ⟨w.heap.size, 3, none⟩) z1).trans c3; have d4 := (hb2.cell (p := ⟨w.heap.size, 4, none⟩) z1).trans c4; have d5 := (hb2.cell (p := ⟨w.heap.size, 5, none⟩) z1).trans c5; clear h2 hb2 c0 c1 c2 c3 c4 c5)
        | (go_at_call 17; (with_reducible refine (HAS.out _).mono ?_); rintro e w3 ⟨rfl, hb3⟩; have B3 := Lib.hid (Below.then B2.out hb3); clear hb3)
        | (go_at_call 16; (with_reducible refine (HRS.out _ B3.out).mono ?_); rintro e w4 ⟨rfl, hb4⟩; have B4 := Lib.hid (Below.then B3.out hb4); clear hb4)
        | (go_at_call 14; (with_reducible refine (sane_any _).mono ?_); rintro e w9 ⟨rfl, hb9⟩))
      go_ret
      exact ⟨rfl, Below.then B4.out hb9⟩
  · rw [hfr, hsl] at HH ⊢
    obtain ⟨tA, tN, tC, eA, eN, eC, bA, bN, bC, sA, sN, sC⟩ := H
    unfold runV at HH ⊢
    simp only [] at HH ⊢
    clear hR hS hE hB HS HR hfr hsl
    go_enter Try.func5, Try.ntmps5
    go_wp2_with (first | (go_at_call 13; (with_reducible refine (HH.out _ (by (repeat' (first | (with_reducible exact Below.refl _ _) | (with_reducible assumption) | (with_reducible refine Below.alloc ?_ ?_ _) | (with_reducible refine Below.drew ?_) | (with_reducible refine Below.draws ?_ _) | (with_reducible refine Below.setCell ?_ ?_ _) | (refine Below.then ?_ (by with_reducible assumption)) | go_size)))).mono ?_); rintro e w1 ⟨rfl, hb1⟩; have B1 : Hid (Below w.heap.size w w1) := Lib.hid (Below.trans (by (repeat' (first | (with_reducible exact Below.refl _ _) | (with_reducible assumption) | (with_reducible refine Below.alloc ?_ ?_ _) | (with_reducible refine Below.drew ?_) | (with_reducible refine Below.draws ?_ _) | (with_reducible refine Below.setCell ?_ ?_ _) | (refine Below.then ?_ (by with_reducible assumption)) | go_size))) (hb1.mono (by simp))); have z1 : w.heap.size < w1.heap.size := Nat.lt_of_lt_of_le (by simp) hb1.size; have c0 := (hb1.cell (p := ⟨w.heap.size, 0, none⟩) (by simp)).trans (by simp [go_sem]; rfl); have c1 := (hb1.cell (p := ⟨w.heap.size, 1, none⟩) (by simp)).trans (by simp [go_sem]; rfl); have c2 := (hb1.cell (p := ⟨w.heap.size, 2, none⟩) (by simp)).trans (by simp [go_sem]; rfl); have c3 := (hb1.cell (p := ⟨w.heap.size, 3, none⟩) (by simp)).trans (by simp [go_sem]; rfl); have c4 := (hb1.cell (p := ⟨w.heap.size, 4, none⟩) (by simp)).trans (by simp [go_sem]; rfl); have c5 := (hb1.cell (p := ⟨w.heap.size, 5, none⟩) (by simp)).trans (by simp [go_sem]; rfl); clear hb1) | (go_at_call 14; (with_reducible refine (sane_any _).mono ?_); rintro e w9 ⟨rfl, hb9⟩))
    go_ret
    exact ⟨rfl, Below.then B1.out hb9⟩
end Go.Proofs.Ytlhnhmimhpcoaaa
