/- The contracts of Valid, is and Simulate of the program. The conditions: the run reads as named. From what a row says of a run to what the walks use. No condition: plain lemmas. Entries only grow; signals that nobody hears. No condition: plain lemmas. What holds along a run: one way of showing it. No condition: plain lemmas. The reference's run under way, in memory. The conditions: the run reads as named. -/
import Derived.Test.YtlhnhmimhpcoaaaGreatMg6
import Derived.Test.YtlhnhmimhpcoaaaGreatMg8
import Derived.Test.YtlhnhmimhpcoaaaGreatMg2
import Derived.Test.YtlhnhmimhpcoaaaGreatMg7
namespace Go.Proofs.YtlhnhmimhpcoaaaGreat
open Go.RowKit
set_option linter.unusedSimpArgs false
set_option linter.unusedVariables false
/-- a run that is valid -/
def runB (R : Rn) : Bool := validL R.L && (supB R.fr R.sl && (decide (R.ev.length = R.L.length) && (decide (R.bu.length = R.L.length) && (decide (R.sg.length ≤ 40) && (R.ev.all evB && (R.bu.all (fun b => inB b 0 1000) && R.sg.all (sgB R.L.length)))))))
structure ReadRun (w : World) (H : RunH) (R : Rn) : Prop where
  t : RdL w H.tA H.tN R.L
  e : EvL w H.eA H.eN R.ev
  b : Rd w H.bA H.bN 1 (R.bu.map enc1)
  s : Rd w H.sA H.sN 2 (R.sg.map enc2)
theorem ReadRun.ext {w w' : World} {H : RunH} {R : Rn} (h : ReadRun w H R) (hb : Below w.heap.size w w') : ReadRun w' H R := ⟨h.t.ext hb, h.e.ext hb, h.b.ext hb, h.s.ext hb⟩
theorem EvL.evs {w : World} {a : Option Addr} {n : Nat} {evs : List (List P2)} (h : EvL w a n evs) : Evs w a n evs := by
  obtain ⟨g, h1, h2, rfl⟩ := h
  have hl : g.length = n := by simpa using h1.length
  refine ⟨by simpa using hl, h1.small, fun k hk => ?_⟩
  obtain ⟨v, b, off, e, hb, hc, _, hg, _⟩ := h1.nextK k hk
  have c0 := hc 0 (by omega)
  simp [encV] at c0
  refine ⟨b, off, v.a, v.n, v.c, e, hb, c0, ?_⟩
  have : evAt (g.map EvV.es) k = v.es := by unfold evAt; rw [List.getElem?_map, hg]; rfl
  rw [this]
  exact h2 v (List.mem_of_getElem? hg)
theorem ReadRun.rd {w : World} {H : RunH} {R : Rn} (h : ReadRun w H R) : RdRun w H R := ⟨h.t, h.e.evs, h.b, h.s⟩
theorem okFrom_mem : ∀ (l : List P2) (p : Option Int), okFrom p l = true → ∀ e ∈ l, (0 ≤ e.1 ∧ e.1 ≤ 1000000) ∧ (0 ≤ e.2 ∧ e.2 ≤ 1000000)
  | [], _, _, e, he => by simp at he
  | x :: l, p, h, e, he => by
    rw [okFrom] at h
    simp only [Bool.and_eq_true, inB_iff] at h
    rcases List.mem_cons.1 he with rfl | he
    · exact ⟨h.1.1.1, h.1.1.2⟩
    · exact okFrom_mem l _ h.2 e he
theorem run_ok {R : Rn} (h : runB R = true) : RnOk R ∧ validL R.L = true ∧ supB R.fr R.sl = true ∧ (∀ l ∈ R.ev, evB l = true) := by
  unfold runB at h
  simp only [Bool.and_eq_true, decide_eq_true_eq, List.all_eq_true] at h
  obtain ⟨h1, h2, h3, h4, h5, h6, h7, h8⟩ := h
  refine ⟨⟨(valid_of h1).r, (supB_iff.1 h2).1.1, h3, h4, fun l hl => ?_, h5, fun g hg => ?_, fun b hb => inB_iff.1 (h7 b hb)⟩, h1, h2, h6⟩
  · have := h6 l hl
    unfold evB at this
    rw [Bool.and_eq_true, decide_eq_true_eq] at this
    exact ⟨this.2, okFrom_mem l _ this.1⟩
  · have := h8 g hg
    unfold sgB at this
    rw [Bool.and_eq_true, inB_iff, inB_iff] at this
    omega
abbrev runV (H : RunH) (fr sl_ : Int) : Value := .agg #[.slice H.tA H.tN H.tC, .int .i64 fr, .int .i64 sl_, .slice H.eA H.eN H.eC, .slice H.bA H.bN H.bC, .slice H.sA H.sN H.sC]
set_option maxRecDepth 10000 in
set_option maxHeartbeats 4000000 in
theorem Valid_run (H : RunH) (R : Rn) (w : World) (hR : ReadRun w H R) : Calls Tryz.prog 24 #[runV H R.fr R.sl] w fun e w' => e = .returned (.bool (runB R)) ∧ Below w.heap.size w w' := by
  have h1 := hR.t.length
  have h2 := hR.e.evs.len
  have h3 := hR.b.length
  have h4 := hR.s.length
  have s1 := hR.t.small; have s2 := hR.e.evs.sm; have s3 := hR.b.small; have s4 := hR.s.small
  have HR := Lib.hid hR
  obtain ⟨B, hB⟩ : ∃ B, runB R = B := ⟨_, rfl⟩
  rw [hB]
  unfold runB at hB
  rw [h1, h2, h3, h4] at hB
  obtain ⟨V1, e1⟩ : ∃ x, validL R.L = x := ⟨_, rfl⟩
  obtain ⟨V2, e2⟩ : ∃ x, supB R.fr R.sl = x := ⟨_, rfl⟩
  obtain ⟨V6, e6⟩ : ∃ x, R.ev.all evB = x := ⟨_, rfl⟩
  obtain ⟨V7, e7⟩ : ∃ x, R.bu.all (fun b => inB b 0 1000) = x := ⟨_, rfl⟩
  obtain ⟨V8, e8⟩ : ∃ x, R.sg.all (sgB H.tN) = x := ⟨_, rfl⟩
  rw [e1, e2, e6, e7, e8] at hB
  have E1' := Lib.hid e1; have E2' := Lib.hid e2; have E6 := Lib.hid e6; have E7 := Lib.hid e7; have E8 := Lib.hid e8
  obtain ⟨fr, hfr⟩ : ∃ x, R.fr = x := ⟨_, rfl⟩
  obtain ⟨sl_, hsl⟩ : ∃ x, R.sl = x := ⟨_, rfl⟩
  rw [hfr, hsl]
  rw [hfr, hsl] at E2'
  have HC6 : Hid (∀ w1 : World, Below w.heap.size w w1 → Calls Tryz.prog 60 #[.slice H.eA H.eN H.eC, .func (.func 61) #[] #[]] w1 fun e w' => e = .returned (.bool (!V6)) ∧ Below w1.heap.size w1 w') := Lib.hid (fun w1 hb => by
    obtain ⟨g, hg1, hg2, hg3⟩ := (HR.out.ext hb).e
    have := ev_con 61 #[] (fun v => !evB v.es) H.eA H.eN H.eC g w1 hg1 ⟨fun args w => by kernel_rfl, fun x hx w' hb' => v3_any x w' ((hg2 x hx).ext hb')⟩
    rw [any_not (fun v : EvV => evB v.es)] at this
    have e : g.all (fun v => evB v.es) = V6 := by rw [← E6.out, ← hg3, List.all_map]; rfl
    rw [e] at this
    exact this)
  have HC7 : Hid (∀ w1 : World, Below w.heap.size w w1 → Calls Tryz.prog 63 #[.slice H.bA H.bN H.bC, .func (.func 58) #[] #[]] w1 fun e w' => e = .returned (.bool (!V7)) ∧ Below w1.heap.size w1 w') := Lib.hid (fun w1 hb => by
    have := bi_con 58 #[] (fun x => !inB x 0 1000) H.bA H.bN H.bC R.bu w1 (HR.out.ext hb).b ⟨fun args w => by kernel_rfl, fun x hx w' hb' => v1_any x w'⟩
    rw [any_not (fun x : Int => inB x 0 1000), E7.out] at this
    exact this)
  have HC8 : H.tN ≤ 1000 → Hid (∀ w1 : World, Below w.heap.size w w1 → ∀ q, q < w1.heap.size → w1.cell? ⟨q, 0, none⟩ = some (.int .i64 (H.tN : Int)) → Calls Tryz.prog 64 #[.slice H.sA H.sN H.sC, .func (.func 59) #[] #[.pointer (some ⟨q, 0, none⟩)]] w1 fun e w' => e = .returned (.bool (!V8)) ∧ Below w1.heap.size w1 w') := fun hn => Lib.hid (fun w1 hb q hq hc => by
    have := sgp_con 59 #[.pointer (some ⟨q, 0, none⟩)] (fun g => !sgB H.tN g) H.sA H.sN H.sC R.sg w1 (HR.out.ext hb).s ⟨fun args w => by kernel_rfl, fun x hx w' hb' => v2_any x q H.tN hn w' (Nat.lt_of_lt_of_le hq hb'.size) ((hb'.cell (p := ⟨q, 0, none⟩) hq).trans hc)⟩
    rw [any_not (fun g : P2 => sgB H.tN g), E8.out] at this
    exact this)
  have HT := Lib.hid hR.t
  obtain ⟨tA, tN, tC, eA, eN, eC, bA, bN, bC, sA, sN, sC⟩ := H
  simp only [] at h1 h2 h3 h4 s1 s2 s3 s4 hB HC6 HC7 HC8 HT
  unfold runV
  simp only []
  have HH1 := Lib.hid h1
  clear hR HR e1 e2 e6 e7 e8 E6 E7 E8 hfr hsl h1 h2 h3 h4
  have HV := Lib.hid E1'
  cases V1
  · obtain rfl : B = false := by simpa using hB.symm
    clear hB HV HC6 HC7 HC8
    go_enter Tryz.func24, Tryz.ntmps24
    go_wp2_with (go_at_call 33; (with_reducible refine (valid_is (HT.out.ext (by (repeat' (first | (with_reducible exact Below.refl _ _) | (with_reducible assumption) | (with_reducible refine Below.alloc ?_ ?_ _) | (with_reducible refine Below.drew ?_) | (with_reducible refine Below.draws ?_ _) | (with_reducible refine Below.setCell ?_ ?_ _) | (refine Below.then ?_ (by with_reducible assumption)) | go_size)))) E1'.out).mono ?_); rintro e w2 ⟨rfl, hb2⟩)
    go_ret
    exact ⟨rfl, Below.trans (by (repeat' (first | (with_reducible exact Below.refl _ _) | (with_reducible assumption) | (with_reducible refine Below.alloc ?_ ?_ _) | (with_reducible refine Below.drew ?_) | (with_reducible refine Below.draws ?_ _) | (with_reducible refine Below.setCell ?_ ?_ _) | (refine Below.then ?_ (by with_reducible assumption)) | go_size))) (hb2.mono (by simp; omega))⟩
  · cases V2
    · obtain rfl : B = false := by simpa using hB.symm
      clear hB HV HC6 HC7 HC8
      go_enter Tryz.func24, Tryz.ntmps24
      go_wp2_with (first
        | (go_at_call 33; (with_reducible refine (valid_is (HT.out.ext (by (repeat' (first | (with_reducible exact Below.refl _ _) | (with_reducible assumption) | (with_reducible refine Below.alloc ?_ ?_ _) | (with_reducible refine Below.drew ?_) | (with_reducible refine Below.draws ?_ _) | (with_reducible refine Below.setCell ?_ ?_ _) | (refine Below.then ?_ (by with_reducible assumption)) | go_size)))) E1'.out).mono ?_); rintro e w2 ⟨rfl, hb2⟩; have B2 : Hid (Below w.heap.size w w2) := Lib.hid (Below.trans (by (repeat' (first | (with_reducible exact Below.refl _ _) | (with_reducible assumption) | (with_reducible refine Below.alloc ?_ ?_ _) | (with_reducible refine Below.drew ?_) | (with_reducible refine Below.draws ?_ _) | (with_reducible refine Below.setCell ?_ ?_ _) | (refine Below.then ?_ (by with_reducible assumption)) | go_size))) (hb2.mono (by simp; omega))); have z2 : w.heap.size + 1 < w2.heap.size := Nat.lt_of_lt_of_le (by simp) hb2.size; have c0 := (hb2.cell (p := ⟨w.heap.size, 0, none⟩) (by simp; omega)).trans (by simp [go_sem]; rfl); have c1 := (hb2.cell (p := ⟨w.heap.size, 1, none⟩) (by simp; omega)).trans (by simp [go_sem]; rfl); have c2 := (hb2.cell (p := ⟨w.heap.size, 2, none⟩) (by simp; omega)).trans (by simp [go_sem]; rfl); have c3 := (hb2.cell (p := ⟨w.heap.size, 3, none⟩) (by simp; omega)).trans (by simp [go_sem]; rfl); have c4 := (hb2.cell (p := ⟨w.heap.size, 4, none⟩) (by simp; omega)).trans (by simp [go_sem]; rfl); have c5 := (hb2.cell (p := ⟨w.heap.size, 5, none⟩) (by simp; omega)).trans (by simp [go_sem]; rfl); have cn := (hb2.cell (p := ⟨w.heap.size + 1, 0, none⟩) (by simp)).trans (by simp [go_sem]; rfl); clear hb2)
        | (go_at_call 57; (with_reducible refine (supV_is E2'.out).mono ?_); rintro e w3 ⟨rfl, hb3⟩; have B3 := Lib.hid (Below.then B2.out hb3); have z3 : w.heap.size + 1 < w3.heap.size := Nat.lt_of_lt_of_le z2 hb3.size; have d0 := (hb3.cell (p := ⟨w.heap.size, 0, none⟩) (by simp only []; omega)).trans c0; have d1 := (hb3.cell (p := ⟨w.heap.size, 1, none⟩) (by simp only []; omega)).trans c1; have d2 := (hb3.cell (p := ⟨w.heap.size, 2, none⟩) (by simp only []; omega)).trans c2; have d3 := (hb3.cell (p := ⟨w.heap.size, 3, none⟩) (by simp only []; omega)).trans c3; have d4 := (hb3.cell (p := ⟨w.heap.size, 4, none⟩) (by simp only []; omega)).trans c4; have d5 := (hb3.cell (p := ⟨w.heap.size, 5, none⟩) (by simp only []; omega)).trans c5; have dn := (hb3.cell (p := ⟨w.heap.size + 1, 0, none⟩) z2).trans cn; clear hb3))
      go_ret
      exact ⟨rfl, B3.out⟩
    · have hn5 : tN ≤ 5 := by rw [← HH1.out]; exact (valid_of E1'.out).r.len
      have HC8' := HC8 (by omega)
      clear HV HC8
      by_cases q3 : eN = tN
      · by_cases q4 : bN = tN
        · by_cases q5 : sN ≤ 40
          · rw [decide_eq_true q3, decide_eq_true q4, decide_eq_true q5] at hB
            have q3' : ((eN : Int) != (tN : Int)) = false := by simp; omega
            have q4' : ((bN : Int) != (tN : Int)) = false := by simp; omega
            have q5' : decide ((40 : Int) < (sN : Int)) = false := by simp; omega
            have hB' : (V6 && (V7 && V8)) = B := by simpa using hB
            clear hB q3 q4
            cases V6
            · obtain rfl : B = false := by simpa using hB'.symm
              clear hB'
              go_enter Tryz.func24, Tryz.ntmps24
              go_wp2_with (first
                | (go_at_call 33; (with_reducible refine (valid_is (HT.out.ext (by (repeat' (first | (with_reducible exact Below.refl _ _) | (with_reducible assumption) | (with_reducible refine Below.alloc ?_ ?_ _) | (with_reducible refine Below.drew ?_) | (with_reducible refine Below.draws ?_ _) | (with_reducible refine Below.setCell ?_ ?_ _) | (refine Below.then ?_ (by with_reducible assumption)) | go_size)))) E1'.out).mono ?_); rintro e w2 ⟨rfl, hb2⟩; have B2 : Hid (Below w.heap.size w w2) := Lib.hid (Below.trans (by (repeat' (first | (with_reducible exact Below.refl _ _) | (with_reducible assumption) | (with_reducible refine Below.alloc ?_ ?_ _) | (with_reducible refine Below.drew ?_) | (with_reducible refine Below.draws ?_ _) | (with_reducible refine Below.setCell ?_ ?_ _) | (refine Below.then ?_ (by with_reducible assumption)) | go_size))) (hb2.mono (by simp; omega))); have z2 : w.heap.size + 1 < w2.heap.size := Nat.lt_of_lt_of_le (by simp) hb2.size; have c0 := (hb2.cell (p := ⟨w.heap.size, 0, none⟩) (by simp; omega)).trans (by simp [go_sem]; rfl); have c1 := (hb2.cell (p := ⟨w.heap.size, 1, none⟩) (by simp; omega)).trans (by simp [go_sem]; rfl); have c2 := (hb2.cell (p := ⟨w.heap.size, 2, none⟩) (by simp; omega)).trans (by simp [go_sem]; rfl); have c3 := (hb2.cell (p := ⟨w.heap.size, 3, none⟩) (by simp; omega)).trans (by simp [go_sem]; rfl); have c4 := (hb2.cell (p := ⟨w.heap.size, 4, none⟩) (by simp; omega)).trans (by simp [go_sem]; rfl); have c5 := (hb2.cell (p := ⟨w.heap.size, 5, none⟩) (by simp; omega)).trans (by simp [go_sem]; rfl); have cn := (hb2.cell (p := ⟨w.heap.size + 1, 0, none⟩) (by simp)).trans (by simp [go_sem]; rfl); clear hb2)
                | (go_at_call 57; (with_reducible refine (supV_is E2'.out).mono ?_); rintro e w3 ⟨rfl, hb3⟩; have B3 := Lib.hid (Below.then B2.out hb3); have z3 : w.heap.size + 1 < w3.heap.size := Nat.lt_of_lt_of_le z2 hb3.size; have d0 := (hb3.cell (p := ⟨w.heap.size, 0, none⟩) (by simp only []; omega)).trans c0; have d1 := (hb3.cell (p := ⟨w.heap.size, 1, none⟩) (by simp only []; omega)).trans c1; have d2 := (hb3.cell (p := ⟨w.heap.size, 2, none⟩) (by simp only []; omega)).trans c2; have d3 := (hb3.cell (p := ⟨w.heap.size, 3, none⟩) (by simp only []; omega)).trans c3; have d4 := (hb3.cell (p := ⟨w.heap.size, 4, none⟩) (by simp only []; omega)).trans c4; have d5 := (hb3.cell (p := ⟨w.heap.size, 5, none⟩) (by simp only []; omega)).trans c5; have dn := (hb3.cell (p := ⟨w.heap.size + 1, 0, none⟩) z2).trans cn; clear hb3)
                | (go_at_call 60; (with_reducible refine (HC6.out _ B3.out).mono ?_); rintro e w4 ⟨rfl, hb4⟩; have B4 := Lib.hid (Below.then B3.out hb4); have z4 : w.heap.size + 1 < w4.heap.size := Nat.lt_of_lt_of_le z3 hb4.size; have f0 := (hb4.cell (p := ⟨w.heap.size, 0, none⟩) (by simp only []; omega)).trans d0; have f1 := (hb4.cell (p := ⟨w.heap.size, 1, none⟩) (by simp only []; omega)).trans d1; have f2 := (hb4.cell (p := ⟨w.heap.size, 2, none⟩) (by simp only []; omega)).trans d2; have f3 := (hb4.cell (p := ⟨w.heap.size, 3, none⟩) (by simp only []; omega)).trans d3; have f4 := (hb4.cell (p := ⟨w.heap.size, 4, none⟩) (by simp only []; omega)).trans d4; have f5 := (hb4.cell (p := ⟨w.heap.size, 5, none⟩) (by simp only []; omega)).trans d5; have fn := (hb4.cell (p := ⟨w.heap.size + 1, 0, none⟩) z3).trans dn; clear hb4))
              go_ret
              exact ⟨rfl, B4.out⟩
            · cases V7
              · obtain rfl : B = false := by simpa using hB'.symm
                clear hB'
                go_enter Tryz.func24, Tryz.ntmps24
                go_wp2_with (first
                  | (go_at_call 33; (with_reducible refine (valid_is (HT.out.ext (by (repeat' (first | (with_reducible exact Below.refl _ _) | (with_reducible assumption) | (with_reducible refine Below.alloc ?_ ?_ _) | (with_reducible refine Below.drew ?_) | (with_reducible refine Below.draws ?_ _) | (with_reducible refine Below.setCell ?_ ?_ _) | (refine Below.then ?_ (by with_reducible assumption)) | go_size)))) E1'.out).mono ?_); rintro e w2 ⟨rfl, hb2⟩; have B2 : Hid (Below w.heap.size w w2) := Lib.hid (Below.trans (by (repeat' (first | (with_reducible exact Below.refl _ _) | (with_reducible assumption) | (with_reducible refine Below.alloc ?_ ?_ _) | (with_reducible refine Below.drew ?_) | (with_reducible refine Below.draws ?_ _) | (with_reducible refine Below.setCell ?_ ?_ _) | (refine Below.then ?_ (by with_reducible assumption)) | go_size))) (hb2.mono (by simp; omega))); have z2 : w.heap.size + 1 < w2.heap.size := Nat.lt_of_lt_of_le (by simp) hb2.size; have c0 := (hb2.cell (p := ⟨w.heap.size, 0, none⟩) (by simp; omega)).trans (by simp [go_sem]; rfl); have c1 := (hb2.cell (p := ⟨w.heap.size, 1, none⟩) (by simp; omega)).trans (by simp [go_sem]; rfl); have c2 := (hb2.cell (p := ⟨w.heap.size, 2, none⟩) (by simp; omega)).trans (by simp [go_sem]; rfl); have c3 := (hb2.cell (p := ⟨w.heap.size, 3, none⟩) (by simp; omega)).trans (by simp [go_sem]; rfl); have c4 := (hb2.cell (p := ⟨w.heap.size, 4, none⟩) (by simp; omega)).trans (by simp [go_sem]; rfl); have c5 := (hb2.cell (p := ⟨w.heap.size, 5, none⟩) (by simp; omega)).trans (by simp [go_sem]; rfl); have cn := (hb2.cell (p := ⟨w.heap.size + 1, 0, none⟩) (by simp)).trans (by simp [go_sem]; rfl); clear hb2)
                  | (go_at_call 57; (with_reducible refine (supV_is E2'.out).mono ?_); rintro e w3 ⟨rfl, hb3⟩; have B3 := Lib.hid (Below.then B2.out hb3); have z3 : w.heap.size + 1 < w3.heap.size := Nat.lt_of_lt_of_le z2 hb3.size; have d0 := (hb3.cell (p := ⟨w.heap.size, 0, none⟩) (by simp only []; omega)).trans c0; have d1 := (hb3.cell (p := ⟨w.heap.size, 1, none⟩) (by simp only []; omega)).trans c1; have d2 := (hb3.cell (p := ⟨w.heap.size, 2, none⟩) (by simp only []; omega)).trans c2; have d3 := (hb3.cell (p := ⟨w.heap.size, 3, none⟩) (by simp only []; omega)).trans c3; have d4 := (hb3.cell (p := ⟨w.heap.size, 4, none⟩) (by simp only []; omega)).trans c4; have d5 := (hb3.cell (p := ⟨w.heap.size, 5, none⟩) (by simp only []; omega)).trans c5; have dn := (hb3.cell (p := ⟨w.heap.size + 1, 0, none⟩) z2).trans cn; clear hb3)
                  | (go_at_call 60; (with_reducible refine (HC6.out _ B3.out).mono ?_); rintro e w4 ⟨rfl, hb4⟩; have B4 := Lib.hid (Below.then B3.out hb4); have z4 : w.heap.size + 1 < w4.heap.size := Nat.lt_of_lt_of_le z3 hb4.size; have f0 := (hb4.cell (p := ⟨w.heap.size, 0, none⟩) (by simp only []; omega)).trans d0; have f1 := (hb4.cell (p := ⟨w.heap.size, 1, none⟩) (by simp only []; omega)).trans d1; have f2 := (hb4.cell (p := ⟨w.heap.size, 2, none⟩) (by simp only []; omega)).trans d2; have f3 := (hb4.cell (p := ⟨w.heap.size, 3, none⟩) (by simp only []; omega)).trans d3; have f4 := (hb4.cell (p := ⟨w.heap.size, 4, none⟩) (by simp only []; omega)).trans d4; have f5 := (hb4.cell (p := ⟨w.heap.size, 5, none⟩) (by simp only []; omega)).trans d5; have fn := (hb4.cell (p := ⟨w.heap.size + 1, 0, none⟩) z3).trans dn; clear hb4)
                  | (go_at_call 63; (with_reducible refine (HC7.out _ B4.out).mono ?_); rintro e w5 ⟨rfl, hb5⟩; have B5 := Lib.hid (Below.then B4.out hb5); have z5 : w.heap.size + 1 < w5.heap.size := Nat.lt_of_lt_of_le z4 hb5.size; have g0 := (hb5.cell (p := ⟨w.heap.size, 0, none⟩) (by simp only []; omega)).trans f0; have g1 := (hb5.cell (p := ⟨w.heap.size, 1, none⟩) (by simp only []; omega)).trans f1; have g2 := (hb5.cell (p := ⟨w.heap.size, 2, none⟩) (by simp only []; omega)).trans f2; have g3 := (hb5.cell (p := ⟨w.heap.size, 3, none⟩) (by simp only []; omega)).trans f3; have g4 := (hb5.cell (p := ⟨w.heap.size, 4, none⟩) (by simp only []; omega)).trans f4; have g5 := (hb5.cell (p := ⟨w.heap.size, 5, none⟩) (by simp only []; omega)).trans f5; have gn := (hb5.cell (p := ⟨w.heap.size + 1, 0, none⟩) z4).trans fn; clear hb5))
                go_ret
                exact ⟨rfl, B5.out⟩
              · obtain rfl : V8 = B := by simpa using hB'
                clear hB'
                cases V8
                · 
                  go_enter Tryz.func24, Tryz.ntmps24
                  go_wp2_with (first
                    | (go_at_call 33; (with_reducible refine (valid_is (HT.out.ext (by (repeat' (first | (with_reducible exact Below.refl _ _) | (with_reducible assumption) | (with_reducible refine Below.alloc ?_ ?_ _) | (with_reducible refine Below.drew ?_) | (with_reducible refine Below.draws ?_ _) | (with_reducible refine Below.setCell ?_ ?_ _) | (refine Below.then ?_ (by with_reducible assumption)) | go_size)))) E1'.out).mono ?_); rintro e w2 ⟨rfl, hb2⟩; have B2 : Hid (Below w.heap.size w w2) := Lib.hid (Below.trans (by (repeat' (first | (with_reducible exact Below.refl _ _) | (with_reducible assumption) | (with_reducible refine Below.alloc ?_ ?_ _) | (with_reducible refine Below.drew ?_) | (with_reducible refine Below.draws ?_ _) | (with_reducible refine Below.setCell ?_ ?_ _) | (refine Below.then ?_ (by with_reducible assumption)) | go_size))) (hb2.mono (by simp; omega))); have z2 : w.heap.size + 1 < w2.heap.size := Nat.lt_of_lt_of_le (by simp) hb2.size; have c0 := (hb2.cell (p := ⟨w.heap.size, 0, none⟩) (by simp; omega)).trans (by simp [go_sem]; rfl); have c1 := (hb2.cell (p := ⟨w.heap.size, 1, none⟩) (by simp; omega)).trans (by simp [go_sem]; rfl); have c2 := (hb2.cell (p := ⟨w.heap.size, 2, none⟩) (by simp; omega)).trans (by simp [go_sem]; rfl); have c3 := (hb2.cell (p := ⟨w.heap.size, 3, none⟩) (by simp; omega)).trans (by simp [go_sem]; rfl); have c4 := (hb2.cell (p := ⟨w.heap.size, 4, none⟩) (by simp; omega)).trans (by simp [go_sem]; rfl); have c5 := (hb2.cell (p := ⟨w.heap.size, 5, none⟩) (by simp; omega)).trans (by simp [go_sem]; rfl); have cn := (hb2.cell (p := ⟨w.heap.size + 1, 0, none⟩) (by simp)).trans (by simp [go_sem]; rfl); clear hb2)
                    | (go_at_call 57; (with_reducible refine (supV_is E2'.out).mono ?_); rintro e w3 ⟨rfl, hb3⟩; have B3 := Lib.hid (Below.then B2.out hb3); have z3 : w.heap.size + 1 < w3.heap.size := Nat.lt_of_lt_of_le z2 hb3.size; have d0 := (hb3.cell (p := ⟨w.heap.size, 0, none⟩) (by simp only []; omega)).trans c0; have d1 := (hb3.cell (p := ⟨w.heap.size, 1, none⟩) (by simp only []; omega)).trans c1; have d2 := (hb3.cell (p := ⟨w.heap.size, 2, none⟩) (by simp only []; omega)).trans c2; have d3 := (hb3.cell (p := ⟨w.heap.size, 3, none⟩) (by simp only []; omega)).trans c3; have d4 := (hb3.cell (p := ⟨w.heap.size, 4, none⟩) (by simp only []; omega)).trans c4; have d5 := (hb3.cell (p := ⟨w.heap.size, 5, none⟩) (by simp only []; omega)).trans c5; have dn := (hb3.cell (p := ⟨w.heap.size + 1, 0, none⟩) z2).trans cn; clear hb3)
                    | (go_at_call 60; (with_reducible refine (HC6.out _ B3.out).mono ?_); rintro e w4 ⟨rfl, hb4⟩; have B4 := Lib.hid (Below.then B3.out hb4); have z4 : w.heap.size + 1 < w4.heap.size := Nat.lt_of_lt_of_le z3 hb4.size; have f0 := (hb4.cell (p := ⟨w.heap.size, 0, none⟩) (by simp only []; omega)).trans d0; have f1 := (hb4.cell (p := ⟨w.heap.size, 1, none⟩) (by simp only []; omega)).trans d1; have f2 := (hb4.cell (p := ⟨w.heap.size, 2, none⟩) (by simp only []; omega)).trans d2; have f3 := (hb4.cell (p := ⟨w.heap.size, 3, none⟩) (by simp only []; omega)).trans d3; have f4 := (hb4.cell (p := ⟨w.heap.size, 4, none⟩) (by simp only []; omega)).trans d4; have f5 := (hb4.cell (p := ⟨w.heap.size, 5, none⟩) (by simp only []; omega)).trans d5; have fn := (hb4.cell (p := ⟨w.heap.size + 1, 0, none⟩) z3).trans dn; clear hb4)
                    | (go_at_call 63; (with_reducible refine (HC7.out _ B4.out).mono ?_); rintro e w5 ⟨rfl, hb5⟩; have B5 := Lib.hid (Below.then B4.out hb5); have z5 : w.heap.size + 1 < w5.heap.size := Nat.lt_of_lt_of_le z4 hb5.size; have g0 := (hb5.cell (p := ⟨w.heap.size, 0, none⟩) (by simp only []; omega)).trans f0; have g1 := (hb5.cell (p := ⟨w.heap.size, 1, none⟩) (by simp only []; omega)).trans f1; have g2 := (hb5.cell (p := ⟨w.heap.size, 2, none⟩) (by simp only []; omega)).trans f2; have g3 := (hb5.cell (p := ⟨w.heap.size, 3, none⟩) (by simp only []; omega)).trans f3; have g4 := (hb5.cell (p := ⟨w.heap.size, 4, none⟩) (by simp only []; omega)).trans f4; have g5 := (hb5.cell (p := ⟨w.heap.size, 5, none⟩) (by simp only []; omega)).trans f5; have gn := (hb5.cell (p := ⟨w.heap.size + 1, 0, none⟩) z4).trans fn; clear hb5)
                    | (go_at_call 64; (with_reducible refine (HC8'.out _ B5.out _ z5 gn).mono ?_); rintro e w6 ⟨rfl, hb6⟩; have B6 := Lib.hid (Below.then B5.out hb6); clear hb6))
                  go_ret
                  exact ⟨rfl, B6.out⟩
                · 
                  go_enter Tryz.func24, Tryz.ntmps24
                  go_wp2_with (first
                    | (go_at_call 33; (with_reducible refine (valid_is (HT.out.ext (by (repeat' (first | (with_reducible exact Below.refl _ _) | (with_reducible assumption) | (with_reducible refine Below.alloc ?_ ?_ _) | (with_reducible refine Below.drew ?_) | (with_reducible refine Below.draws ?_ _) | (with_reducible refine Below.setCell ?_ ?_ _) | (refine Below.then ?_ (by with_reducible assumption)) | go_size)))) E1'.out).mono ?_); rintro e w2 ⟨rfl, hb2⟩; have B2 : Hid (Below w.heap.size w w2) := Lib.hid (Below.trans (by (repeat' (first | (with_reducible exact Below.refl _ _) | (with_reducible assumption) | (with_reducible refine Below.alloc ?_ ?_ _) | (with_reducible refine Below.drew ?_) | (with_reducible refine Below.draws ?_ _) | (with_reducible refine Below.setCell ?_ ?_ _) | (refine Below.then ?_ (by with_reducible assumption)) | go_size))) (hb2.mono (by simp; omega))); have z2 : w.heap.size + 1 < w2.heap.size := Nat.lt_of_lt_of_le (by simp) hb2.size; have c0 := (hb2.cell (p := ⟨w.heap.size, 0, none⟩) (by simp; omega)).trans (by simp [go_sem]; rfl); have c1 := (hb2.cell (p := ⟨w.heap.size, 1, none⟩) (by simp; omega)).trans (by simp [go_sem]; rfl); have c2 := (hb2.cell (p := ⟨w.heap.size, 2, none⟩) (by simp; omega)).trans (by simp [go_sem]; rfl); have c3 := (hb2.cell (p := ⟨w.heap.size, 3, none⟩) (by simp; omega)).trans (by simp [go_sem]; rfl); have c4 := (hb2.cell (p := ⟨w.heap.size, 4, none⟩) (by simp; omega)).trans (by simp [go_sem]; rfl); have c5 := (hb2.cell (p := ⟨w.heap.size, 5, none⟩) (by simp; omega)).trans (by simp [go_sem]; rfl); have cn := (hb2.cell (p := ⟨w.heap.size + 1, 0, none⟩) (by simp)).trans (by simp [go_sem]; rfl); clear hb2)
                    | (go_at_call 57; (with_reducible refine (supV_is E2'.out).mono ?_); rintro e w3 ⟨rfl, hb3⟩; have B3 := Lib.hid (Below.then B2.out hb3); have z3 : w.heap.size + 1 < w3.heap.size := Nat.lt_of_lt_of_le z2 hb3.size; have d0 := (hb3.cell (p := ⟨w.heap.size, 0, none⟩) (by simp only []; omega)).trans c0; have d1 := (hb3.cell (p := ⟨w.heap.size, 1, none⟩) (by simp only []; omega)).trans c1; have d2 := (hb3.cell (p := ⟨w.heap.size, 2, none⟩) (by simp only []; omega)).trans c2; have d3 := (hb3.cell (p := ⟨w.heap.size, 3, none⟩) (by simp only []; omega)).trans c3; have d4 := (hb3.cell (p := ⟨w.heap.size, 4, none⟩) (by simp only []; omega)).trans c4; have d5 := (hb3.cell (p := ⟨w.heap.size, 5, none⟩) (by simp only []; omega)).trans c5; have dn := (hb3.cell (p := ⟨w.heap.size + 1, 0, none⟩) z2).trans cn; clear hb3)
                    | (go_at_call 60; (with_reducible refine (HC6.out _ B3.out).mono ?_); rintro e w4 ⟨rfl, hb4⟩; have B4 := Lib.hid (Below.then B3.out hb4); have z4 : w.heap.size + 1 < w4.heap.size := Nat.lt_of_lt_of_le z3 hb4.size; have f0 := (hb4.cell (p := ⟨w.heap.size, 0, none⟩) (by simp only []; omega)).trans d0; have f1 := (hb4.cell (p := ⟨w.heap.size, 1, none⟩) (by simp only []; omega)).trans d1; have f2 := (hb4.cell (p := ⟨w.heap.size, 2, none⟩) (by simp only []; omega)).trans d2; have f3 := (hb4.cell (p := ⟨w.heap.size, 3, none⟩) (by simp only []; omega)).trans d3; have f4 := (hb4.cell (p := ⟨w.heap.size, 4, none⟩) (by simp only []; omega)).trans d4; have f5 := (hb4.cell (p := ⟨w.heap.size, 5, none⟩) (by simp only []; omega)).trans d5; have fn := (hb4.cell (p := ⟨w.heap.size + 1, 0, none⟩) z3).trans dn; clear hb4)
                    | (go_at_call 63; (with_reducible refine (HC7.out _ B4.out).mono ?_); rintro e w5 ⟨rfl, hb5⟩; have B5 := Lib.hid (Below.then B4.out hb5); have z5 : w.heap.size + 1 < w5.heap.size := Nat.lt_of_lt_of_le z4 hb5.size; have g0 := (hb5.cell (p := ⟨w.heap.size, 0, none⟩) (by simp only []; omega)).trans f0; have g1 := (hb5.cell (p := ⟨w.heap.size, 1, none⟩) (by simp only []; omega)).trans f1; have g2 := (hb5.cell (p := ⟨w.heap.size, 2, none⟩) (by simp only []; omega)).trans f2; have g3 := (hb5.cell (p := ⟨w.heap.size, 3, none⟩) (by simp only []; omega)).trans f3; have g4 := (hb5.cell (p := ⟨w.heap.size, 4, none⟩) (by simp only []; omega)).trans f4; have g5 := (hb5.cell (p := ⟨w.heap.size, 5, none⟩) (by simp only []; omega)).trans f5; have gn := (hb5.cell (p := ⟨w.heap.size + 1, 0, none⟩) z4).trans fn; clear hb5)
                    | (go_at_call 64; (with_reducible refine (HC8'.out _ B5.out _ z5 gn).mono ?_); rintro e w6 ⟨rfl, hb6⟩; have B6 := Lib.hid (Below.then B5.out hb6); clear hb6))
                  go_ret
                  exact ⟨rfl, B6.out⟩
          · rw [decide_eq_true q3, decide_eq_true q4, decide_eq_false q5] at hB
            obtain rfl : B = false := by simpa using hB.symm
            have q3' : ((eN : Int) != (tN : Int)) = false := by simp; omega
            have q4' : ((bN : Int) != (tN : Int)) = false := by simp; omega
            have q5' : decide ((40 : Int) < (sN : Int)) = true := by simp; omega
            clear hB q3 q4
            go_enter Tryz.func24, Tryz.ntmps24
            go_wp2_with (first
              | (go_at_call 33; (with_reducible refine (valid_is (HT.out.ext (by (repeat' (first | (with_reducible exact Below.refl _ _) | (with_reducible assumption) | (with_reducible refine Below.alloc ?_ ?_ _) | (with_reducible refine Below.drew ?_) | (with_reducible refine Below.draws ?_ _) | (with_reducible refine Below.setCell ?_ ?_ _) | (refine Below.then ?_ (by with_reducible assumption)) | go_size)))) E1'.out).mono ?_); rintro e w2 ⟨rfl, hb2⟩; have B2 : Hid (Below w.heap.size w w2) := Lib.hid (Below.trans (by (repeat' (first | (with_reducible exact Below.refl _ _) | (with_reducible assumption) | (with_reducible refine Below.alloc ?_ ?_ _) | (with_reducible refine Below.drew ?_) | (with_reducible refine Below.draws ?_ _) | (with_reducible refine Below.setCell ?_ ?_ _) | (refine Below.then ?_ (by with_reducible assumption)) | go_size))) (hb2.mono (by simp; omega))); have z2 : w.heap.size + 1 < w2.heap.size := Nat.lt_of_lt_of_le (by simp) hb2.size; have c0 := (hb2.cell (p := ⟨w.heap.size, 0, none⟩) (by simp; omega)).trans (by simp [go_sem]; rfl); have c1 := (hb2.cell (p := ⟨w.heap.size, 1, none⟩) (by simp; omega)).trans (by simp [go_sem]; rfl); have c2 := (hb2.cell (p := ⟨w.heap.size, 2, none⟩) (by simp; omega)).trans (by simp [go_sem]; rfl); have c3 := (hb2.cell (p := ⟨w.heap.size, 3, none⟩) (by simp; omega)).trans (by simp [go_sem]; rfl); have c4 := (hb2.cell (p := ⟨w.heap.size, 4, none⟩) (by simp; omega)).trans (by simp [go_sem]; rfl); have c5 := (hb2.cell (p := ⟨w.heap.size, 5, none⟩) (by simp; omega)).trans (by simp [go_sem]; rfl); have cn := (hb2.cell (p := ⟨w.heap.size + 1, 0, none⟩) (by simp)).trans (by simp [go_sem]; rfl); clear hb2)
              | (go_at_call 57; (with_reducible refine (supV_is E2'.out).mono ?_); rintro e w3 ⟨rfl, hb3⟩; have B3 := Lib.hid (Below.then B2.out hb3); have z3 : w.heap.size + 1 < w3.heap.size := Nat.lt_of_lt_of_le z2 hb3.size; have d0 := (hb3.cell (p := ⟨w.heap.size, 0, none⟩) (by simp only []; omega)).trans c0; have d1 := (hb3.cell (p := ⟨w.heap.size, 1, none⟩) (by simp only []; omega)).trans c1; have d2 := (hb3.cell (p := ⟨w.heap.size, 2, none⟩) (by simp only []; omega)).trans c2; have d3 := (hb3.cell (p := ⟨w.heap.size, 3, none⟩) (by simp only []; omega)).trans c3; have d4 := (hb3.cell (p := ⟨w.heap.size, 4, none⟩) (by simp only []; omega)).trans c4; have d5 := (hb3.cell (p := ⟨w.heap.size, 5, none⟩) (by simp only []; omega)).trans c5; have dn := (hb3.cell (p := ⟨w.heap.size + 1, 0, none⟩) z2).trans cn; clear hb3))
            go_ret
            exact ⟨rfl, B3.out⟩
        · rw [decide_eq_true q3, decide_eq_false q4] at hB
          obtain rfl : B = false := by simpa using hB.symm
          have q3' : ((eN : Int) != (tN : Int)) = false := by simp; omega
          have q4' : ((bN : Int) != (tN : Int)) = true := by simp; omega
          clear hB q3
          go_enter Tryz.func24, Tryz.ntmps24
          go_wp2_with (first
            | (go_at_call 33; (with_reducible refine (valid_is (HT.out.ext (by (repeat' (first | (with_reducible exact Below.refl _ _) | (with_reducible assumption) | (with_reducible refine Below.alloc ?_ ?_ _) | (with_reducible refine Below.drew ?_) | (with_reducible refine Below.draws ?_ _) | (with_reducible refine Below.setCell ?_ ?_ _) | (refine Below.then ?_ (by with_reducible assumption)) | go_size)))) E1'.out).mono ?_); rintro e w2 ⟨rfl, hb2⟩; have B2 : Hid (Below w.heap.size w w2) := Lib.hid (Below.trans (by (repeat' (first | (with_reducible exact Below.refl _ _) | (with_reducible assumption) | (with_reducible refine Below.alloc ?_ ?_ _) | (with_reducible refine Below.drew ?_) | (with_reducible refine Below.draws ?_ _) | (with_reducible refine Below.setCell ?_ ?_ _) | (refine Below.then ?_ (by with_reducible assumption)) | go_size))) (hb2.mono (by simp; omega))); have z2 : w.heap.size + 1 < w2.heap.size := Nat.lt_of_lt_of_le (by simp) hb2.size; have c0 := (hb2.cell (p := ⟨w.heap.size, 0, none⟩) (by simp; omega)).trans (by simp [go_sem]; rfl); have c1 := (hb2.cell (p := ⟨w.heap.size, 1, none⟩) (by simp; omega)).trans (by simp [go_sem]; rfl); have c2 := (hb2.cell (p := ⟨w.heap.size, 2, none⟩) (by simp; omega)).trans (by simp [go_sem]; rfl); have c3 := (hb2.cell (p := ⟨w.heap.size, 3, none⟩) (by simp; omega)).trans (by simp [go_sem]; rfl); have c4 := (hb2.cell (p := ⟨w.heap.size, 4, none⟩) (by simp; omega)).trans (by simp [go_sem]; rfl); have c5 := (hb2.cell (p := ⟨w.heap.size, 5, none⟩) (by simp; omega)).trans (by simp [go_sem]; rfl); have cn := (hb2.cell (p := ⟨w.heap.size + 1, 0, none⟩) (by simp)).trans (by simp [go_sem]; rfl); clear hb2)
            | (go_at_call 57; (with_reducible refine (supV_is E2'.out).mono ?_); rintro e w3 ⟨rfl, hb3⟩; have B3 := Lib.hid (Below.then B2.out hb3); have z3 : w.heap.size + 1 < w3.heap.size := Nat.lt_of_lt_of_le z2 hb3.size; have d0 := (hb3.cell (p := ⟨w.heap.size, 0, none⟩) (by simp only []; omega)).trans c0; have d1 := (hb3.cell (p := ⟨w.heap.size, 1, none⟩) (by simp only []; omega)).trans c1; have d2 := (hb3.cell (p := ⟨w.heap.size, 2, none⟩) (by simp only []; omega)).trans c2; have d3 := (hb3.cell (p := ⟨w.heap.size, 3, none⟩) (by simp only []; omega)).trans c3; have d4 := (hb3.cell (p := ⟨w.heap.size, 4, none⟩) (by simp only []; omega)).trans c4; have d5 := (hb3.cell (p := ⟨w.heap.size, 5, none⟩) (by simp only []; omega)).trans c5; have dn := (hb3.cell (p := ⟨w.heap.size + 1, 0, none⟩) z2).trans cn; clear hb3))
          go_ret
          exact ⟨rfl, B3.out⟩
      · rw [decide_eq_false q3] at hB
        obtain rfl : B = false := by simpa using hB.symm
        have q3' : ((eN : Int) != (tN : Int)) = true := by simp; omega
        clear hB
        go_enter Tryz.func24, Tryz.ntmps24
        go_wp2_with (first
          | (go_at_call 33; (with_reducible refine (valid_is (HT.out.ext (by (repeat' (first | (with_reducible exact Below.refl _ _) | (with_reducible assumption) | (with_reducible refine Below.alloc ?_ ?_ _) | (with_reducible refine Below.drew ?_) | (with_reducible refine Below.draws ?_ _) | (with_reducible refine Below.setCell ?_ ?_ _) | (refine Below.then ?_ (by with_reducible assumption)) | go_size)))) E1'.out).mono ?_); rintro e w2 ⟨rfl, hb2⟩; have B2 : Hid (Below w.heap.size w w2) := Lib.hid (Below.trans (by (repeat' (first | (with_reducible exact Below.refl _ _) | (with_reducible assumption) | (with_reducible refine Below.alloc ?_ ?_ _) | (with_reducible refine Below.drew ?_) | (with_reducible refine Below.draws ?_ _) | (with_reducible refine Below.setCell ?_ ?_ _) | (refine Below.then ?_ (by with_reducible assumption)) | go_size))) (hb2.mono (by simp; omega))); have z2 : w.heap.size + 1 < w2.heap.size := Nat.lt_of_lt_of_le (by simp) hb2.size; have c0 := (hb2.cell (p := ⟨w.heap.size, 0, none⟩) (by simp; omega)).trans (by simp [go_sem]; rfl); have c1 := (hb2.cell (p := ⟨w.heap.size, 1, none⟩) (by simp; omega)).trans (by simp [go_sem]; rfl); have c2 := (hb2.cell (p := ⟨w.heap.size, 2, none⟩) (by simp; omega)).trans (by simp [go_sem]; rfl); have c3 := (hb2.cell (p := ⟨w.heap.size, 3, none⟩) (by simp; omega)).trans (by simp [go_sem]; rfl); have c4 := (hb2.cell (p := ⟨w.heap.size, 4, none⟩) (by simp; omega)).trans (by simp [go_sem]; rfl); have c5 := (hb2.cell (p := ⟨w.heap.size, 5, none⟩) (by simp; omega)).trans (by simp [go_sem]; rfl); have cn := (hb2.cell (p := ⟨w.heap.size + 1, 0, none⟩) (by simp)).trans (by simp [go_sem]; rfl); clear hb2)
          | (go_at_call 57; (with_reducible refine (supV_is E2'.out).mono ?_); rintro e w3 ⟨rfl, hb3⟩; have B3 := Lib.hid (Below.then B2.out hb3); have z3 : w.heap.size + 1 < w3.heap.size := Nat.lt_of_lt_of_le z2 hb3.size; have d0 := (hb3.cell (p := ⟨w.heap.size, 0, none⟩) (by simp only []; omega)).trans c0; have d1 := (hb3.cell (p := ⟨w.heap.size, 1, none⟩) (by simp only []; omega)).trans c1; have d2 := (hb3.cell (p := ⟨w.heap.size, 2, none⟩) (by simp only []; omega)).trans c2; have d3 := (hb3.cell (p := ⟨w.heap.size, 3, none⟩) (by simp only []; omega)).trans c3; have d4 := (hb3.cell (p := ⟨w.heap.size, 4, none⟩) (by simp only []; omega)).trans c4; have d5 := (hb3.cell (p := ⟨w.heap.size, 5, none⟩) (by simp only []; omega)).trans c5; have dn := (hb3.cell (p := ⟨w.heap.size + 1, 0, none⟩) z2).trans cn; clear hb3))
        go_ret
        exact ⟨rfl, B3.out⟩
theorem is_any (H : RunH) (R : Rn) (t : Int) (w : World) (hR : ReadRun w H R) {B : Bool} (h : (runB R && inB t 0 2000) = B) : Calls Tryz.prog 17 #[runV H R.fr R.sl, .int .i64 t] w fun e w' => e = .returned (.bool B) ∧ Below w.heap.size w w' := by
  have HV := Lib.hid (fun w1 (hb : Below w.heap.size w w1) => Valid_run H R w1 (hR.ext hb))
  obtain ⟨A, hA⟩ : ∃ A, runB R = A := ⟨_, rfl⟩
  obtain ⟨C, hC⟩ : ∃ C, inB t 0 2000 = C := ⟨_, rfl⟩
  rw [hA, hC] at h
  rw [hA] at HV
  have HC := Lib.hid hC
  obtain ⟨fr, hfr⟩ : ∃ x, R.fr = x := ⟨_, rfl⟩
  obtain ⟨sl_, hsl⟩ : ∃ x, R.sl = x := ⟨_, rfl⟩
  rw [hfr, hsl] at HV ⊢
  obtain ⟨tA, tN, tC, eA, eN, eC, bA, bN, bC, sA, sN, sC⟩ := H
  unfold runV at HV ⊢
  simp only [] at HV ⊢
  clear hR hA hC hfr hsl
  subst h
  cases A
  · go_enter Tryz.func17, Tryz.ntmps17
    go_wp2_with (go_at_call 24; (with_reducible refine (HV.out _ (by (repeat' (first | (with_reducible exact Below.refl _ _) | (with_reducible assumption) | (with_reducible refine Below.alloc ?_ ?_ _) | (with_reducible refine Below.drew ?_) | (with_reducible refine Below.draws ?_ _) | (with_reducible refine Below.setCell ?_ ?_ _) | (refine Below.then ?_ (by with_reducible assumption)) | go_size)))).mono ?_); rintro e w2 ⟨rfl, hb2⟩)
    go_ret
    exact ⟨rfl, Below.trans (by (repeat' (first | (with_reducible exact Below.refl _ _) | (with_reducible assumption) | (with_reducible refine Below.alloc ?_ ?_ _) | (with_reducible refine Below.drew ?_) | (with_reducible refine Below.draws ?_ _) | (with_reducible refine Below.setCell ?_ ?_ _) | (refine Below.then ?_ (by with_reducible assumption)) | go_size))) (hb2.mono (by simp))⟩
  · go_enter Tryz.func17, Tryz.ntmps17
    go_wp2_with (first
      | (go_at_call 24; (with_reducible refine (HV.out _ (by (repeat' (first | (with_reducible exact Below.refl _ _) | (with_reducible assumption) | (with_reducible refine Below.alloc ?_ ?_ _) | (with_reducible refine Below.drew ?_) | (with_reducible refine Below.draws ?_ _) | (with_reducible refine Below.setCell ?_ ?_ _) | (refine Below.then ?_ (by with_reducible assumption)) | go_size)))).mono ?_); rintro e w2 ⟨rfl, hb2⟩)
      | (go_at_call 39; (with_reducible refine (cwithin_is HC.out).mono ?_); rintro e w3 ⟨rfl, rfl⟩))
    go_ret
    exact ⟨rfl, Below.trans (by (repeat' (first | (with_reducible exact Below.refl _ _) | (with_reducible assumption) | (with_reducible refine Below.alloc ?_ ?_ _) | (with_reducible refine Below.drew ?_) | (with_reducible refine Below.draws ?_ _) | (with_reducible refine Below.setCell ?_ ?_ _) | (refine Below.then ?_ (by with_reducible assumption)) | go_size))) (hb2.mono (by simp))⟩
/-- what Simulate gives -/
def simR (R : Rn) (t : Int) : List En × Int := if (runB R && inB t 0 2000) = true then ((plM R t.toNat).o, 0) else ([], 1)
def OutEn (w : World) (xs : List En) (er : Int) (e : Ending) (w' : World) : Prop :=
  ∃ a n c, e = .returned (.tuple #[.slice a n c, .int .i64 er]) ∧ w'.ownsRow w.heap.size 58 5 (.slice a n c) n (xs.flatMap encE) ∧ Below w.heap.size w w'
theorem Simulate_any (H : RunH) (R : Rn) (t : Int) (w : World) (hR : ReadRun w H R) : Calls Tryz.prog 16 #[runV H R.fr R.sl, .int .i64 t] w (OutEn w (simR R t).1 (simR R t).2) := by
  obtain ⟨B, hB⟩ : ∃ B, (runB R && inB t 0 2000) = B := ⟨_, rfl⟩
  unfold simR
  rw [hB]
  have HI := Lib.hid (fun w1 (hb : Below w.heap.size w w1) => is_any H R t w1 (hR.ext hb) hB)
  cases B
  · obtain ⟨fr, hfr⟩ : ∃ x, R.fr = x := ⟨_, rfl⟩
    obtain ⟨sl_, hsl⟩ : ∃ x, R.sl = x := ⟨_, rfl⟩
    rw [hfr, hsl] at HI ⊢
    obtain ⟨tA, tN, tC, eA, eN, eC, bA, bN, bC, sA, sN, sC⟩ := H
    unfold runV at HI ⊢
    simp only [] at HI ⊢
    clear hR hB hfr hsl
    go_enter Tryz.func16, Tryz.ntmps16
    go_wp2_with (go_at_call 17; (with_reducible refine (HI.out _ (by (repeat' (first | (with_reducible exact Below.refl _ _) | (with_reducible assumption) | (with_reducible refine Below.alloc ?_ ?_ _) | (with_reducible refine Below.drew ?_) | (with_reducible refine Below.draws ?_ _) | (with_reducible refine Below.setCell ?_ ?_ _) | (refine Below.then ?_ (by with_reducible assumption)) | go_size)))).mono ?_); rintro e w2 ⟨rfl, hb2⟩)
    go_ret2
    exact ⟨_, _, _, rfl, World.ownsRow_nil _ _ _ _, Below.trans (by (repeat' (first | (with_reducible exact Below.refl _ _) | (with_reducible assumption) | (with_reducible refine Below.alloc ?_ ?_ _) | (with_reducible refine Below.drew ?_) | (with_reducible refine Below.draws ?_ _) | (with_reducible refine Below.setCell ?_ ?_ _) | (refine Below.then ?_ (by with_reducible assumption)) | go_size))) (hb2.mono (by simp))⟩
  · rw [Bool.and_eq_true, inB_iff] at hB
    obtain ⟨tn, rfl⟩ := Int.eq_ofNat_of_zero_le hB.2.1
    rw [if_pos rfl, Int.toNat_natCast]
    have HP := Lib.hid (fun w1 (hb : Below w.heap.size w w1) => play_any H R tn w1 (hR.ext hb).rd (run_ok hB.1).1 (by omega))
    obtain ⟨fr, hfr⟩ : ∃ x, R.fr = x := ⟨_, rfl⟩
    obtain ⟨sl_, hsl⟩ : ∃ x, R.sl = x := ⟨_, rfl⟩
    rw [hfr, hsl] at HI HP ⊢
    obtain ⟨tA, tN, tC, eA, eN, eC, bA, bN, bC, sA, sN, sC⟩ := H
    unfold runV at HI ⊢
    simp only [] at HI HP ⊢
    clear hR hB hfr hsl
    go_enter Tryz.func16, Tryz.ntmps16
    go_wp2_with (first
      | (go_at_call 17; (with_reducible refine (HI.out _ (by (repeat' (first | (with_reducible exact Below.refl _ _) | (with_reducible assumption) | (with_reducible refine Below.alloc ?_ ?_ _) | (with_reducible refine Below.drew ?_) | (with_reducible refine Below.draws ?_ _) | (with_reducible refine Below.setCell ?_ ?_ _) | (refine Below.then ?_ (by with_reducible assumption)) | go_size)))).mono ?_); rintro e w2 ⟨rfl, hb2⟩; have B2 : Hid (Below w.heap.size w w2) := Lib.hid (Below.trans (by (repeat' (first | (with_reducible exact Below.refl _ _) | (with_reducible assumption) | (with_reducible refine Below.alloc ?_ ?_ _) | (with_reducible refine Below.drew ?_) | (with_reducible refine Below.draws ?_ _) | (with_reducible refine Below.setCell ?_ ?_ _) | (refine Below.then ?_ (by with_reducible assumption)) | go_size))) (hb2.mono (by simp))); have c0 := (hb2.cell (p := ⟨w.heap.size, 0, none⟩) (by simp)).trans (by simp [go_sem]; rfl); have c1 := (hb2.cell (p := ⟨w.heap.size, 1, none⟩) (by simp)).trans (by simp [go_sem]; rfl); have c2 := (hb2.cell (p := ⟨w.heap.size, 2, none⟩) (by simp)).trans (by simp [go_sem]; rfl); have c3 := (hb2.cell (p := ⟨w.heap.size, 3, none⟩) (by simp)).trans (by simp [go_sem]; rfl); have c4 := (hb2.cell (p := ⟨w.heap.size, 4, none⟩) (by simp)).trans (by simp [go_sem]; rfl); have c5 := (hb2.cell (p := ⟨w.heap.size, 5, none⟩) (by simp)).trans (by simp [go_sem]; rfl); clear hb2)
      | (go_at_call 18; (with_reducible refine (HP.out _ B2.out).mono ?_); rintro e w3 ⟨a3, n3, c3', rfl, hown3, hb3⟩; have HO3 := Lib.hid hown3; have B3 := Lib.hid hb3; clear hown3 hb3))
    go_ret2
    exact ⟨_, _, _, rfl, owns_mono HO3.out B2.out.size, Below.then B2.out B3.out⟩
end Go.Proofs.YtlhnhmimhpcoaaaGreat
namespace Go.Proofs.YtlhnhmimhpcoaaaGreat
open Go.ChangeShapes Go.WideShapes Go.ChangeAt Go.RowKit Go.Joins Go.Deep
set_option linter.unusedSimpArgs false
set_option linter.unusedVariables false
set_option maxRecDepth 100000 in
theorem opensB_row : OpensB Tryz.prog 27 (fun w cs (v : EvV) => cs = encV v ∧ (Rd w v.a v.n 2 (v.es.map enc2) ∧ v.n ≤ 281474976710656)) := by
  intro H enc w base spare held fuel cs x h hw
  obtain ⟨ys, a, n, c, e, h1, _, _, h4⟩ := opensB_slice (en := enc2) (k := 2) (ok := fun _ _ => True) Tryz.underlying27 (by kernel_rfl) (by decide) opensB_pair h hw
  have hb : Tryz.prog.bytesOf 53 = 16 := by kernel_rfl
  rw [hb] at h4
  refine ⟨⟨a, n, c, ys⟩, e, h1, ?_⟩
  simp only [reachBytes] at h4 ⊢
  omega
set_option maxRecDepth 100000 in
theorem opensB_sup : OpensB Tryz.prog 24 (fun _ cs (y : P2) => cs = enc2 y) := by
  intro H enc w base spare held fuel cs x h _
  obtain ⟨xs, n, _, hx, hl, hxl, hf⟩ := DataW.trod_struct Tryz.underlying24 h
  have hc : Tryz.prog.cellsOf 24 = 2 := by kernel_rfl
  have hc1 : Tryz.prog.cellsOf 3 = 1 := by kernel_rfl
  rw [hc] at hl
  match cs, hl, xs, hxl with
  | [u0, u1], _, [x0, x1], _ =>
    have g0 := hf 0 _ rfl
    have g1 := hf 1 _ rfl
    simp [hc1] at g0 g1
    obtain ⟨p, e0, _⟩ := DataW.trod_int Tryz.underlying3 g0
    obtain ⟨l, e1, _⟩ := DataW.trod_int Tryz.underlying3 g1
    simp at e0 e1
    subst e0; subst e1
    exact ⟨(p, l), rfl⟩
/-- how long the parts of a run can be -/
structure RunS (H : RunH) (R : Rn) : Prop where
  t : H.tN ≤ 281474976710656
  e : H.eN ≤ 281474976710656
  b : H.bN ≤ 281474976710656
  s : H.sN ≤ 281474976710656
  p : ∀ t ∈ R.L, t.pcs.length ≤ 281474976710656
  v : ∀ l ∈ R.ev, l.length ≤ 281474976710656
  tn : NilOk H.tA H.tN H.tC
def runC (H : RunH) (fr sl_ : Int) : List Value := [.slice H.tA H.tN H.tC, .int .i64 fr, .int .i64 sl_, .slice H.eA H.eN H.eC, .slice H.bA H.bN H.bC, .slice H.sA H.sN H.sC]
set_option maxRecDepth 100000 in
theorem opensB_run : OpensB Tryz.prog 29 (fun w cs (y : RunH × Rn) => cs = runC y.1 y.2.fr y.2.sl ∧ (ReadRun w y.1 y.2 ∧ RunS y.1 y.2)) := by
  intro H enc w base spare held fuel cs x h hw
  obtain ⟨xs, n, _, hx, hl, hxl, hf⟩ := DataW.trod_struct Tryz.underlying29 h
  have hc : Tryz.prog.cellsOf 29 = 6 := by kernel_rfl
  have hc1 : Tryz.prog.cellsOf 22 = 1 := by kernel_rfl
  have hc2 : Tryz.prog.cellsOf 24 = 2 := by kernel_rfl
  have hc3 : Tryz.prog.cellsOf 25 = 1 := by kernel_rfl
  have hc4 : Tryz.prog.cellsOf 26 = 1 := by kernel_rfl
  have hc5 : Tryz.prog.cellsOf 27 = 1 := by kernel_rfl
  have b1 : Tryz.prog.bytesOf 50 = 64 := by kernel_rfl
  have b3 : Tryz.prog.bytesOf 27 = 24 := by kernel_rfl
  have b4 : Tryz.prog.bytesOf 3 = 8 := by kernel_rfl
  have b5 : Tryz.prog.bytesOf 53 = 16 := by kernel_rfl
  rw [hc] at hl
  rw [hx] at hw
  simp only [DataW.weights, Tryz.underlying29] at hw
  match cs, hl, xs, hxl with
  | [u0, u1, u2, u3, u4, u5], _, [x0, x1, x2, x3, x4], _ =>
    have g0 := hf 0 _ rfl
    have g1 := hf 1 _ rfl
    have g2 := hf 2 _ rfl
    have g3 := hf 3 _ rfl
    have g4 := hf 4 _ rfl
    simp [hc1, hc2, hc3, hc4, hc5] at g0 g1 g2 g3 g4
    obtain ⟨ts, tA, tN, tC, q0, r0, k0, m0, z0⟩ := opensB_slice (en := encTa) (k := 6) (ok := fun w t => t.ok w ∧ t.n ≤ 281474976710656) Tryz.underlying22 (by kernel_rfl) (by decide) opensB_task g0 (fun q hq => hw q (by simp [DataW.weightsEach]; exact .inl hq))
    obtain ⟨y, q1⟩ := opensB_sup g1 (fun q hq => hw q (by simp [DataW.weightsEach]; exact .inr (.inl hq)))
    obtain ⟨vs, eA, eN, eC, q2, r2, k2, m2, z2⟩ := opensB_slice (en := encV) (k := 1) (ok := fun w v => Rd w v.a v.n 2 (v.es.map enc2) ∧ v.n ≤ 281474976710656) Tryz.underlying25 (by kernel_rfl) (by decide) opensB_row g2 (fun q hq => hw q (by simp [DataW.weightsEach]; exact .inr (.inr (.inl hq))))
    obtain ⟨bs, bA, bN, bC, q3, r3, _, m3, z3⟩ := opensB_slice (en := enc1) (k := 1) (ok := fun _ _ => True) Tryz.underlying26 (by kernel_rfl) (by decide) (opensB_int Tryz.underlying3) g3 (fun q hq => hw q (by simp [DataW.weightsEach]; exact .inr (.inr (.inr (.inl hq)))))
    obtain ⟨ss, sA, sN, sC, q4, r4, _, m4, z4⟩ := opensB_slice (en := enc2) (k := 2) (ok := fun _ _ => True) Tryz.underlying27 (by kernel_rfl) (by decide) opensB_pair g4 (fun q hq => hw q (by simp [DataW.weightsEach]; exact .inr (.inr (.inr (.inr hq)))))
    simp only [List.cons.injEq, and_true] at q0 q2 q3 q4
    have q1' : u1 = .int .i64 y.1 ∧ u2 = .int .i64 y.2 := by simpa [enc2] using q1
    clear q1
    obtain ⟨q1, q5⟩ := q1'
    subst q0; subst q1; subst q2; subst q3; subst q4; subst q5
    rw [b1] at z0
    rw [b3] at z2
    rw [b4] at z3
    rw [b5] at z4
    simp only [reachBytes] at z0 z2 z3 z4
    refine ⟨(⟨tA, tN, tC, eA, eN, eC, bA, bN, bC, sA, sN, sC⟩, ⟨ts.map TaV.ta, y.1, y.2, vs.map EvV.es, bs, ss⟩), rfl, ⟨RdT.rdL ⟨r0, fun t ht => (k0 t ht).1⟩, ⟨vs, r2, fun v hv => (k2 v hv).1, rfl⟩, r3, r4⟩, ⟨by simp only []; omega, by simp only []; omega, by simp only []; omega, by simp only []; omega, fun t ht => ?_, fun l hl => ?_, m0⟩⟩
    · obtain ⟨u, hu, rfl⟩ := List.mem_map.1 ht
      have h5 := (k0 u hu).1.1.length
      have h6 := (k0 u hu).2
      have e : (TaV.ta u).pcs.length = u.pcs.length := rfl
      omega
    · obtain ⟨u, hu, rfl⟩ := List.mem_map.1 hl
      have h5 := (k2 u hu).1.length
      have h6 := (k2 u hu).2
      omega
set_option maxRecDepth 100000 in
theorem open_run {H : Type} {enc : TypeId × Value → H} {w : World} {base b0 : Nat} {spare : Nat → Bool} {held : Bool} {r : Reach} {v : Value} {d : DataW H} {ps : List MemPlace}
    (hv : Value.okWide Tryz.prog w r b0 29 v) (h : DataW.Trod enc Tryz.prog w base spare held 29 v d ps) (hw : ∀ n ∈ d.weights Tryz.prog 29, n ≤ reachBytes) :
    ∃ (K : RunH) (R : Rn), v = runV K R.fr R.sl ∧ ReadRun w K R ∧ RunS K R := by
  simp only [Value.okWide, Tryz.underlying29] at hv
  obtain ⟨cs, rfl, _, _⟩ := hv
  obtain ⟨fuel, hf⟩ := h
  obtain ⟨⟨K, R⟩, e, h1, h2⟩ := opensB_run hf hw
  obtain ⟨l⟩ := cs
  simp only [Value.cells] at e
  refine ⟨K, R, ?_, h1, h2⟩
  rw [show l = runC K R.fr R.sl from e]
  rfl
end Go.Proofs.YtlhnhmimhpcoaaaGreat
namespace Go.Proofs.YtlhnhmimhpcoaaaGreat
open Go.RowKit
set_option linter.unusedSimpArgs false
set_option linter.unusedVariables false
theorem relE_pre (t : Int) (i : Nat) : ∀ (es : List P2) (k : Nat) (s : Ms), s.o <+: (relE t i k es s).o
  | [], _, s => List.prefix_rfl
  | e :: es, k, s => by
    rw [relE]
    refine List.IsPrefix.trans ?_ (relE_pre t i es (k + 1) _)
    split
    · exact List.prefix_append _ _
    · exact List.prefix_rfl
theorem relA_pre (t : Int) : ∀ (ls : List (List P2)) (i : Nat) (s : Ms), s.o <+: (relA t i ls s).o
  | [], _, s => List.prefix_rfl
  | l :: ls, i, s => (relE_pre t i l 0 s).trans (relA_pre t ls (i + 1) _)
theorem sigS_pre (t : Int) (g : P2) (s : Ms) : s.o <+: (sigS t g s).o := by
  unfold sigS; split
  · exact List.prefix_append _ _
  · exact List.prefix_rfl
theorem sigA_pre (t : Int) : ∀ (gs : List P2) (s : Ms), s.o <+: (sigA t gs s).o
  | [], s => List.prefix_rfl
  | g :: gs, s => (sigS_pre t g s).trans (sigA_pre t gs _)
theorem endS_pre (L : List Ta) (t : Int) (i : Nat) (s : Ms) : s.o <+: (endS L t i s).o := by
  unfold endS; split
  · exact List.prefix_append _ _
  · exact List.prefix_rfl
theorem endA_pre (L : List Ta) (t : Int) : ∀ (f i : Nat) (s : Ms), s.o <+: (endA L t f i s).o
  | 0, _, s => List.prefix_rfl
  | f + 1, i, s => (endS_pre L t i s).trans (endA_pre L t f (i + 1) _)
theorem wkA_pre (R : Rn) (t : Int) (i : Nat) (s : Ms) : s.o <+: (wkA R t i s).o := by
  unfold wkA; split
  · exact (List.prefix_append _ _).trans (List.prefix_append _ _)
  · split
    · rw [List.append_assoc]; exact List.prefix_append _ _
    · exact List.prefix_append _ _
theorem tckB_pre (R : Rn) (t : Int) (s : Ms) : s.o <+: (tckB R t s).o := by
  unfold tckB; split
  · exact List.prefix_append _ _
  · split
    · exact wkA_pre _ _ _ _
    · exact List.prefix_rfl
theorem arrA_pre (R : Rn) (t : Int) (s : Ms) : s.o <+: (arrA R t s).o := (relA_pre t R.ev 0 s).trans ((sigA_pre t R.sg _).trans (endA_pre R.L t _ _ _))
theorem tckA_pre (R : Rn) (t : Int) (s : Ms) : s.o <+: (tckA R t s).o := (arrA_pre R t s).trans (tckB_pre R t _)
theorem plM_pre (R : Rn) : ∀ (d k : Nat), (plM R k).o <+: (plM R (k + d)).o
  | 0, _ => List.prefix_rfl
  | d + 1, k => (plM_pre R d k).trans (tckA_pre R _ _)
/-- whether a signal has been heard -/
def hrd (es : List En) (g : P2) : Bool := es.any (fun e => decide (e.w = 2) && decide (e.m = g.1) && decide (e.k = g.2))
def sgR (R : Rn) (es : List En) : Rn := { R with sg := R.sg.filter (hrd es) }
theorem sigA_filter (es : List En) (t : Int) : ∀ (gs : List P2) (s : Ms), (∀ g ∈ gs, 0 ≤ g.2) → (∀ e ∈ (sigA t gs s).o, e ∈ es) → sigA t (gs.filter (hrd es)) s = sigA t gs s
  | [], s, _, _ => rfl
  | g :: gs, s, h0, he => by
    have ih := sigA_filter es t gs (sigS t g s) (fun x hx => h0 x (by simp [hx])) he
    rw [List.filter_cons]
    cases hh : hrd es g
    · rw [if_neg (by simp), sigA]
      have e : sigS t g s = s := by
        unfold sigS
        split
        · rename_i hc
          exfalso
          have hm : (⟨t, (g.2.toNat : Int), 2, 0, 0⟩ : En) ∈ es := he _ ((sigA_pre t gs (sigS t g s)).subset (by
            unfold sigS; rw [if_pos hc]; simp [sig1]))
          have hg := h0 g (by simp)
          have : hrd es g = true := by
            unfold hrd
            rw [List.any_eq_true]
            exact ⟨_, hm, by simp [hc.1]; omega⟩
          rw [hh] at this; cases this
        · rfl
      rw [e] at ih ⊢
      exact ih
    · rw [if_pos rfl, sigA, sigA, ih]
theorem sgR_pl {R : Rn} (T : Nat) (h0 : ∀ g ∈ R.sg, 0 ≤ g.2) : ∀ k : Nat, k ≤ T → plM (sgR R (plM R T).o) k = plM R k
  | 0, _ => rfl
  | k + 1, hk => by
    have ih := sgR_pl T h0 k (by omega)
    rw [plM, plM, ih]
    have e : arrA (sgR R (plM R T).o) (k : Int) (plM R k) = arrA R k (plM R k) := by
      unfold arrA
      show endA R.L k R.L.length 0 (sigA k (R.sg.filter (hrd (plM R T).o)) (relA k 0 R.ev (plM R k))) = _
      rw [sigA_filter (plM R T).o k R.sg _ h0 (fun x hx => ?_)]
      have h1 : (sigA (k : Int) R.sg (relA k 0 R.ev (plM R k))).o <+: (plM R (k + 1)).o := by
        rw [plM]
        exact (endA_pre R.L k R.L.length 0 _).trans (tckB_pre R k _)
      have h2 := plM_pre R (T - (k + 1)) (k + 1)
      rw [show k + 1 + (T - (k + 1)) = T by omega] at h2
      exact (h1.trans h2).subset hx
    unfold tckA
    rw [e]
    rfl
theorem sgR_ok {R : Rn} (es : List En) (h : runB R = true) : runB (sgR R es) = true := by
  unfold runB at h ⊢
  simp only [Bool.and_eq_true, decide_eq_true_eq, List.all_eq_true] at h ⊢
  obtain ⟨h1, h2, h3, h4, h5, h6, h7, h8⟩ := h
  exact ⟨h1, h2, h3, h4, Nat.le_trans (List.length_filter_le _ _) h5, h6, h7, fun g hg => h8 g (List.mem_filter.1 hg).1⟩
theorem sgR_sim {R : Rn} {t : Int} {es : List En} (h : simR R t = (es, 0)) : simR (sgR R es) t = (es, 0) := by
  unfold simR at h ⊢
  by_cases hB : (runB R && inB t 0 2000) = true
  · rw [if_pos hB] at h
    rw [Bool.and_eq_true] at hB
    obtain rfl : (plM R t.toNat).o = es := by simpa using h
    rw [sgR_ok _ hB.1, hB.2, if_pos (show (true && true) = true from rfl), sgR_pl t.toNat (fun g hg => ((run_ok hB.1).1.sg g hg).1) _ (Nat.le_refl _)]
  · rw [if_neg hB] at h
    simp at h
theorem sim_bad {R : Rn} {t : Int} {es : List En} {e : Int} (h : simR R t = (es, e)) : (e = 0 ∧ (runB R && inB t 0 2000) = true) ∨ (e = 1 ∧ es = [] ∧ (runB R && inB t 0 2000) = false) := by
  unfold simR at h
  by_cases hB : (runB R && inB t 0 2000) = true
  · rw [if_pos hB] at h
    simp at h
    exact .inl ⟨h.2.symm, hB⟩
  · rw [if_neg hB] at h
    simp at h
    exact .inr ⟨h.2.symm, h.1, by simpa using hB⟩
end Go.Proofs.YtlhnhmimhpcoaaaGreat
namespace Go.Proofs.YtlhnhmimhpcoaaaGreat
open Go.RowKit
set_option linter.unusedSimpArgs false
set_option linter.unusedVariables false
/-- behind the arrivals nobody waits for its end -/
def Settled (R : Rn) (s : Ms) : Prop := ∀ i, i < R.L.length → s.qa i ≠ [] → (s.ja i).s = true → insB R.L s i = true
/-- a tick of work -/
def wk1 (R : Rn) (t : Int) (i : Nat) (s : Ms) : Ms := { s with j := s.j.set i (jbN R.L i (s.ja i)), o := s.o ++ [⟨t, i, 4, (s.ja i).p, s.hd i⟩] }
def wk2 (R : Rn) (t : Int) (i : Nat) (s : Ms) : Ms := { s with j := s.j.set i { jbN R.L i (s.ja i) with s := true }, o := s.o ++ [⟨t, i, 4, (s.ja i).p, s.hd i⟩] ++ [⟨t + 1, i, 6, s.hd i, 0⟩] }
theorem wkA_cases (R : Rn) (t : Int) (i : Nat) (s : Ms) : wkA R t i s = if (jbN R.L i (s.ja i)).p = (taAt R.L i).pcs.length then fin1 (t + 1) i 0 (wk1 R t i s) else if (((jbN R.L i (s.ja i)).d : Nat) : Int) = (R.bu[i]?).getD 0 then wk2 R t i s else wk1 R t i s := rfl
structure Chosen (R : Rn) (s : Ms) (i : Nat) : Prop where
  lt : i < R.L.length
  rd : s.qa i ≠ []
  le : ∀ k, k < R.L.length → s.qa k ≠ [] → keyI R.L s i ≤ keyI R.L s k
theorem endS_settled {R : Rn} {s : Ms} (hm : MOk R s) (t : Int) {i : Nat} (hi : i < R.L.length) (h : ∀ k, k < i → s.qa k ≠ [] → (s.ja k).s = true → insB R.L s k = true) : ∀ k, k < i + 1 → (endS R.L t i s).qa k ≠ [] → ((endS R.L t i s).ja k).s = true → insB R.L (endS R.L t i s) k = true := by
  intro k hk
  unfold endS
  split
  · rename_i hc
    have hj := fun k => fin_ja (m := t) (how := 1) (i := i) (k := k) (s := s) (by rw [hm.jl]; exact hi)
    have hq := fun k => fin_qa (m := t) (how := 1) (i := i) (k := k) (s := s) (by rw [hm.ql]; exact hi)
    rw [hj, hq]
    by_cases e : k = i
    · rw [if_pos e, if_pos e]
      intro _ h2; cases h2
    · rw [if_neg e, if_neg e, insB_eq (s' := s) (by rw [hj, if_neg e])]
      exact h k (by omega)
  · rename_i hc
    intro h1 h2
    by_cases e : k = i
    · subst e
      cases hb : insB R.L s k
      · exact absurd ⟨h1, h2, hb⟩ hc
      · rfl
    · exact h k (by omega) h1 h2
theorem endA_settled {R : Rn} (hr : RnOk R) (t : Int) : ∀ (f i : Nat) {s : Ms}, MOk R s → i + f = R.L.length → (∀ k, k < i → s.qa k ≠ [] → (s.ja k).s = true → insB R.L s k = true) → Settled R (endA R.L t f i s)
  | 0, i, s, _, e, h => fun k hk => h k (by omega)
  | f + 1, i, s, hm, e, h => endA_settled hr t f (i + 1) (hm.endS hr t (by omega)) (by omega) (endS_settled hm t (by omega) h)
theorem arrA_settled {R : Rn} (hr : RnOk R) {s : Ms} (hm : MOk R s) (t : Int) : Settled R (arrA R t s) :=
  endA_settled hr t _ 0 (MOk.sigA t _ (hm.relA hr t) hr.sg) (by omega) (fun k hk => absurd hk (Nat.not_lt_zero _))
/-- what must be shown of P (behind the releases of a tick) and Q (behind a tick) -/
structure Steps (R : Rn) (P Q : Int → Ms → List Nat → Prop) : Prop where
  rel : ∀ (t : Int) s at_, MOk R s → QR R (t - 1) s at_ → Q (t - 1) s at_ → P t (relA t 0 R.ev s) at_
  sig : ∀ (t : Int) s at_ i, MOk R s → QR R t s at_ → i < R.L.length → s.qa i ≠ [] → P t s at_ → P t (sig1 t i s) at_
  fin : ∀ (t : Int) s at_ i a, MOk R s → QR R t s at_ → i < R.L.length → s.qa i ≠ [] → at_[i]? = some a → (s.ja i).s = true → insB R.L s i = false → P t s at_ → P t (fin1 t i 1 s) (at_.set i (a + 1))
  gc : ∀ (t : Int) s at_, MOk R s → QR R t s at_ → Settled R s → t % R.fr < R.sl → P t s at_ → Q t (s.wr ⟨t, -1, 3, 0, 0⟩) at_
  idle : ∀ (t : Int) s at_, MOk R s → QR R t s at_ → Settled R s → ¬ t % R.fr < R.sl → (∀ k, k < R.L.length → s.qa k = []) → P t s at_ → Q t s at_
  w0 : ∀ (t : Int) s at_ i a, MOk R s → QR R t s at_ → Settled R s → ¬ t % R.fr < R.sl → Chosen R s i → at_[i]? = some a → (jbN R.L i (s.ja i)).p = (taAt R.L i).pcs.length → P t s at_ → Q t (fin1 (t + 1) i 0 (wk1 R t i s)) (at_.set i (a + 1))
  w1 : ∀ (t : Int) s at_ i a, MOk R s → QR R t s at_ → Settled R s → ¬ t % R.fr < R.sl → Chosen R s i → at_[i]? = some a → (jbN R.L i (s.ja i)).p < (taAt R.L i).pcs.length → (((jbN R.L i (s.ja i)).d : Nat) : Int) ≠ (R.bu[i]?).getD 0 → P t s at_ → Q t (wk1 R t i s) at_
  w2 : ∀ (t : Int) s at_ i a, MOk R s → QR R t s at_ → Settled R s → ¬ t % R.fr < R.sl → Chosen R s i → at_[i]? = some a → (jbN R.L i (s.ja i)).p < (taAt R.L i).pcs.length → (((jbN R.L i (s.ja i)).d : Nat) : Int) = (R.bu[i]?).getD 0 → P t s at_ → Q t (wk2 R t i s) at_
section
variable {R : Rn} {P Q : Int → Ms → List Nat → Prop}
theorem Steps.sigA (h : Steps R P Q) (hr : RnOk R) (t : Int) : ∀ (gs : List P2) {s : Ms} {at_ : List Nat}, MOk R s → QR R t s at_ → (∀ g ∈ gs, 0 ≤ g.2 ∧ g.2 < R.L.length) → P t s at_ → P t (sigA t gs s) at_
  | [], s, at_, _, _, _, hp => hp
  | g :: gs, s, at_, hm, hq, hg, hp => by
    have h0 := hg g (by simp)
    refine Steps.sigA h hr t gs (hm.sigS t h0) (hq.of sigS_spec.1) (fun x hx => hg x (by simp [hx])) ?_
    unfold sigS
    split
    · rename_i hc
      exact h.sig t s at_ _ hm hq (by omega) hc.2 hp
    · exact hp
theorem Steps.endA (h : Steps R P Q) (hr : RnOk R) (t : Int) : ∀ (f i : Nat) {s : Ms} {at_ : List Nat}, MOk R s → QR R t s at_ → i + f = R.L.length → P t s at_ → ∃ at', QR R t (endA R.L t f i s) at' ∧ P t (endA R.L t f i s) at'
  | 0, _, s, at_, _, hq, _, hp => ⟨at_, hq, hp⟩
  | f + 1, i, s, at_, hm, hq, e, hp => by
    rw [Go.Proofs.YtlhnhmimhpcoaaaGreat.endA]
    unfold Go.Proofs.YtlhnhmimhpcoaaaGreat.endS
    split
    · rename_i hc
      have hi : i < at_.length := by rw [hq.len]; omega
      exact Steps.endA h hr t f (i + 1) (hm.fin hr t 1 (by omega)) (hq.fin hm (List.getElem?_eq_getElem hi) hc.1 t 1) (by omega) (h.fin t s at_ i _ hm hq (by omega) hc.1 (List.getElem?_eq_getElem hi) hc.2.1 hc.2.2 hp)
    · exact Steps.endA h hr t f (i + 1) hm hq (by omega) hp
theorem Steps.arr (h : Steps R P Q) (hr : RnOk R) {t : Int} {s : Ms} {at_ : List Nat} (hm : MOk R s) (hq : QR R (t - 1) s at_) (hp : Q (t - 1) s at_) : ∃ at', QR R t (arrA R t s) at' ∧ P t (arrA R t s) at' :=
  h.endA hr t _ _ (MOk.sigA t _ (hm.relA hr t) hr.sg) ((hq.rel hr hm).of (sigA_q _ _ _)) (by omega) (h.sigA hr t _ (hm.relA hr t) (hq.rel hr hm) hr.sg (h.rel t s at_ hm hq hp))
theorem chosen_of {s : Ms} (hm : MOk R s) (hc : 0 ≤ chM R.L s) : Chosen R s (chM R.L s).toNat := by
  obtain ⟨h1, h2, h3, h4⟩ := chM_spec R.L s
  exact ⟨by omega, h4 hc, fun k hk hq => (h3 k hk hq).2⟩
theorem Steps.tick (h : Steps R P Q) (hr : RnOk R) {t : Int} {s : Ms} {at_ : List Nat} (hm : MOk R s) (hs : Settled R s) (hq : QR R t s at_) (hp : P t s at_) : ∃ at', QR R t (tckB R t s) at' ∧ Q t (tckB R t s) at' := by
  unfold tckB
  split
  · rename_i hg
    exact ⟨at_, hq.of rfl, h.gc t s at_ hm hq hs hg hp⟩
  · rename_i hg
    split
    · rename_i hc
      have hch := chosen_of hm hc
      obtain ⟨i, hi⟩ : ∃ i, (chM R.L s).toNat = i := ⟨_, rfl⟩
      rw [hi] at hch ⊢
      have hil : i < at_.length := by rw [hq.len]; exact hch.lt
      have ha := List.getElem?_eq_getElem hil
      have hjl : i < s.j.length := by rw [hm.jl]; exact hch.lt
      have hle : (jbN R.L i (s.ja i)).p ≤ (taAt R.L i).pcs.length := by
        have hpi := hm.pc i hch.lt
        unfold jbN; split <;> simp only [] <;> omega
      rw [wkA_cases]
      split
      · rename_i h1
        refine ⟨_, ?_, h.w0 t s at_ i _ hm hq hs hg hch ha h1 hp⟩
        have := hq.fin hm ha hch.rd (t + 1) 0
        exact this.of rfl
      · rename_i h1
        split
        · rename_i h2
          exact ⟨at_, hq.of rfl, h.w2 t s at_ i _ hm hq hs hg hch ha (by omega) h2 hp⟩
        · rename_i h2
          exact ⟨at_, hq.of rfl, h.w1 t s at_ i _ hm hq hs hg hch ha (by omega) h2 hp⟩
    · rename_i hc
      refine ⟨at_, hq, h.idle t s at_ hm hq hs hg (fun k hk => ?_) hp⟩
      obtain ⟨h1, h2, h3, h4⟩ := chM_spec R.L s
      by_cases e : s.qa k = []
      · exact e
      · have := (h3 k hk e).1; omega
theorem qr_zero {R : Rn} (hr : RnOk R) : QR R (-1) (ms0 R.L.length) (List.replicate R.L.length 0) := by
  refine ⟨by simp, fun i a ha => ?_⟩
  have hq : (ms0 R.L.length).qa i = [] := by
    unfold ms0 Ms.qa; simp only [List.getElem?_replicate]; split <;> rfl
  have h0 : a = 0 := by
    rw [List.getElem?_replicate] at ha
    split at ha
    · simpa using ha.symm
    · simp at ha
  subst h0
  have : outE (evA R i) (-1) = [] := by
    refine outE_none (fun e he => ?_) (by omega)
    unfold evA at he
    cases hev : R.ev[i]? with
    | none => rw [hev] at he; simp at he
    | some l =>
      rw [hev] at he
      have := (hr.el l (List.mem_of_getElem? hev)).2 e he
      omega
  rw [hq, this]; exact ⟨rfl, Nat.le_refl _⟩
/-- what the steps keep holds along the run -/
theorem Steps.run (h : Steps R P Q) (hr : RnOk R) (h0 : Q (-1) (ms0 R.L.length) (List.replicate R.L.length 0)) : ∀ k : Nat, ∃ at_, QR R ((k : Int) - 1) (plM R k) at_ ∧ Q ((k : Int) - 1) (plM R k) at_
  | 0 => ⟨_, qr_zero hr, h0⟩
  | k + 1 => by
    obtain ⟨at_, hq, hp⟩ := Steps.run h hr h0 k
    have hm := plM_ok hr k
    obtain ⟨a1, q1, p1⟩ := h.arr hr hm hq hp
    obtain ⟨a2, q2, p2⟩ := h.tick hr (hm.arrA hr _) (arrA_settled hr hm _) q1 p1
    refine ⟨a2, ?_⟩
    rw [show (((k + 1 : Nat) : Int) - 1) = (k : Int) by omega]
    exact ⟨q2, p2⟩
end
end Go.Proofs.YtlhnhmimhpcoaaaGreat
namespace Go.Proofs.YtlhnhmimhpcoaaaGreat
open Go.RowKit
set_option linter.unusedSimpArgs false
set_option linter.unusedVariables false
structure RPar where
  w0 : World
  H : RunH
  R : Rn
  K : Nat
  p : Nat
  S : Nat
  sA : Option Addr
  sc : Nat
  rb : Nat
  oh : Nat → Hdr
structure RLay (M : RPar) : Prop where
  p : M.w0.heap.size ≤ M.p ∧ M.p < M.K
  S : M.w0.heap.size ≤ M.S ∧ M.S < M.K
  r : M.w0.heap.size ≤ M.rb ∧ M.rb < M.K
  ne : M.p ≠ M.S ∧ M.p ≠ M.rb ∧ M.S ≠ M.rb
  s : 0 < M.R.L.length → M.sA = some ⟨M.S, 0, none⟩
  o : ∀ i, i < M.R.L.length → ∀ ad, (M.oh i).a = some ad → ad.block < M.K ∧ ad.block ≠ M.p ∧ ad.block ≠ M.S
def encS (h : Hdr) (a : Nat) (j : Jb) : List Value := [sl h, .int .i64 a, .int .i64 j.p, .int .i64 j.t, .int .i64 j.d, .bool j.s]
def atA (at_ : List Nat) (i : Nat) : Nat := (at_[i]?).getD 0
theorem atA_of {at_ : List Nat} {i a : Nat} (h : at_[i]? = some a) : atA at_ i = a := by unfold atA; rw [h]; rfl
theorem atA_set {at_ : List Nat} {i k a : Nat} (h : i < at_.length) : atA (at_.set i a) k = if k = i then a else atA at_ k := by
  unfold atA
  rw [List.getElem?_set]
  by_cases e : k = i
  · subst e; simp [h]
  · rw [if_neg (fun q => e q.symm), if_neg e]
structure PlM (M : RPar) (w : World) (s : Ms) (at_ : List Nat) : Prop where
  c0 : w.cell? ⟨M.p, 0, none⟩ = some (.slice M.H.tA M.H.tN M.H.tC)
  c1 : w.cell? ⟨M.p, 1, none⟩ = some (.int .i64 M.R.fr)
  c2 : w.cell? ⟨M.p, 2, none⟩ = some (.int .i64 M.R.sl)
  c3 : w.cell? ⟨M.p, 3, none⟩ = some (.slice M.H.eA M.H.eN M.H.eC)
  c4 : w.cell? ⟨M.p, 4, none⟩ = some (.slice M.H.bA M.H.bN M.H.bC)
  c5 : w.cell? ⟨M.p, 5, none⟩ = some (.slice M.H.sA M.H.sN M.H.sC)
  c6 : w.cell? ⟨M.p, 6, none⟩ = some (.slice (some ⟨M.rb, 0, none⟩) M.R.L.length M.R.L.length)
  c7 : w.cell? ⟨M.p, 7, none⟩ = some (.slice M.sA M.R.L.length M.sc)
  fp : ∀ j, w.frozen? ⟨M.p, j, none⟩ = false
  en : ∃ (a : Option Addr) (m c : Nat), w.cell? ⟨M.p, 8, none⟩ = some (.slice a m c) ∧ w.ownsRow M.K 58 5 (.slice a m c) m (s.o.flatMap encE)
  rk : ∀ i : Nat, i < M.R.L.length → w.cell? ⟨M.rb, i, none⟩ = some (.int .i64 (cnt M.R.L i : Nat))
  sb : ∀ i, i < M.R.L.length → ∀ j, j < 6 → w.cell? ⟨M.S, i * 6 + j, none⟩ = (encS (M.oh i) (atA at_ i) (s.ja i))[j]?
  fS : ∀ j, w.frozen? ⟨M.S, j, none⟩ = false
  od : ∀ i, i < M.R.L.length → Rd w (M.oh i).a (M.oh i).n 1 ((ordE (evA M.R i)).map enc1)
  kl : M.K ≤ w.heap.size
  jl : s.j.length = M.R.L.length
  al : at_.length = M.R.L.length
  lb : Below M.w0.heap.size M.w0 w
theorem Rd.cells {w w' : World} {a : Option Addr} {n k : Nat} {xs : List (List Value)} (h : Rd w a n k xs) (hb : w.heap.size ≤ w'.heap.size) (hc : ∀ ad, a = some ad → ∀ j, w'.cell? ⟨ad.block, j, none⟩ = w.cell? ⟨ad.block, j, none⟩) : Rd w' a n k xs := by
  obtain ⟨h1, h2, h3⟩ := h
  refine ⟨h1, h2, fun hn => ?_⟩
  obtain ⟨b, off, e, hbl, hx⟩ := h3 hn
  exact ⟨b, off, e, Nat.lt_of_lt_of_le hbl hb, fun i hi j hj => (hc _ e _).trans (hx i hi j hj)⟩
section
variable {M : RPar} {w w' : World} {s s' : Ms} {at_ at' : List Nat}
theorem PlM.same (h : PlM M w s at_) (ho : s'.o = s.o) (hj : s'.j = s.j) : PlM M w s' at_ :=
  ⟨h.c0, h.c1, h.c2, h.c3, h.c4, h.c5, h.c6, h.c7, h.fp, by rw [ho]; exact h.en, h.rk, fun i hi j hj6 => by
    have : s'.ja i = s.ja i := by unfold Ms.ja; rw [hj]
    rw [this]; exact h.sb i hi j hj6, h.fS, h.od, h.kl, by rw [hj]; exact h.jl, h.al, h.lb⟩
theorem PlM.ext (h : PlM M w s at_) (hl : RLay M) (hb : Below w.heap.size w w') : PlM M w' s at_ := by
  have hk := h.kl
  obtain ⟨p1, p2⟩ := hl.p
  obtain ⟨s1, s2⟩ := hl.S
  obtain ⟨r1, r2⟩ := hl.r
  have cp : ∀ j, w'.cell? ⟨M.p, j, none⟩ = w.cell? ⟨M.p, j, none⟩ := fun j => hb.cell (p := ⟨M.p, j, none⟩) (by simp only []; omega)
  refine ⟨(cp 0).trans h.c0, (cp 1).trans h.c1, (cp 2).trans h.c2, (cp 3).trans h.c3, (cp 4).trans h.c4, (cp 5).trans h.c5, (cp 6).trans h.c6, (cp 7).trans h.c7,
    fun j => (hb.frozen (p := ⟨M.p, j, none⟩) (by simp only []; omega)).trans (h.fp j), ?_, fun i hi => (hb.cell (p := ⟨M.rb, i, none⟩) (by simp only []; omega)).trans (h.rk i hi),
    fun i hi j hj => (hb.cell (p := ⟨M.S, i * 6 + j, none⟩) (by simp only []; omega)).trans (h.sb i hi j hj), fun j => (hb.frozen (p := ⟨M.S, j, none⟩) (by simp only []; omega)).trans (h.fS j),
    fun i hi => (h.od i hi).ext hb, Nat.le_trans hk hb.size, h.jl, h.al, h.lb.trans (hb.mono (by omega))⟩
  obtain ⟨a, m, c, g1, g2⟩ := h.en
  exact ⟨a, m, c, (cp 8).trans g1, owns_ext g2 hb⟩
/-- an entry has been laid -/
theorem PlM.entry (h : PlM M w s at_) (hl : RLay M) {a a' : Option Addr} {m c c' : Nat} {e : En} {o : Obj} (h1 : w.cell? ⟨M.p, 8, none⟩ = some (.slice a m c)) (h2 : w.ownsRow M.K 58 5 (.slice a m c) m (s.o.flatMap encE))
    (hown : w'.ownsRow M.K 58 5 (.slice a' (m + 1) c') (m + 1) (s.o.flatMap encE ++ encE e)) (hg : (w.alloc o).grownBy w' (Value.slice a m c).ownBlock) :
    PlM M (w'.setCell ⟨M.p, 8, none⟩ (.slice a' (m + 1) c')) (s.wr e) at_ := by
  have hk := h.kl
  obtain ⟨p1, p2⟩ := hl.p
  have hb : Below M.K w w' := ((Below.refl M.K w).alloc hk o).trans (grown_below (h2.alloc o) hg (by rw [World.size_alloc]; omega))
  have h9 : w'.cell? ⟨M.p, 8, none⟩ = some (.slice a m c) := (hb.cell (p := ⟨M.p, 8, none⟩) p2).trans h1
  have cp : ∀ j, j ≠ 8 → (w'.setCell ⟨M.p, 8, none⟩ (.slice a' (m + 1) c')).cell? ⟨M.p, j, none⟩ = w.cell? ⟨M.p, j, none⟩ := fun j hj => (World.cell?_setCell_other _ _ _ _ (addr_neS (.inr (fun q => hj q.symm)))).trans (hb.cell (p := ⟨M.p, j, none⟩) p2)
  have co : ∀ b j, b ≠ M.p → b < M.K → (w'.setCell ⟨M.p, 8, none⟩ (.slice a' (m + 1) c')).cell? ⟨b, j, none⟩ = w.cell? ⟨b, j, none⟩ := fun b j hbp hbk => (World.cell?_setCell_other _ _ _ _ (addr_neS (.inl (fun q => hbp q.symm)))).trans (hb.cell (p := ⟨b, j, none⟩) hbk)
  obtain ⟨n1, n2, n3⟩ := hl.ne
  refine ⟨(cp 0 (by decide)).trans h.c0, (cp 1 (by decide)).trans h.c1, (cp 2 (by decide)).trans h.c2, (cp 3 (by decide)).trans h.c3, (cp 4 (by decide)).trans h.c4, (cp 5 (by decide)).trans h.c5, (cp 6 (by decide)).trans h.c6, (cp 7 (by decide)).trans h.c7,
    fun j => by rw [World.frozen?_setCell]; exact (hb.frozen (p := ⟨M.p, j, none⟩) p2).trans (h.fp j), ⟨a', m + 1, c', World.cell?_setCell_same _ _ _ h9, ?_⟩,
    fun i hi => (co M.rb i (fun q => n2 q.symm) hl.r.2).trans (h.rk i hi), fun i hi j hj => (co M.S _ (fun q => n1 q.symm) hl.S.2).trans (h.sb i hi j hj), fun j => by rw [World.frozen?_setCell]; exact (hb.frozen (p := ⟨M.S, j, none⟩) hl.S.2).trans (h.fS j),
    fun i hi => (h.od i hi).cells (by have := hb.size; simp; omega) (fun ad had j => ?_), by have := hb.size; simp; omega, h.jl, h.al, (h.lb.trans (hb.mono (by omega))).setCell (p := ⟨M.p, 8, none⟩) p1 _⟩
  · have : (s.wr e).o.flatMap encE = s.o.flatMap encE ++ encE e := by simp [Ms.wr]
    rw [this]
    exact owns_far hown p2 _
  · obtain ⟨q1, q2, q3⟩ := hl.o i hi ad had
    exact co _ _ q2 q1
/-- a cell of a state has been laid -/
theorem PlM.cell (h : PlM M w s at_) (hl : RLay M) {i : Nat} (hi : i < M.R.L.length) {j : Nat} (hj : j < 6) {v : Value} {a : Nat} {b : Jb} (he : encS (M.oh i) a b = (encS (M.oh i) (atA at_ i) (s.ja i)).set j v) :
    PlM M (w.setCell ⟨M.S, i * 6 + j, none⟩ v) { s with j := s.j.set i b } (at_.set i a) := by
  have hk := h.kl
  obtain ⟨n1, n2, n3⟩ := hl.ne
  have co : ∀ b k, b ≠ M.S → (w.setCell ⟨M.S, i * 6 + j, none⟩ v).cell? ⟨b, k, none⟩ = w.cell? ⟨b, k, none⟩ := fun b k hb => World.cell?_setCell_other _ _ _ _ (addr_neS (.inl (fun q => hb q.symm)))
  have cp := fun k => co M.p k n1
  refine ⟨(cp 0).trans h.c0, (cp 1).trans h.c1, (cp 2).trans h.c2, (cp 3).trans h.c3, (cp 4).trans h.c4, (cp 5).trans h.c5, (cp 6).trans h.c6, (cp 7).trans h.c7,
    fun k => by rw [World.frozen?_setCell]; exact h.fp k, ?_, fun k hk => (co M.rb k (fun q => n3 q.symm)).trans (h.rk k hk), fun k hk k' hk6 => ?_, fun k => by rw [World.frozen?_setCell]; exact h.fS k,
    fun k hk => (h.od k hk).cells (by simp) (fun ad had x => co _ _ (hl.o k hk ad had).2.2), by simpa using hk, by simpa using h.jl, by simpa using h.al, h.lb.setCell (p := ⟨M.S, i * 6 + j, none⟩) hl.S.1 _⟩
  · obtain ⟨a, m, c, g1, g2⟩ := h.en
    exact ⟨a, m, c, (cp 8).trans g1, owns_far g2 hl.S.2 _⟩
  · rw [ja_set (by rw [h.jl]; exact hi), atA_set (by rw [h.al]; exact hi)]
    by_cases e : k = i
    · subst e
      rw [if_pos rfl, if_pos rfl, he, List.getElem?_set]
      by_cases e2 : j = k'
      · subst e2
        rw [if_pos rfl, if_pos (by simpa [encS] using hj)]
        have := h.sb k hk j hj
        have hlt : j < (encS (M.oh k) (atA at_ k) (s.ja k)).length := by simpa [encS] using hj
        rw [List.getElem?_eq_getElem hlt] at this
        exact World.cell?_setCell_same _ _ _ this
      · rw [if_neg e2]
        exact (World.cell?_setCell_other _ _ _ _ (addr_neS (.inr (by omega)))).trans (h.sb k hk k' hk6)
    · rw [if_neg e, if_neg e]
      exact (World.cell?_setCell_other _ _ _ _ (addr_neS (.inr (by omega)))).trans (h.sb k hk k' hk6)
theorem PlM.scells (h : PlM M w s at_) {i : Nat} (hi : i < M.R.L.length) :
    w.cell? ⟨M.S, i * 6, none⟩ = some (.slice (M.oh i).a (M.oh i).n (M.oh i).c) ∧ w.cell? ⟨M.S, i * 6 + 1, none⟩ = some (.int .i64 (atA at_ i : Int)) ∧ w.cell? ⟨M.S, i * 6 + 2, none⟩ = some (.int .i64 ((s.ja i).p : Int)) ∧ w.cell? ⟨M.S, i * 6 + 3, none⟩ = some (.int .i64 ((s.ja i).t : Int)) ∧ w.cell? ⟨M.S, i * 6 + 4, none⟩ = some (.int .i64 ((s.ja i).d : Int)) ∧ w.cell? ⟨M.S, i * 6 + 5, none⟩ = some (.bool (s.ja i).s) :=
  ⟨h.sb i hi 0 (by decide), h.sb i hi 1 (by decide), h.sb i hi 2 (by decide), h.sb i hi 3 (by decide), h.sb i hi 4 (by decide), h.sb i hi 5 (by decide)⟩
theorem PlM.int (h : PlM M w s at_) {R : Rn} (hr : RdRun M.w0 M.H R) : RdRun w M.H R := hr.ext h.lb
end
end Go.Proofs.YtlhnhmimhpcoaaaGreat
