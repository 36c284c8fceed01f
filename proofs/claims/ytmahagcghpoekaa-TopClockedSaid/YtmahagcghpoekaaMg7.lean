/- The contracts of Valid, is and Simulate of the program. The conditions: the run reads as named. What the laws of the chapter call: sane. No condition. From what a row says of an argument, its reach with it, to what the walks use. No condition: plain lemmas. From what a row says of an argument to what the walks use. No condition: plain lemmas. From what a row says of tasks to what the walks use. No condition: plain lemmas. From what a row says of a list of events, its reach with it, to what the walks use. No condition: plain lemmas. From what a row says of a run to what the walks use. No condition: plain lemmas. The contract of heavy, as, entries of the law's package. The conditions: the run reads as named and its parts are not of all lengths. The contract of Valid of the reference. The conditions: the run reads as named. The contracts of as, entries; of the reference's Simulate on runs that are not valid. The conditions: the run reads as named. -/
import Derived.Test.YtmahagcghpoekaaMg6
import Derived.Test.YtmahagcghpoekaaMg5
import Derived.Deep.RegionHeld3
import Derived.Test.YtmahagcghpoekaaMg1
import Derived.SizedLaws
import Derived.Test.YtmahagcghpoekaaMg3
namespace Go.Proofs.Ytmahagcghpoekaa
open Go.RowKit
set_option linter.unusedSimpArgs false
set_option linter.unusedVariables false
/-- a run that is valid -/
def runB (R : Rn) : Bool := validL R.L && (supB R.fr R.sl && (decide (R.ev.length = R.L.length) && (decide (R.bu.length = R.L.length) && (decide (R.sg.length ≤ 40) && (R.ev.all evB && (R.bu.all (fun b => inB b 0 1000) && R.sg.all (sgB R.L.length)))))))
structure ReadRun (w : World) (H : RunH) (R : Rn) : Prop where
  t : RdL w H.tA H.tN R.L
  e : EvL w H.eA H.eN R.ev
  b : Rd w H.bA H.bN 1 (R.bu.map enc1)
  s : Rd w H.sA H.sN 2 (R.sg.map enc2)
theorem ReadRun.ext {w w' : World} {H : RunH} {R : Rn} (h : ReadRun w H R) (hb : Below w.heap.size w w') : ReadRun w' H R := ⟨h.t.ext hb, h.e.ext hb, h.b.ext hb, h.s.ext hb⟩
theorem EvL.evs {w : World} {a : Option Addr} {n : Nat} {evs : List (List P2)} (h : EvL w a n evs) : Evs w a n evs := by
  obtain ⟨g, h1, h2, rfl⟩ := h
  have hl : g.length = n := by simpa using h1.length
  refine ⟨by simpa using hl, h1.small, fun k hk => ?_⟩
  obtain ⟨v, b, off, e, hb, hc, _, hg, _⟩ := h1.nextK k hk
  have c0 := hc 0 (by omega)
  simp [encV] at c0
  refine ⟨b, off, v.a, v.n, v.c, e, hb, c0, ?_⟩
  have : evAt (g.map EvV.es) k = v.es := by unfold evAt; rw [List.getElem?_map, hg]; rfl
  rw [this]
  exact h2 v (List.mem_of_getElem? hg)
theorem ReadRun.rd {w : World} {H : RunH} {R : Rn} (h : ReadRun w H R) : RdRun w H R := ⟨h.t, h.e.evs, h.b, h.s⟩
theorem okFrom_mem : ∀ (l : List P2) (p : Option Int), okFrom p l = true → ∀ e ∈ l, (0 ≤ e.1 ∧ e.1 ≤ 1000000) ∧ (0 ≤ e.2 ∧ e.2 ≤ 1000000)
  | [], _, _, e, he => by simp at he
  | x :: l, p, h, e, he => by
    rw [okFrom] at h
    simp only [Bool.and_eq_true, inB_iff] at h
    rcases List.mem_cons.1 he with rfl | he
    · exact ⟨h.1.1.1, h.1.1.2⟩
    · exact okFrom_mem l _ h.2 e he
theorem run_ok {R : Rn} (h : runB R = true) : RnOk R ∧ validL R.L = true ∧ supB R.fr R.sl = true ∧ (∀ l ∈ R.ev, evB l = true) := by
  unfold runB at h
  simp only [Bool.and_eq_true, decide_eq_true_eq, List.all_eq_true] at h
  obtain ⟨h1, h2, h3, h4, h5, h6, h7, h8⟩ := h
  refine ⟨⟨(valid_of h1).r, (supB_iff.1 h2).1.1, h3, h4, fun l hl => ?_, h5, fun g hg => ?_, fun b hb => inB_iff.1 (h7 b hb)⟩, h1, h2, h6⟩
  · have := h6 l hl
    unfold evB at this
    rw [Bool.and_eq_true, decide_eq_true_eq] at this
    exact ⟨this.2, okFrom_mem l _ this.1⟩
  · have := h8 g hg
    unfold sgB at this
    rw [Bool.and_eq_true, inB_iff, inB_iff] at this
    omega
abbrev runV (H : RunH) (fr sl_ : Int) : Value := .agg #[.slice H.tA H.tN H.tC, .int .i64 fr, .int .i64 sl_, .slice H.eA H.eN H.eC, .slice H.bA H.bN H.bC, .slice H.sA H.sN H.sC]
set_option maxRecDepth 10000 in
set_option maxHeartbeats 4000000 in
theorem Valid_run (H : RunH) (R : Rn) (w : World) (hR : ReadRun w H R) : Calls Try.prog 60 #[runV H R.fr R.sl] w fun e w' => e = .returned (.bool (runB R)) ∧ Below w.heap.size w w' := by
  have h1 := hR.t.length
  have h2 := hR.e.evs.len
  have h3 := hR.b.length
  have h4 := hR.s.length
  have s1 := hR.t.small; have s2 := hR.e.evs.sm; have s3 := hR.b.small; have s4 := hR.s.small
  have HR := Lib.hid hR
  obtain ⟨B, hB⟩ : ∃ B, runB R = B := ⟨_, rfl⟩
  rw [hB]
  unfold runB at hB
  rw [h1, h2, h3, h4] at hB
  obtain ⟨V1, e1⟩ : ∃ x, validL R.L = x := ⟨_, rfl⟩
  obtain ⟨V2, e2⟩ : ∃ x, supB R.fr R.sl = x := ⟨_, rfl⟩
  obtain ⟨V6, e6⟩ : ∃ x, R.ev.all evB = x := ⟨_, rfl⟩
  obtain ⟨V7, e7⟩ : ∃ x, R.bu.all (fun b => inB b 0 1000) = x := ⟨_, rfl⟩
  obtain ⟨V8, e8⟩ : ∃ x, R.sg.all (sgB H.tN) = x := ⟨_, rfl⟩
  rw [e1, e2, e6, e7, e8] at hB
  have E1' := Lib.hid e1; have E2' := Lib.hid e2; have E6 := Lib.hid e6; have E7 := Lib.hid e7; have E8 := Lib.hid e8
  obtain ⟨fr, hfr⟩ : ∃ x, R.fr = x := ⟨_, rfl⟩
  obtain ⟨sl_, hsl⟩ : ∃ x, R.sl = x := ⟨_, rfl⟩
  rw [hfr, hsl]
  rw [hfr, hsl] at E2'
  have HC6 : Hid (∀ w1 : World, Below w.heap.size w w1 → Calls Try.prog 86 #[.slice H.eA H.eN H.eC, .func (.func 87) #[] #[]] w1 fun e w' => e = .returned (.bool (!V6)) ∧ Below w1.heap.size w1 w') := Lib.hid (fun w1 hb => by
    obtain ⟨g, hg1, hg2, hg3⟩ := (HR.out.ext hb).e
    have := ev_con 87 #[] (fun v => !evB v.es) H.eA H.eN H.eC g w1 hg1 ⟨fun args w => by kernel_rfl, fun x hx w' hb' => v3_any x w' ((hg2 x hx).ext hb')⟩
    rw [any_not (fun v : EvV => evB v.es)] at this
    have e : g.all (fun v => evB v.es) = V6 := by rw [← E6.out, ← hg3, List.all_map]; rfl
    rw [e] at this
    exact this)
  have HC7 : Hid (∀ w1 : World, Below w.heap.size w w1 → Calls Try.prog 89 #[.slice H.bA H.bN H.bC, .func (.func 84) #[] #[]] w1 fun e w' => e = .returned (.bool (!V7)) ∧ Below w1.heap.size w1 w') := Lib.hid (fun w1 hb => by
    have := bi_con 84 #[] (fun x => !inB x 0 1000) H.bA H.bN H.bC R.bu w1 (HR.out.ext hb).b ⟨fun args w => by kernel_rfl, fun x hx w' hb' => v1_any x w'⟩
    rw [any_not (fun x : Int => inB x 0 1000), E7.out] at this
    exact this)
  have HC8 : H.tN ≤ 1000 → Hid (∀ w1 : World, Below w.heap.size w w1 → ∀ q, q < w1.heap.size → w1.cell? ⟨q, 0, none⟩ = some (.int .i64 (H.tN : Int)) → Calls Try.prog 90 #[.slice H.sA H.sN H.sC, .func (.func 85) #[] #[.pointer (some ⟨q, 0, none⟩)]] w1 fun e w' => e = .returned (.bool (!V8)) ∧ Below w1.heap.size w1 w') := fun hn => Lib.hid (fun w1 hb q hq hc => by
    have := sgp_con 85 #[.pointer (some ⟨q, 0, none⟩)] (fun g => !sgB H.tN g) H.sA H.sN H.sC R.sg w1 (HR.out.ext hb).s ⟨fun args w => by kernel_rfl, fun x hx w' hb' => v2_any x q H.tN hn w' (Nat.lt_of_lt_of_le hq hb'.size) ((hb'.cell (p := ⟨q, 0, none⟩) hq).trans hc)⟩
    rw [any_not (fun g : P2 => sgB H.tN g), E8.out] at this
    exact this)
  have HT := Lib.hid hR.t
  obtain ⟨tA, tN, tC, eA, eN, eC, bA, bN, bC, sA, sN, sC⟩ := H
  simp only [] at h1 h2 h3 h4 s1 s2 s3 s4 hB HC6 HC7 HC8 HT
  unfold runV
  simp only []
  have HH1 := Lib.hid h1
  clear hR HR e1 e2 e6 e7 e8 E6 E7 E8 hfr hsl h1 h2 h3 h4
  have HV := Lib.hid E1'
  cases V1
  · obtain rfl : B = false := by simpa using hB.symm
    clear hB HV HC6 HC7 HC8
    go_enter Try.func60, Try.ntmps60
    go_wp2_with (go_at_call 77; (with_reducible refine (valid_is (HT.out.ext (by (repeat' (first | (with_reducible exact Below.refl _ _) | (with_reducible assumption) | (with_reducible refine Below.alloc ?_ ?_ _) | (with_reducible refine Below.drew ?_) | (with_reducible refine Below.draws ?_ _) | (with_reducible refine Below.setCell ?_ ?_ _) | (refine Below.then ?_ (by with_reducible assumption)) | go_size)))) E1'.out).mono ?_); rintro e w2 ⟨rfl, hb2⟩)
    go_ret
    exact ⟨rfl, Below.trans (by (repeat' (first | (with_reducible exact Below.refl _ _) | (with_reducible assumption) | (with_reducible refine Below.alloc ?_ ?_ _) | (with_reducible refine Below.drew ?_) | (with_reducible refine Below.draws ?_ _) | (with_reducible refine Below.setCell ?_ ?_ _) | (refine Below.then ?_ (by with_reducible assumption)) | go_size))) (hb2.mono (by simp; omega))⟩
  · cases V2
    · obtain rfl : B = false := by simpa using hB.symm
      clear hB HV HC6 HC7 HC8
      go_enter Try.func60, Try.ntmps60
      go_wp2_with (first
        | (go_at_call 77; (with_reducible refine (valid_is (HT.out.ext (by (repeat' (first | (with_reducible exact Below.refl _ _) | (with_reducible assumption) | (with_reducible refine Below.alloc ?_ ?_ _) | (with_reducible refine Below.drew ?_) | (with_reducible refine Below.draws ?_ _) | (with_reducible refine Below.setCell ?_ ?_ _) | (refine Below.then ?_ (by with_reducible assumption)) | go_size)))) E1'.out).mono ?_); rintro e w2 ⟨rfl, hb2⟩; have B2 : Hid (Below w.heap.size w w2) := Lib.hid (Below.trans (by (repeat' (first | (with_reducible exact Below.refl _ _) | (with_reducible assumption) | (with_reducible refine Below.alloc ?_ ?_ _) | (with_reducible refine Below.drew ?_) | (with_reducible refine Below.draws ?_ _) | (with_reducible refine Below.setCell ?_ ?_ _) | (refine Below.then ?_ (by with_reducible assumption)) | go_size))) (hb2.mono (by simp; omega))); have z2 : w.heap.size + 1 < w2.heap.size := Nat.lt_of_lt_of_le (by simp) hb2.size; have c0 := (hb2.cell (p := ⟨w.heap.size, 0, none⟩) (by simp; omega)).trans (by simp [go_sem]; rfl); have c1 := (hb2.cell (p := ⟨w.heap.size, 1, none⟩) (by simp; omega)).trans (by simp [go_sem]; rfl); have c2 := (hb2.cell (p := ⟨w.heap.size, 2, none⟩) (by simp; omega)).trans (by simp [go_sem]; rfl); have c3 := (hb2.cell (p := ⟨w.heap.size, 3, none⟩) (by simp; omega)).trans (by simp [go_sem]; rfl); have c4 := (hb2.cell (p := ⟨w.heap.size, 4, none⟩) (by simp; omega)).trans (by simp [go_sem]; rfl); have c5 := (hb2.cell (p := ⟨w.heap.size, 5, none⟩) (by simp; omega)).trans (by simp [go_sem]; rfl); have cn := (hb2.cell (p := ⟨w.heap.size + 1, 0, none⟩) (by simp)).trans (by simp [go_sem]; rfl); clear hb2)
        | (go_at_call 34; (with_reducible refine (supV_is E2'.out).mono ?_); rintro e w3 ⟨rfl, hb3⟩; have B3 := Lib.hid (Below.then B2.out hb3); have z3 : w.heap.size + 1 < w3.heap.size := Nat.lt_of_lt_of_le z2 hb3.size; have d0 := (hb3.cell (p := ⟨w.heap.size, 0, none⟩) (by simp only []; omega)).trans c0; have d1 := (hb3.cell (p := ⟨w.heap.size, 1, none⟩) (by simp only []; omega)).trans c1; have d2 := (hb3.cell (p := ⟨w.heap.size, 2, none⟩) (by simp only []; omega)).trans c2; have d3 := (hb3.cell (p := ⟨w.heap.size, 3, none⟩) (by simp only []; omega)).trans c3; have d4 := (hb3.cell (p := ⟨w.heap.size, 4, none⟩) (by simp only []; omega)).trans c4; have d5 := (hb3.cell (p := ⟨w.heap.size, 5, none⟩) (by simp only []; omega)).trans c5; have dn := (hb3.cell (p := ⟨w.heap.size + 1, 0, none⟩) z2).trans cn; clear hb3))
      go_ret
      exact ⟨rfl, B3.out⟩
    · have hn5 : tN ≤ 5 := by rw [← HH1.out]; exact (valid_of E1'.out).r.len
      have HC8' := HC8 (by omega)
      clear HV HC8
      by_cases q3 : eN = tN
      · by_cases q4 : bN = tN
        · by_cases q5 : sN ≤ 40
          · rw [decide_eq_true q3, decide_eq_true q4, decide_eq_true q5] at hB
            have q3' : ((eN : Int) != (tN : Int)) = false := by simp; omega
            have q4' : ((bN : Int) != (tN : Int)) = false := by simp; omega
            have q5' : decide ((40 : Int) < (sN : Int)) = false := by simp; omega
            have hB' : (V6 && (V7 && V8)) = B := by simpa using hB
            clear hB q3 q4
            cases V6
            · obtain rfl : B = false := by simpa using hB'.symm
              clear hB'
              go_enter Try.func60, Try.ntmps60
              go_wp2_with (first
                | (go_at_call 77; (with_reducible refine (valid_is (HT.out.ext (by (repeat' (first | (with_reducible exact Below.refl _ _) | (with_reducible assumption) | (with_reducible refine Below.alloc ?_ ?_ _) | (with_reducible refine Below.drew ?_) | (with_reducible refine Below.draws ?_ _) | (with_reducible refine Below.setCell ?_ ?_ _) | (refine Below.then ?_ (by with_reducible assumption)) | go_size)))) E1'.out).mono ?_); rintro e w2 ⟨rfl, hb2⟩; have B2 : Hid (Below w.heap.size w w2) := Lib.hid (Below.trans (by (repeat' (first | (with_reducible exact Below.refl _ _) | (with_reducible assumption) | (with_reducible refine Below.alloc ?_ ?_ _) | (with_reducible refine Below.drew ?_) | (with_reducible refine Below.draws ?_ _) | (with_reducible refine Below.setCell ?_ ?_ _) | (refine Below.then ?_ (by with_reducible assumption)) | go_size))) (hb2.mono (by simp; omega))); have z2 : w.heap.size + 1 < w2.heap.size := Nat.lt_of_lt_of_le (by simp) hb2.size; have c0 := (hb2.cell (p := ⟨w.heap.size, 0, none⟩) (by simp; omega)).trans (by simp [go_sem]; rfl); have c1 := (hb2.cell (p := ⟨w.heap.size, 1, none⟩) (by simp; omega)).trans (by simp [go_sem]; rfl); have c2 := (hb2.cell (p := ⟨w.heap.size, 2, none⟩) (by simp; omega)).trans (by simp [go_sem]; rfl); have c3 := (hb2.cell (p := ⟨w.heap.size, 3, none⟩) (by simp; omega)).trans (by simp [go_sem]; rfl); have c4 := (hb2.cell (p := ⟨w.heap.size, 4, none⟩) (by simp; omega)).trans (by simp [go_sem]; rfl); have c5 := (hb2.cell (p := ⟨w.heap.size, 5, none⟩) (by simp; omega)).trans (by simp [go_sem]; rfl); have cn := (hb2.cell (p := ⟨w.heap.size + 1, 0, none⟩) (by simp)).trans (by simp [go_sem]; rfl); clear hb2)
                | (go_at_call 34; (with_reducible refine (supV_is E2'.out).mono ?_); rintro e w3 ⟨rfl, hb3⟩; have B3 := Lib.hid (Below.then B2.out hb3); have z3 : w.heap.size + 1 < w3.heap.size := Nat.lt_of_lt_of_le z2 hb3.size; have d0 := (hb3.cell (p := ⟨w.heap.size, 0, none⟩) (by simp only []; omega)).trans c0; have d1 := (hb3.cell (p := ⟨w.heap.size, 1, none⟩) (by simp only []; omega)).trans c1; have d2 := (hb3.cell (p := ⟨w.heap.size, 2, none⟩) (by simp only []; omega)).trans c2; have d3 := (hb3.cell (p := ⟨w.heap.size, 3, none⟩) (by simp only []; omega)).trans c3; have d4 := (hb3.cell (p := ⟨w.heap.size, 4, none⟩) (by simp only []; omega)).trans c4; have d5 := (hb3.cell (p := ⟨w.heap.size, 5, none⟩) (by simp only []; omega)).trans c5; have dn := (hb3.cell (p := ⟨w.heap.size + 1, 0, none⟩) z2).trans cn; clear hb3)
                | (go_at_call 86; (with_reducible refine (HC6.out _ B3.out).mono ?_); rintro e w4 ⟨rfl, hb4⟩; have B4 := Lib.hid (Below.then B3.out hb4); have z4 : w.heap.size + 1 < w4.heap.size := Nat.lt_of_lt_of_le z3 hb4.size; have f0 := (hb4.cell (p := ⟨w.heap.size, 0, none⟩) (by simp only []; omega)).trans d0; have f1 := (hb4.cell (p := ⟨w.heap.size, 1, none⟩) (by simp only []; omega)).trans d1; have f2 := (hb4.cell (p := ⟨w.heap.size, 2, none⟩) (by simp only []; omega)).trans d2; have f3 := (hb4.cell (p := ⟨w.heap.size, 3, none⟩) (by simp only []; omega)).trans d3; have f4 := (hb4.cell (p := ⟨w.heap.size, 4, none⟩) (by simp only []; omega)).trans d4; have f5 := (hb4.cell (p := ⟨w.heap.size, 5, none⟩) (by simp only []; omega)).trans d5; have fn := (hb4.cell (p := ⟨w.heap.size + 1, 0, none⟩) z3).trans dn; clear hb4))
              go_ret
              exact ⟨rfl, B4.out⟩
            · cases V7
              · obtain rfl : B = false := by simpa using hB'.symm
                clear hB'
                go_enter Try.func60, Try.ntmps60
                go_wp2_with (first
                  | (go_at_call 77; (with_reducible refine (valid_is (HT.out.ext (by (repeat' (first | (with_reducible exact Below.refl _ _) | (with_reducible assumption) | (with_reducible refine Below.alloc ?_ ?_ _) | (with_reducible refine Below.drew ?_) | (with_reducible refine Below.draws ?_ _) | (with_reducible refine Below.setCell ?_ ?_ _) | (refine Below.then ?_ (by with_reducible assumption)) | go_size)))) E1'.out).mono ?_); rintro e w2 ⟨rfl, hb2⟩; have B2 : Hid (Below w.heap.size w w2) := Lib.hid (Below.trans (by (repeat' (first | (with_reducible exact Below.refl _ _) | (with_reducible assumption) | (with_reducible refine Below.alloc ?_ ?_ _) | (with_reducible refine Below.drew ?_) | (with_reducible refine Below.draws ?_ _) | (with_reducible refine Below.setCell ?_ ?_ _) | (refine Below.then ?_ (by with_reducible assumption)) | go_size))) (hb2.mono (by simp; omega))); have z2 : w.heap.size + 1 < w2.heap.size := Nat.lt_of_lt_of_le (by simp) hb2.size; have c0 := (hb2.cell (p := ⟨w.heap.size, 0, none⟩) (by simp; omega)).trans (by simp [go_sem]; rfl); have c1 := (hb2.cell (p := ⟨w.heap.size, 1, none⟩) (by simp; omega)).trans (by simp [go_sem]; rfl); have c2 := (hb2.cell (p := ⟨w.heap.size, 2, none⟩) (by simp; omega)).trans (by simp [go_sem]; rfl); have c3 := (hb2.cell (p := ⟨w.heap.size, 3, none⟩) (by simp; omega)).trans (by simp [go_sem]; rfl); have c4 := (hb2.cell (p := ⟨w.heap.size, 4, none⟩) (by simp; omega)).trans (by simp [go_sem]; rfl); have c5 := (hb2.cell (p := ⟨w.heap.size, 5, none⟩) (by simp; omega)).trans (by simp [go_sem]; rfl); have cn := (hb2.cell (p := ⟨w.heap.size + 1, 0, none⟩) (by simp)).trans (by simp [go_sem]; rfl); clear hb2)
                  | (go_at_call 34; (with_reducible refine (supV_is E2'.out).mono ?_); rintro e w3 ⟨rfl, hb3⟩; have B3 := Lib.hid (Below.then B2.out hb3); have z3 : w.heap.size + 1 < w3.heap.size := Nat.lt_of_lt_of_le z2 hb3.size; have d0 := (hb3.cell (p := ⟨w.heap.size, 0, none⟩) (by simp only []; omega)).trans c0; have d1 := (hb3.cell (p := ⟨w.heap.size, 1, none⟩) (by simp only []; omega)).trans c1; have d2 := (hb3.cell (p := ⟨w.heap.size, 2, none⟩) (by simp only []; omega)).trans c2; have d3 := (hb3.cell (p := ⟨w.heap.size, 3, none⟩) (by simp only []; omega)).trans c3; have d4 := (hb3.cell (p := ⟨w.heap.size, 4, none⟩) (by simp only []; omega)).trans c4; have d5 := (hb3.cell (p := ⟨w.heap.size, 5, none⟩) (by simp only []; omega)).trans c5; have dn := (hb3.cell (p := ⟨w.heap.size + 1, 0, none⟩) z2).trans cn; clear hb3)
                  | (go_at_call 86; (with_reducible refine (HC6.out _ B3.out).mono ?_); rintro e w4 ⟨rfl, hb4⟩; have B4 := Lib.hid (Below.then B3.out hb4); have z4 : w.heap.size + 1 < w4.heap.size := Nat.lt_of_lt_of_le z3 hb4.size; have f0 := (hb4.cell (p := ⟨w.heap.size, 0, none⟩) (by simp only []; omega)).trans d0; have f1 := (hb4.cell (p := ⟨w.heap.size, 1, none⟩) (by simp only []; omega)).trans d1; have f2 := (hb4.cell (p := ⟨w.heap.size, 2, none⟩) (by simp only []; omega)).trans d2; have f3 := (hb4.cell (p := ⟨w.heap.size, 3, none⟩) (by simp only []; omega)).trans d3; have f4 := (hb4.cell (p := ⟨w.heap.size, 4, none⟩) (by simp only []; omega)).trans d4; have f5 := (hb4.cell (p := ⟨w.heap.size, 5, none⟩) (by simp only []; omega)).trans d5; have fn := (hb4.cell (p := ⟨w.heap.size + 1, 0, none⟩) z3).trans dn; clear hb4)
                  | (go_at_call 89; (with_reducible refine (HC7.out _ B4.out).mono ?_); rintro e w5 ⟨rfl, hb5⟩; have B5 := Lib.hid (Below.then B4.out hb5); have z5 : w.heap.size + 1 < w5.heap.size := Nat.lt_of_lt_of_le z4 hb5.size; have g0 := (hb5.cell (p := ⟨w.heap.size, 0, none⟩) (by simp only []; omega)).trans f0; have g1 := (hb5.cell (p := ⟨w.heap.size, 1, none⟩) (by simp only []; omega)).trans f1; have g2 := (hb5.cell (p := ⟨w.heap.size, 2, none⟩) (by simp only []; omega)).trans f2; have g3 := (hb5.cell (p := ⟨w.heap.size, 3, none⟩) (by simp only []; omega)).trans f3; have g4 := (hb5.cell (p := ⟨w.heap.size, 4, none⟩) (by simp only []; omega)).trans f4; have g5 := (hb5.cell (p := ⟨w.heap.size, 5, none⟩) (by simp only []; omega)).trans f5; have gn := (hb5.cell (p := ⟨w.heap.size + 1, 0, none⟩) z4).trans fn; clear hb5))
                go_ret
                exact ⟨rfl, B5.out⟩
              · obtain rfl : V8 = B := by simpa using hB'
                clear hB'
                cases V8
                · 
                  go_enter Try.func60, Try.ntmps60
                  go_wp2_with (first
                    | (go_at_call 77; (with_reducible refine (valid_is (HT.out.ext (by (repeat' (first | (with_reducible exact Below.refl _ _) | (with_reducible assumption) | (with_reducible refine Below.alloc ?_ ?_ _) | (with_reducible refine Below.drew ?_) | (with_reducible refine Below.draws ?_ _) | (with_reducible refine Below.setCell ?_ ?_ _) | (refine Below.then ?_ (by with_reducible assumption)) | go_size)))) E1'.out).mono ?_); rintro e w2 ⟨rfl, hb2⟩; have B2 : Hid (Below w.heap.size w w2) := Lib.hid (Below.trans (by (repeat' (first | (with_reducible exact Below.refl _ _) | (with_reducible assumption) | (with_reducible refine Below.alloc ?_ ?_ _) | (with_reducible refine Below.drew ?_) | (with_reducible refine Below.draws ?_ _) | (with_reducible refine Below.setCell ?_ ?_ _) | (refine Below.then ?_ (by with_reducible assumption)) | go_size))) (hb2.mono (by simp; omega))); have z2 : w.heap.size + 1 < w2.heap.size := Nat.lt_of_lt_of_le (by simp) hb2.size; have c0 := (hb2.cell (p := ⟨w.heap.size, 0, none⟩) (by simp; omega)).trans (by simp [go_sem]; rfl); have c1 := (hb2.cell (p := ⟨w.heap.size, 1, none⟩) (by simp; omega)).trans (by simp [go_sem]; rfl); have c2 := (hb2.cell (p := ⟨w.heap.size, 2, none⟩) (by simp; omega)).trans (by simp [go_sem]; rfl); have c3 := (hb2.cell (p := ⟨w.heap.size, 3, none⟩) (by simp; omega)).trans (by simp [go_sem]; rfl); have c4 := (hb2.cell (p := ⟨w.heap.size, 4, none⟩) (by simp; omega)).trans (by simp [go_sem]; rfl); have c5 := (hb2.cell (p := ⟨w.heap.size, 5, none⟩) (by simp; omega)).trans (by simp [go_sem]; rfl); have cn := (hb2.cell (p := ⟨w.heap.size + 1, 0, none⟩) (by simp)).trans (by simp [go_sem]; rfl); clear hb2)
                    | (go_at_call 34; (with_reducible refine (supV_is E2'.out).mono ?_); rintro e w3 ⟨rfl, hb3⟩; have B3 := Lib.hid (Below.then B2.out hb3); have z3 : w.heap.size + 1 < w3.heap.size := Nat.lt_of_lt_of_le z2 hb3.size; have d0 := (hb3.cell (p := ⟨w.heap.size, 0, none⟩) (by simp only []; omega)).trans c0; have d1 := (hb3.cell (p := ⟨w.heap.size, 1, none⟩) (by simp only []; omega)).trans c1; have d2 := (hb3.cell (p := ⟨w.heap.size, 2, none⟩) (by simp only []; omega)).trans c2; have d3 := (hb3.cell (p := ⟨w.heap.size, 3, none⟩) (by simp only []; omega)).trans c3; have d4 := (hb3.cell (p := ⟨w.heap.size, 4, none⟩) (by simp only []; omega)).trans c4; have d5 := (hb3.cell (p := ⟨w.heap.size, 5, none⟩) (by simp only []; omega)).trans c5; have dn := (hb3.cell (p := ⟨w.heap.size + 1, 0, none⟩) z2).trans cn; clear hb3)
                    | (go_at_call 86; (with_reducible refine (HC6.out _ B3.out).mono ?_); rintro e w4 ⟨rfl, hb4⟩; have B4 := Lib.hid (Below.then B3.out hb4); have z4 : w.heap.size + 1 < w4.heap.size := Nat.lt_of_lt_of_le z3 hb4.size; have f0 := (hb4.cell (p := ⟨w.heap.size, 0, none⟩) (by simp only []; omega)).trans d0; have f1 := (hb4.cell (p := ⟨w.heap.size, 1, none⟩) (by simp only []; omega)).trans d1; have f2 := (hb4.cell (p := ⟨w.heap.size, 2, none⟩) (by simp only []; omega)).trans d2; have f3 := (hb4.cell (p := ⟨w.heap.size, 3, none⟩) (by simp only []; omega)).trans d3; have f4 := (hb4.cell (p := ⟨w.heap.size, 4, none⟩) (by simp only []; omega)).trans d4; have f5 := (hb4.cell (p := ⟨w.heap.size, 5, none⟩) (by simp only []; omega)).trans d5; have fn := (hb4.cell (p := ⟨w.heap.size + 1, 0, none⟩) z3).trans dn; clear hb4)
                    | (go_at_call 89; (with_reducible refine (HC7.out _ B4.out).mono ?_); rintro e w5 ⟨rfl, hb5⟩; have B5 := Lib.hid (Below.then B4.out hb5); have z5 : w.heap.size + 1 < w5.heap.size := Nat.lt_of_lt_of_le z4 hb5.size; have g0 := (hb5.cell (p := ⟨w.heap.size, 0, none⟩) (by simp only []; omega)).trans f0; have g1 := (hb5.cell (p := ⟨w.heap.size, 1, none⟩) (by simp only []; omega)).trans f1; have g2 := (hb5.cell (p := ⟨w.heap.size, 2, none⟩) (by simp only []; omega)).trans f2; have g3 := (hb5.cell (p := ⟨w.heap.size, 3, none⟩) (by simp only []; omega)).trans f3; have g4 := (hb5.cell (p := ⟨w.heap.size, 4, none⟩) (by simp only []; omega)).trans f4; have g5 := (hb5.cell (p := ⟨w.heap.size, 5, none⟩) (by simp only []; omega)).trans f5; have gn := (hb5.cell (p := ⟨w.heap.size + 1, 0, none⟩) z4).trans fn; clear hb5)
                    | (go_at_call 90; (with_reducible refine (HC8'.out _ B5.out _ z5 gn).mono ?_); rintro e w6 ⟨rfl, hb6⟩; have B6 := Lib.hid (Below.then B5.out hb6); clear hb6))
                  go_ret
                  exact ⟨rfl, B6.out⟩
                · 
                  go_enter Try.func60, Try.ntmps60
                  go_wp2_with (first
                    | (go_at_call 77; (with_reducible refine (valid_is (HT.out.ext (by (repeat' (first | (with_reducible exact Below.refl _ _) | (with_reducible assumption) | (with_reducible refine Below.alloc ?_ ?_ _) | (with_reducible refine Below.drew ?_) | (with_reducible refine Below.draws ?_ _) | (with_reducible refine Below.setCell ?_ ?_ _) | (refine Below.then ?_ (by with_reducible assumption)) | go_size)))) E1'.out).mono ?_); rintro e w2 ⟨rfl, hb2⟩; have B2 : Hid (Below w.heap.size w w2) := Lib.hid (Below.trans (by (repeat' (first | (with_reducible exact Below.refl _ _) | (with_reducible assumption) | (with_reducible refine Below.alloc ?_ ?_ _) | (with_reducible refine Below.drew ?_) | (with_reducible refine Below.draws ?_ _) | (with_reducible refine Below.setCell ?_ ?_ _) | (refine Below.then ?_ (by with_reducible assumption)) | go_size))) (hb2.mono (by simp; omega))); have z2 : w.heap.size + 1 < w2.heap.size := Nat.lt_of_lt_of_le (by simp) hb2.size; have c0 := (hb2.cell (p := ⟨w.heap.size, 0, none⟩) (by simp; omega)).trans (by simp [go_sem]; rfl); have c1 := (hb2.cell (p := ⟨w.heap.size, 1, none⟩) (by simp; omega)).trans (by simp [go_sem]; rfl); have c2 := (hb2.cell (p := ⟨w.heap.size, 2, none⟩) (by simp; omega)).trans (by simp [go_sem]; rfl); have c3 := (hb2.cell (p := ⟨w.heap.size, 3, none⟩) (by simp; omega)).trans (by simp [go_sem]; rfl); have c4 := (hb2.cell (p := ⟨w.heap.size, 4, none⟩) (by simp; omega)).trans (by simp [go_sem]; rfl); have c5 := (hb2.cell (p := ⟨w.heap.size, 5, none⟩) (by simp; omega)).trans (by simp [go_sem]; rfl); have cn := (hb2.cell (p := ⟨w.heap.size + 1, 0, none⟩) (by simp)).trans (by simp [go_sem]; rfl); clear hb2)
                    | (go_at_call 34; (with_reducible refine (supV_is E2'.out).mono ?_); rintro e w3 ⟨rfl, hb3⟩; have B3 := Lib.hid (Below.then B2.out hb3); have z3 : w.heap.size + 1 < w3.heap.size := Nat.lt_of_lt_of_le z2 hb3.size; have d0 := (hb3.cell (p := ⟨w.heap.size, 0, none⟩) (by simp only []; omega)).trans c0; have d1 := (hb3.cell (p := ⟨w.heap.size, 1, none⟩) (by simp only []; omega)).trans c1; have d2 := (hb3.cell (p := ⟨w.heap.size, 2, none⟩) (by simp only []; omega)).trans c2; have d3 := (hb3.cell (p := ⟨w.heap.size, 3, none⟩) (by simp only []; omega)).trans c3; have d4 := (hb3.cell (p := ⟨w.heap.size, 4, none⟩) (by simp only []; omega)).trans c4; have d5 := (hb3.cell (p := ⟨w.heap.size, 5, none⟩) (by simp only []; omega)).trans c5; have dn := (hb3.cell (p := ⟨w.heap.size + 1, 0, none⟩) z2).trans cn; clear hb3)
                    | (go_at_call 86; (with_reducible refine (HC6.out _ B3.out).mono ?_); rintro e w4 ⟨rfl, hb4⟩; have B4 := Lib.hid (Below.then B3.out hb4); have z4 : w.heap.size + 1 < w4.heap.size := Nat.lt_of_lt_of_le z3 hb4.size; have f0 := (hb4.cell (p := ⟨w.heap.size, 0, none⟩) (by simp only []; omega)).trans d0; have f1 := (hb4.cell (p := ⟨w.heap.size, 1, none⟩) (by simp only []; omega)).trans d1; have f2 := (hb4.cell (p := ⟨w.heap.size, 2, none⟩) (by simp only []; omega)).trans d2; have f3 := (hb4.cell (p := ⟨w.heap.size, 3, none⟩) (by simp only []; omega)).trans d3; have f4 := (hb4.cell (p := ⟨w.heap.size, 4, none⟩) (by simp only []; omega)).trans d4; have f5 := (hb4.cell (p := ⟨w.heap.size, 5, none⟩) (by simp only []; omega)).trans d5; have fn := (hb4.cell (p := ⟨w.heap.size + 1, 0, none⟩) z3).trans dn; clear hb4)
                    | (go_at_call 89; (with_reducible refine (HC7.out _ B4.out).mono ?_); rintro e w5 ⟨rfl, hb5⟩; have B5 := Lib.hid (Below.then B4.out hb5); have z5 : w.heap.size + 1 < w5.heap.size := Nat.lt_of_lt_of_le z4 hb5.size; have g0 := (hb5.cell (p := ⟨w.heap.size, 0, none⟩) (by simp only []; omega)).trans f0; have g1 := (hb5.cell (p := ⟨w.heap.size, 1, none⟩) (by simp only []; omega)).trans f1; have g2 := (hb5.cell (p := ⟨w.heap.size, 2, none⟩) (by simp only []; omega)).trans f2; have g3 := (hb5.cell (p := ⟨w.heap.size, 3, none⟩) (by simp only []; omega)).trans f3; have g4 := (hb5.cell (p := ⟨w.heap.size, 4, none⟩) (by simp only []; omega)).trans f4; have g5 := (hb5.cell (p := ⟨w.heap.size, 5, none⟩) (by simp only []; omega)).trans f5; have gn := (hb5.cell (p := ⟨w.heap.size + 1, 0, none⟩) z4).trans fn; clear hb5)
                    | (go_at_call 90; (with_reducible refine (HC8'.out _ B5.out _ z5 gn).mono ?_); rintro e w6 ⟨rfl, hb6⟩; have B6 := Lib.hid (Below.then B5.out hb6); clear hb6))
                  go_ret
                  exact ⟨rfl, B6.out⟩
          · rw [decide_eq_true q3, decide_eq_true q4, decide_eq_false q5] at hB
            obtain rfl : B = false := by simpa using hB.symm
            have q3' : ((eN : Int) != (tN : Int)) = false := by simp; omega
            have q4' : ((bN : Int) != (tN : Int)) = false := by simp; omega
            have q5' : decide ((40 : Int) < (sN : Int)) = true := by simp; omega
            clear hB q3 q4
            go_enter Try.func60, Try.ntmps60
            go_wp2_with (first
              | (go_at_call 77; (with_reducible refine (valid_is (HT.out.ext (by (repeat' (first | (with_reducible exact Below.refl _ _) | (with_reducible assumption) | (with_reducible refine Below.alloc ?_ ?_ _) | (with_reducible refine Below.drew ?_) | (with_reducible refine Below.draws ?_ _) | (with_reducible refine Below.setCell ?_ ?_ _) | (refine Below.then ?_ (by with_reducible assumption)) | go_size)))) E1'.out).mono ?_); rintro e w2 ⟨rfl, hb2⟩; have B2 : Hid (Below w.heap.size w w2) := Lib.hid (Below.trans (by (repeat' (first | (with_reducible exact Below.refl _ _) | (with_reducible assumption) | (with_reducible refine Below.alloc ?_ ?_ _) | (with_reducible refine Below.drew ?_) | (with_reducible refine Below.draws ?_ _) | (with_reducible refine Below.setCell ?_ ?_ _) | (refine Below.then ?_ (by with_reducible assumption)) | go_size))) (hb2.mono (by simp; omega))); have z2 : w.heap.size + 1 < w2.heap.size := Nat.lt_of_lt_of_le (by simp) hb2.size; have c0 := (hb2.cell (p := ⟨w.heap.size, 0, none⟩) (by simp; omega)).trans (by simp [go_sem]; rfl); have c1 := (hb2.cell (p := ⟨w.heap.size, 1, none⟩) (by simp; omega)).trans (by simp [go_sem]; rfl); have c2 := (hb2.cell (p := ⟨w.heap.size, 2, none⟩) (by simp; omega)).trans (by simp [go_sem]; rfl); have c3 := (hb2.cell (p := ⟨w.heap.size, 3, none⟩) (by simp; omega)).trans (by simp [go_sem]; rfl); have c4 := (hb2.cell (p := ⟨w.heap.size, 4, none⟩) (by simp; omega)).trans (by simp [go_sem]; rfl); have c5 := (hb2.cell (p := ⟨w.heap.size, 5, none⟩) (by simp; omega)).trans (by simp [go_sem]; rfl); have cn := (hb2.cell (p := ⟨w.heap.size + 1, 0, none⟩) (by simp)).trans (by simp [go_sem]; rfl); clear hb2)
              | (go_at_call 34; (with_reducible refine (supV_is E2'.out).mono ?_); rintro e w3 ⟨rfl, hb3⟩; have B3 := Lib.hid (Below.then B2.out hb3); have z3 : w.heap.size + 1 < w3.heap.size := Nat.lt_of_lt_of_le z2 hb3.size; have d0 := (hb3.cell (p := ⟨w.heap.size, 0, none⟩) (by simp only []; omega)).trans c0; have d1 := (hb3.cell (p := ⟨w.heap.size, 1, none⟩) (by simp only []; omega)).trans c1; have d2 := (hb3.cell (p := ⟨w.heap.size, 2, none⟩) (by simp only []; omega)).trans c2; have d3 := (hb3.cell (p := ⟨w.heap.size, 3, none⟩) (by simp only []; omega)).trans c3; have d4 := (hb3.cell (p := ⟨w.heap.size, 4, none⟩) (by simp only []; omega)).trans c4; have d5 := (hb3.cell (p := ⟨w.heap.size, 5, none⟩) (by simp only []; omega)).trans c5; have dn := (hb3.cell (p := ⟨w.heap.size + 1, 0, none⟩) z2).trans cn; clear hb3))
            go_ret
            exact ⟨rfl, B3.out⟩
        · rw [decide_eq_true q3, decide_eq_false q4] at hB
          obtain rfl : B = false := by simpa using hB.symm
          have q3' : ((eN : Int) != (tN : Int)) = false := by simp; omega
          have q4' : ((bN : Int) != (tN : Int)) = true := by simp; omega
          clear hB q3
          go_enter Try.func60, Try.ntmps60
          go_wp2_with (first
            | (go_at_call 77; (with_reducible refine (valid_is (HT.out.ext (by (repeat' (first | (with_reducible exact Below.refl _ _) | (with_reducible assumption) | (with_reducible refine Below.alloc ?_ ?_ _) | (with_reducible refine Below.drew ?_) | (with_reducible refine Below.draws ?_ _) | (with_reducible refine Below.setCell ?_ ?_ _) | (refine Below.then ?_ (by with_reducible assumption)) | go_size)))) E1'.out).mono ?_); rintro e w2 ⟨rfl, hb2⟩; have B2 : Hid (Below w.heap.size w w2) := Lib.hid (Below.trans (by (repeat' (first | (with_reducible exact Below.refl _ _) | (with_reducible assumption) | (with_reducible refine Below.alloc ?_ ?_ _) | (with_reducible refine Below.drew ?_) | (with_reducible refine Below.draws ?_ _) | (with_reducible refine Below.setCell ?_ ?_ _) | (refine Below.then ?_ (by with_reducible assumption)) | go_size))) (hb2.mono (by simp; omega))); have z2 : w.heap.size + 1 < w2.heap.size := Nat.lt_of_lt_of_le (by simp) hb2.size; have c0 := (hb2.cell (p := ⟨w.heap.size, 0, none⟩) (by simp; omega)).trans (by simp [go_sem]; rfl); have c1 := (hb2.cell (p := ⟨w.heap.size, 1, none⟩) (by simp; omega)).trans (by simp [go_sem]; rfl); have c2 := (hb2.cell (p := ⟨w.heap.size, 2, none⟩) (by simp; omega)).trans (by simp [go_sem]; rfl); have c3 := (hb2.cell (p := ⟨w.heap.size, 3, none⟩) (by simp; omega)).trans (by simp [go_sem]; rfl); have c4 := (hb2.cell (p := ⟨w.heap.size, 4, none⟩) (by simp; omega)).trans (by simp [go_sem]; rfl); have c5 := (hb2.cell (p := ⟨w.heap.size, 5, none⟩) (by simp; omega)).trans (by simp [go_sem]; rfl); have cn := (hb2.cell (p := ⟨w.heap.size + 1, 0, none⟩) (by simp)).trans (by simp [go_sem]; rfl); clear hb2)
            | (go_at_call 34; (with_reducible refine (supV_is E2'.out).mono ?_); rintro e w3 ⟨rfl, hb3⟩; have B3 := Lib.hid (Below.then B2.out hb3); have z3 : w.heap.size + 1 < w3.heap.size := Nat.lt_of_lt_of_le z2 hb3.size; have d0 := (hb3.cell (p := ⟨w.heap.size, 0, none⟩) (by simp only []; omega)).trans c0; have d1 := (hb3.cell (p := ⟨w.heap.size, 1, none⟩) (by simp only []; omega)).trans c1; have d2 := (hb3.cell (p := ⟨w.heap.size, 2, none⟩) (by simp only []; omega)).trans c2; have d3 := (hb3.cell (p := ⟨w.heap.size, 3, none⟩) (by simp only []; omega)).trans c3; have d4 := (hb3.cell (p := ⟨w.heap.size, 4, none⟩) (by simp only []; omega)).trans c4; have d5 := (hb3.cell (p := ⟨w.heap.size, 5, none⟩) (by simp only []; omega)).trans c5; have dn := (hb3.cell (p := ⟨w.heap.size + 1, 0, none⟩) z2).trans cn; clear hb3))
          go_ret
          exact ⟨rfl, B3.out⟩
      · rw [decide_eq_false q3] at hB
        obtain rfl : B = false := by simpa using hB.symm
        have q3' : ((eN : Int) != (tN : Int)) = true := by simp; omega
        clear hB
        go_enter Try.func60, Try.ntmps60
        go_wp2_with (first
          | (go_at_call 77; (with_reducible refine (valid_is (HT.out.ext (by (repeat' (first | (with_reducible exact Below.refl _ _) | (with_reducible assumption) | (with_reducible refine Below.alloc ?_ ?_ _) | (with_reducible refine Below.drew ?_) | (with_reducible refine Below.draws ?_ _) | (with_reducible refine Below.setCell ?_ ?_ _) | (refine Below.then ?_ (by with_reducible assumption)) | go_size)))) E1'.out).mono ?_); rintro e w2 ⟨rfl, hb2⟩; have B2 : Hid (Below w.heap.size w w2) := Lib.hid (Below.trans (by (repeat' (first | (with_reducible exact Below.refl _ _) | (with_reducible assumption) | (with_reducible refine Below.alloc ?_ ?_ _) | (with_reducible refine Below.drew ?_) | (with_reducible refine Below.draws ?_ _) | (with_reducible refine Below.setCell ?_ ?_ _) | (refine Below.then ?_ (by with_reducible assumption)) | go_size))) (hb2.mono (by simp; omega))); have z2 : w.heap.size + 1 < w2.heap.size := Nat.lt_of_lt_of_le (by simp) hb2.size; have c0 := (hb2.cell (p := ⟨w.heap.size, 0, none⟩) (by simp; omega)).trans (by simp [go_sem]; rfl); have c1 := (hb2.cell (p := ⟨w.heap.size, 1, none⟩) (by simp; omega)).trans (by simp [go_sem]; rfl); have c2 := (hb2.cell (p := ⟨w.heap.size, 2, none⟩) (by simp; omega)).trans (by simp [go_sem]; rfl); have c3 := (hb2.cell (p := ⟨w.heap.size, 3, none⟩) (by simp; omega)).trans (by simp [go_sem]; rfl); have c4 := (hb2.cell (p := ⟨w.heap.size, 4, none⟩) (by simp; omega)).trans (by simp [go_sem]; rfl); have c5 := (hb2.cell (p := ⟨w.heap.size, 5, none⟩) (by simp; omega)).trans (by simp [go_sem]; rfl); have cn := (hb2.cell (p := ⟨w.heap.size + 1, 0, none⟩) (by simp)).trans (by simp [go_sem]; rfl); clear hb2)
          | (go_at_call 34; (with_reducible refine (supV_is E2'.out).mono ?_); rintro e w3 ⟨rfl, hb3⟩; have B3 := Lib.hid (Below.then B2.out hb3); have z3 : w.heap.size + 1 < w3.heap.size := Nat.lt_of_lt_of_le z2 hb3.size; have d0 := (hb3.cell (p := ⟨w.heap.size, 0, none⟩) (by simp only []; omega)).trans c0; have d1 := (hb3.cell (p := ⟨w.heap.size, 1, none⟩) (by simp only []; omega)).trans c1; have d2 := (hb3.cell (p := ⟨w.heap.size, 2, none⟩) (by simp only []; omega)).trans c2; have d3 := (hb3.cell (p := ⟨w.heap.size, 3, none⟩) (by simp only []; omega)).trans c3; have d4 := (hb3.cell (p := ⟨w.heap.size, 4, none⟩) (by simp only []; omega)).trans c4; have d5 := (hb3.cell (p := ⟨w.heap.size, 5, none⟩) (by simp only []; omega)).trans c5; have dn := (hb3.cell (p := ⟨w.heap.size + 1, 0, none⟩) z2).trans cn; clear hb3))
        go_ret
        exact ⟨rfl, B3.out⟩
theorem is_any (H : RunH) (R : Rn) (t : Int) (w : World) (hR : ReadRun w H R) {B : Bool} (h : (runB R && inB t 0 2000) = B) : Calls Try.prog 32 #[runV H R.fr R.sl, .int .i64 t] w fun e w' => e = .returned (.bool B) ∧ Below w.heap.size w w' := by
  have HV := Lib.hid (fun w1 (hb : Below w.heap.size w w1) => Valid_run H R w1 (hR.ext hb))
  obtain ⟨A, hA⟩ : ∃ A, runB R = A := ⟨_, rfl⟩
  obtain ⟨C, hC⟩ : ∃ C, inB t 0 2000 = C := ⟨_, rfl⟩
  rw [hA, hC] at h
  rw [hA] at HV
  have HC := Lib.hid hC
  obtain ⟨fr, hfr⟩ : ∃ x, R.fr = x := ⟨_, rfl⟩
  obtain ⟨sl_, hsl⟩ : ∃ x, R.sl = x := ⟨_, rfl⟩
  rw [hfr, hsl] at HV ⊢
  obtain ⟨tA, tN, tC, eA, eN, eC, bA, bN, bC, sA, sN, sC⟩ := H
  unfold runV at HV ⊢
  simp only [] at HV ⊢
  clear hR hA hC hfr hsl
  subst h
  cases A
  · go_enter Try.func32, Try.ntmps32
    go_wp2_with (go_at_call 60; (with_reducible refine (HV.out _ (by (repeat' (first | (with_reducible exact Below.refl _ _) | (with_reducible assumption) | (with_reducible refine Below.alloc ?_ ?_ _) | (with_reducible refine Below.drew ?_) | (with_reducible refine Below.draws ?_ _) | (with_reducible refine Below.setCell ?_ ?_ _) | (refine Below.then ?_ (by with_reducible assumption)) | go_size)))).mono ?_); rintro e w2 ⟨rfl, hb2⟩)
    go_ret
    exact ⟨rfl, Below.trans (by (repeat' (first | (with_reducible exact Below.refl _ _) | (with_reducible assumption) | (with_reducible refine Below.alloc ?_ ?_ _) | (with_reducible refine Below.drew ?_) | (with_reducible refine Below.draws ?_ _) | (with_reducible refine Below.setCell ?_ ?_ _) | (refine Below.then ?_ (by with_reducible assumption)) | go_size))) (hb2.mono (by simp))⟩
  · go_enter Try.func32, Try.ntmps32
    go_wp2_with (first
      | (go_at_call 60; (with_reducible refine (HV.out _ (by (repeat' (first | (with_reducible exact Below.refl _ _) | (with_reducible assumption) | (with_reducible refine Below.alloc ?_ ?_ _) | (with_reducible refine Below.drew ?_) | (with_reducible refine Below.draws ?_ _) | (with_reducible refine Below.setCell ?_ ?_ _) | (refine Below.then ?_ (by with_reducible assumption)) | go_size)))).mono ?_); rintro e w2 ⟨rfl, hb2⟩)
      | (go_at_call 46; (with_reducible refine (cwithin_is HC.out).mono ?_); rintro e w3 ⟨rfl, rfl⟩))
    go_ret
    exact ⟨rfl, Below.trans (by (repeat' (first | (with_reducible exact Below.refl _ _) | (with_reducible assumption) | (with_reducible refine Below.alloc ?_ ?_ _) | (with_reducible refine Below.drew ?_) | (with_reducible refine Below.draws ?_ _) | (with_reducible refine Below.setCell ?_ ?_ _) | (refine Below.then ?_ (by with_reducible assumption)) | go_size))) (hb2.mono (by simp))⟩
/-- what Simulate gives -/
def simR (R : Rn) (t : Int) : List En × Int := if (runB R && inB t 0 2000) = true then ((plM R t.toNat).o, 0) else ([], 1)
def OutEn (w : World) (xs : List En) (er : Int) (e : Ending) (w' : World) : Prop :=
  ∃ a n c, e = .returned (.tuple #[.slice a n c, .int .i64 er]) ∧ w'.ownsRow w.heap.size 43 5 (.slice a n c) n (xs.flatMap encE) ∧ Below w.heap.size w w'
theorem Simulate_any (H : RunH) (R : Rn) (t : Int) (w : World) (hR : ReadRun w H R) : Calls Try.prog 10 #[runV H R.fr R.sl, .int .i64 t] w (OutEn w (simR R t).1 (simR R t).2) := by
  obtain ⟨B, hB⟩ : ∃ B, (runB R && inB t 0 2000) = B := ⟨_, rfl⟩
  unfold simR
  rw [hB]
  have HI := Lib.hid (fun w1 (hb : Below w.heap.size w w1) => is_any H R t w1 (hR.ext hb) hB)
  cases B
  · obtain ⟨fr, hfr⟩ : ∃ x, R.fr = x := ⟨_, rfl⟩
    obtain ⟨sl_, hsl⟩ : ∃ x, R.sl = x := ⟨_, rfl⟩
    rw [hfr, hsl] at HI ⊢
    obtain ⟨tA, tN, tC, eA, eN, eC, bA, bN, bC, sA, sN, sC⟩ := H
    unfold runV at HI ⊢
    simp only [] at HI ⊢
    clear hR hB hfr hsl
    go_enter Try.func10, Try.ntmps10
    go_wp2_with (go_at_call 32; (with_reducible refine (HI.out _ (by (repeat' (first | (with_reducible exact Below.refl _ _) | (with_reducible assumption) | (with_reducible refine Below.alloc ?_ ?_ _) | (with_reducible refine Below.drew ?_) | (with_reducible refine Below.draws ?_ _) | (with_reducible refine Below.setCell ?_ ?_ _) | (refine Below.then ?_ (by with_reducible assumption)) | go_size)))).mono ?_); rintro e w2 ⟨rfl, hb2⟩)
    go_ret2
    exact ⟨_, _, _, rfl, World.ownsRow_nil _ _ _ _, Below.trans (by (repeat' (first | (with_reducible exact Below.refl _ _) | (with_reducible assumption) | (with_reducible refine Below.alloc ?_ ?_ _) | (with_reducible refine Below.drew ?_) | (with_reducible refine Below.draws ?_ _) | (with_reducible refine Below.setCell ?_ ?_ _) | (refine Below.then ?_ (by with_reducible assumption)) | go_size))) (hb2.mono (by simp))⟩
  · rw [Bool.and_eq_true, inB_iff] at hB
    obtain ⟨tn, rfl⟩ := Int.eq_ofNat_of_zero_le hB.2.1
    rw [if_pos rfl, Int.toNat_natCast]
    have HP := Lib.hid (fun w1 (hb : Below w.heap.size w w1) => play_any H R tn w1 (hR.ext hb).rd (run_ok hB.1).1 (by omega))
    obtain ⟨fr, hfr⟩ : ∃ x, R.fr = x := ⟨_, rfl⟩
    obtain ⟨sl_, hsl⟩ : ∃ x, R.sl = x := ⟨_, rfl⟩
    rw [hfr, hsl] at HI HP ⊢
    obtain ⟨tA, tN, tC, eA, eN, eC, bA, bN, bC, sA, sN, sC⟩ := H
    unfold runV at HI ⊢
    simp only [] at HI HP ⊢
    clear hR hB hfr hsl
    go_enter Try.func10, Try.ntmps10
    go_wp2_with (first
      | (go_at_call 32; (with_reducible refine (HI.out _ (by (repeat' (first | (with_reducible exact Below.refl _ _) | (with_reducible assumption) | (with_reducible refine Below.alloc ?_ ?_ _) | (with_reducible refine Below.drew ?_) | (with_reducible refine Below.draws ?_ _) | (with_reducible refine Below.setCell ?_ ?_ _) | (refine Below.then ?_ (by with_reducible assumption)) | go_size)))).mono ?_); rintro e w2 ⟨rfl, hb2⟩; have B2 : Hid (Below w.heap.size w w2) := Lib.hid (Below.trans (by (repeat' (first | (with_reducible exact Below.refl _ _) | (with_reducible assumption) | (with_reducible refine Below.alloc ?_ ?_ _) | (with_reducible refine Below.drew ?_) | (with_reducible refine Below.draws ?_ _) | (with_reducible refine Below.setCell ?_ ?_ _) | (refine Below.then ?_ (by with_reducible assumption)) | go_size))) (hb2.mono (by simp))); have c0 := (hb2.cell (p := ⟨w.heap.size, 0, none⟩) (by simp)).trans (by simp [go_sem]; rfl); have c1 := (hb2.cell (p := ⟨w.heap.size, 1, none⟩) (by simp)).trans (by simp [go_sem]; rfl); have c2 := (hb2.cell (p := ⟨w.heap.size, 2, none⟩) (by simp)).trans (by simp [go_sem]; rfl); have c3 := (hb2.cell (p := ⟨w.heap.size, 3, none⟩) (by simp)).trans (by simp [go_sem]; rfl); have c4 := (hb2.cell (p := ⟨w.heap.size, 4, none⟩) (by simp)).trans (by simp [go_sem]; rfl); have c5 := (hb2.cell (p := ⟨w.heap.size, 5, none⟩) (by simp)).trans (by simp [go_sem]; rfl); clear hb2)
      | (go_at_call 33; (with_reducible refine (HP.out _ B2.out).mono ?_); rintro e w3 ⟨a3, n3, c3', rfl, hown3, hb3⟩; have HO3 := Lib.hid hown3; have B3 := Lib.hid hb3; clear hown3 hb3))
    go_ret2
    exact ⟨_, _, _, rfl, owns_mono HO3.out B2.out.size, Below.then B2.out B3.out⟩
end Go.Proofs.Ytmahagcghpoekaa
namespace Go.Proofs.Ytmahagcghpoekaa
open Go.RowKit
set_option linter.unusedSimpArgs false
set_option linter.unusedVariables false
def saneR : Rn := ⟨[⟨0, 4, 0, 4, 0, [(2, -1)]⟩], 4, 1, [[(0, 0)]], [0], []⟩
def saneE : List En := [⟨0, 0, 1, 0, 0⟩, ⟨0, -1, 3, 0, 0⟩, ⟨1, 0, 4, 0, 0⟩, ⟨2, 0, 4, 0, 0⟩, ⟨3, 0, 5, 0, 0⟩]
set_option maxRecDepth 100000 in
theorem sane_sim : simR saneR 4 = (saneE, 0) := by decide
def saneW (w : World) : World := (((((w.alloc (.cells #[.int .i64 2, .int .i64 (-1)] 79)).alloc (.cells #[.int .i64 0, .int .i64 4, .int .i64 0, .int .i64 4, .int .i64 0, .slice (some ⟨w.heap.size, 0, none⟩) 1 1] 72)).alloc (.cells #[.int .i64 0, .int .i64 0] 26)).alloc (.cells #[.slice (some ⟨w.heap.size + 2, 0, none⟩) 1 1] 30)).alloc (.cells #[.int .i64 0] 3))
def saneH (w : World) : RunH := ⟨some ⟨w.heap.size + 1, 0, none⟩, 1, 1, some ⟨w.heap.size + 3, 0, none⟩, 1, 1, some ⟨w.heap.size + 4, 0, none⟩, 1, 1, none, 0, 0⟩
theorem rd_one {α : Type} {w : World} {b k : Nat} {f : α → List Value} (x : α) (hk : (f x).length = k) (hb : b < w.heap.size) (h : ∀ j, j < k → w.cell? ⟨b, j, none⟩ = (f x)[j]?) : Rd w (some ⟨b, 0, none⟩) 1 k ([x].map f) := by
  refine ⟨by simp, by omega, fun _ => ⟨b, 0, rfl, hb, fun i hi j hj => ?_⟩⟩
  have : i = 0 := by simpa using hi
  subst this
  have := h j hj
  simpa using this
theorem saneW_rd (w : World) : ReadRun (saneW w) (saneH w) saneR := by
  have hz : w.heap.size + 5 = (saneW w).heap.size := by simp [saneW]
  refine ⟨⟨[⟨0, 4, 0, 4, 0, some ⟨w.heap.size, 0, none⟩, 1, 1, [(2, -1)]⟩], ⟨rd_one _ rfl (by omega) (fun j hj => ?_), fun t ht => ?_⟩, rfl⟩, ⟨[⟨some ⟨w.heap.size + 2, 0, none⟩, 1, 1, [(0, 0)]⟩], rd_one _ rfl (by omega) (fun j hj => ?_), fun v hv => ?_, rfl⟩, rd_one _ rfl (by omega) (fun j hj => ?_), Rd.nil _ _ _⟩
  · match j, hj with
    | 0, _ => simp [saneW, encTa, go_sem]
    | 1, _ => simp [saneW, encTa, go_sem]
    | 2, _ => simp [saneW, encTa, go_sem]
    | 3, _ => simp [saneW, encTa, go_sem]
    | 4, _ => simp [saneW, encTa, go_sem]
    | 5, _ => simp [saneW, encTa, go_sem]
  · simp at ht
    subst ht
    refine ⟨rd_one _ rfl (by omega) (fun j hj => ?_), fun h => by simp at h⟩
    match j, hj with
    | 0, _ => simp [saneW, enc2, go_sem]
    | 1, _ => simp [saneW, enc2, go_sem]
  · match j, hj with
    | 0, _ => simp [saneW, encV, go_sem]
  · simp at hv
    subst hv
    refine rd_one _ rfl (by first | omega | (simp only []; omega)) (fun j hj => ?_)
    match j, hj with
    | 0, _ => simp [saneW, enc2, go_sem]
    | 1, _ => simp [saneW, enc2, go_sem]
  · match j, hj with
    | 0, _ => simp [saneW, enc1, go_sem]
theorem Sim_is {H : RunH} {R : Rn} {t : Int} {w : World} {xs : List En} {y : Int} (hR : ReadRun w H R) (h : simR R t = (xs, y)) : Calls Try.prog 10 #[runV H R.fr R.sl, .int .i64 t] w (OutEn w xs y) := by
  have := Simulate_any H R t w hR
  rw [h] at this; exact this
theorem sane_cells {w : World} {B : Nat} {a : Option Addr} {n c : Nat} (h : w.ownsRow B 43 5 (.slice a n c) n (saneE.flatMap encE)) : ∃ g, a = some ⟨g, 0, none⟩ ∧ n = 5 ∧
    w.cell? ⟨g, 2, none⟩ = some (.int .i64 1) ∧ w.cell? ⟨g, 7, none⟩ = some (.int .i64 3) ∧ w.cell? ⟨g, 12, none⟩ = some (.int .i64 4) ∧ w.cell? ⟨g, 17, none⟩ = some (.int .i64 4) ∧ w.cell? ⟨g, 15, none⟩ = some (.int .i64 2) ∧ w.cell? ⟨g, 22, none⟩ = some (.int .i64 5) ∧ w.cell? ⟨g, 20, none⟩ = some (.int .i64 3) := by
  have hn : n = 5 := by have := (Rd.of_owns encE_len (by decide) h).length; simpa [saneE] using this.symm
  subst hn
  rcases h.2 with ⟨_, h8⟩ | ⟨g, cap, cur, hv, _⟩
  · omega
  · simp at hv
    obtain ⟨rfl, _⟩ := hv
    refine ⟨g, rfl, rfl, ?_, ?_, ?_, ?_, ?_, ?_, ?_⟩ <;> (rw [h.cellAt _ (by decide)]; rfl)
/-- how many parts a run has -/
def hvA (R : Rn) : Nat := R.L.length + R.ev.length + R.bu.length + R.sg.length
def hvE : List (List P2) → Nat → Nat
  | [], n => n
  | l :: ls, n => hvE ls (n + l.length)
def hvT : List Ta → Nat → Nat
  | [], n => n
  | t :: ts, n => hvT ts (n + t.pcs.length)
def heavyB (R : Rn) : Bool := decide (300 < hvA R) || decide (1000 < hvT R.L (hvE R.ev (hvA R)))
end Go.Proofs.Ytmahagcghpoekaa
namespace Go.Proofs.Ytmahagcghpoekaa
open Go.ChangeShapes Go.WideShapes Go.ChangeAt Go.RowKit Go.Joins Go.Deep
set_option linter.unusedSimpArgs false
set_option linter.unusedVariables false
theorem weightsAll_mem {H : Type} {P : Program} {e : TypeId} {d : DataW H} : ∀ {l : List (DataW H)}, d ∈ l → ∀ n ∈ d.weights P e, n ∈ DataW.weightsAll P e l
  | x :: l, hd, n, hn => by
    unfold DataW.weightsAll
    rcases List.mem_cons.1 hd with rfl | hd
    · exact List.mem_append_left _ hn
    · exact List.mem_append_right _ (weightsAll_mem hd n hn)
/-- what a type's cells read as, the reach known -/
def OpensB (P : Program) (t : TypeId) {α : Type} (R : World → List Value → α → Prop) : Prop :=
  ∀ {H : Type} {enc : TypeId × Value → H} {w : World} {base : Nat} {spare : Nat → Bool} {held : Bool} {fuel : Nat} {cs : List Value} {x : DataW H × List MemPlace}, DataW.trod enc P w base spare held fuel t cs = some x → (∀ n ∈ x.1.weights P t, n ≤ reachBytes) → ∃ y, R w cs y
theorem opensB_int {P : Program} {t : TypeId} (ht : P.underlying t = some (.int .i64)) : OpensB P t (fun _ cs (y : Int) => cs = enc1 y ∧ True) := by
  intro H enc w base spare held fuel cs x h _
  obtain ⟨n, e, _⟩ := DataW.trod_int ht h
  exact ⟨n, e, trivial⟩
theorem addB_add (a : Addr) (i : Nat) (h : a.spot = none) : a.add i = ⟨a.block, a.off + i, none⟩ := by
  obtain ⟨b, o, s⟩ := a
  simp only at h
  subst h
  unfold Addr.add; split <;> simp_all
theorem opensB_slice {P : Program} {t e : TypeId} {k : Nat} {α : Type} [Inhabited α] {en : α → List Value} {ok : World → α → Prop} (ht : P.underlying t = some (.slice e)) (hk : P.cellsOf e = k) (hk0 : 0 < k) (he : OpensB P e (fun w cs y => cs = en y ∧ ok w y)) :
    OpensB P t (fun w cs (ys : List α) => ∃ a n c, cs = [.slice a n c] ∧ Rd w a n k (ys.map en) ∧ (∀ y ∈ ys, ok w y) ∧ (n = 0 → (a = none ∧ c = 0) ∨ ∃ ad, a = some ad) ∧ n * P.bytesOf e ≤ reachBytes) := by
  intro H enc w base spare held fuel cs x h hw
  rcases open_slice ht h with ⟨rfl, _⟩ | ⟨a, len, cap, m, n, D, Pl, rfl, hb, hl, hm, hmm, hxe, hx⟩
  · exact ⟨[], none, 0, 0, rfl, Rd.nil w k none, by simp, fun _ => .inl ⟨rfl, rfl⟩, by omega⟩
  · have hlm : len ≤ m := by rw [hmm]; split <;> omega
    rw [hxe] at hw
    simp only [DataW.weights, ht, List.mem_cons, List.mem_append, List.length_map, List.length_range] at hw
    have each : ∀ i, i < len → ∃ y : α, (∀ j, j < k → w.cell? ((a.add (i * k)).add j) = (en y)[j]?) ∧ ok w y := by
      intro i hi
      obtain ⟨cs', h1, h2⟩ := hx i (by omega)
      rw [hk] at h1
      obtain ⟨_, hlen, hcell⟩ := World.cells?_some h1
      obtain ⟨y, rfl, hok⟩ := he h2 (fun q hq => hw q (.inr (.inl (weightsAll_mem (List.mem_map_of_mem (List.mem_range.2 hi)) q hq))))
      exact ⟨y, hcell, hok⟩
    obtain ⟨q, hq⟩ := choose_lt each
    refine ⟨(List.range len).map q, some a, len, cap, rfl, ⟨by simp, by unfold maxLen at hm; omega, fun h0 => ?_⟩, fun y hy => ?_, fun _ => .inr ⟨a, rfl⟩, ?_⟩
    · have c0 := (hq 0 h0).1 0 hk0
      have hne : ∃ v, w.cell? ((a.add (0 * k)).add 0) = some v := by
        obtain ⟨cs', h1, h2⟩ := hx 0 (by omega)
        rw [hk] at h1
        obtain ⟨_, hlen, hcell⟩ := World.cells?_some h1
        rw [hcell 0 hk0]
        exact ⟨cs'[0], by simp [List.getElem?_eq_getElem, hlen, hk0]⟩
      obtain ⟨v, hv⟩ := hne
      have hs0 := World.cell?_spot hv
      have hsp : a.spot = none := by
        obtain ⟨b, o, s⟩ := a
        unfold Addr.add at hs0
        simp at hs0
        exact hs0
      have hblk := World.block_lt_of_cell? w _ hv
      rw [addB_add _ _ hsp, addB_add _ _ rfl] at hblk
      refine ⟨a.block, a.off, by obtain ⟨b, o, s⟩ := a; simp only at hsp; rw [hsp], hblk, fun i hi j hj => ?_⟩
      have hi' : i < len := by simpa using hi
      have := (hq i hi').1 j hj
      rw [addB_add _ _ hsp, addB_add _ _ rfl] at this
      simp only at this
      rw [this]; simp
    · obtain ⟨i, hi, rfl⟩ := List.mem_map.1 hy
      exact (hq i (List.mem_range.1 hi)).2
    · have h1 := hw _ (.inl rfl)
      have h2 : len * P.bytesOf e ≤ (len + (m - len)) * P.bytesOf e := Nat.mul_le_mul_right _ (by omega)
      omega
end Go.Proofs.Ytmahagcghpoekaa
namespace Go.Proofs.Ytmahagcghpoekaa
open Go.ChangeShapes Go.WideShapes Go.ChangeAt Go.RowKit Go.Joins Go.Deep
set_option linter.unusedSimpArgs false
set_option linter.unusedVariables false
section
variable {H : Type} {enc : TypeId × Value → H} {P : Program} {w : World} {base b0 : Nat} {spare : Nat → Bool} {held : Bool} {r : Reach} {t : TypeId} {v : Value} {d : DataW H} {ps : List MemPlace}
theorem open_i64 (ht : P.underlying t = some (.int .i64)) (hv : Value.okWide P w r b0 t v) (h : DataW.Trod enc P w base spare held t v d ps) : ∃ n, v = .int .i64 n ∧ (-9223372036854775808 ≤ n ∧ n ≤ 9223372036854775807) := by
  obtain ⟨n, rfl, _, _, hw⟩ := open_int ht hv h
  refine ⟨n, rfl, ?_⟩
  simpa [Lit.wf, IntKind.min, IntKind.max, IntKind.signed, IntKind.bits] using hw
theorem open_int3 {f0 f1 f2 : Field} (hs : P.underlying t = some (.struct #[f0, f1, f2])) (hone : oneCellFields P #[f0, f1, f2] = true) (hC : P.cellsOf t = 3)
    (h0 : P.underlying f0.type = some (.int .i64)) (h1 : P.underlying f1.type = some (.int .i64)) (h2 : P.underlying f2.type = some (.int .i64))
    (hv : Value.okWide P w r b0 t v) (h : DataW.Trod enc P w base spare held t v d ps) : ∃ a b c, v = .agg #[.int .i64 a, .int .i64 b, .int .i64 c] := by
  obtain ⟨v0, v1, v2, y0, y1, y2, n, rfl, _, _, k0, k1, k2⟩ := open_agg3 hs hone hC hv h
  obtain ⟨a, e0, _⟩ := DataW.trod_int h0 k0
  obtain ⟨b, e1, _⟩ := DataW.trod_int h1 k1
  obtain ⟨c, e2, _⟩ := DataW.trod_int h2 k2
  simp at e0 e1 e2
  exact ⟨a, b, c, by rw [e0, e1, e2]⟩
end
/-- what a type's cells read as: R w cs y for some y -/
def Opens (P : Program) (t : TypeId) {α : Type} (R : World → List Value → α → Prop) : Prop :=
  ∀ {H : Type} {enc : TypeId × Value → H} {w : World} {base : Nat} {spare : Nat → Bool} {held : Bool} {fuel : Nat} {cs : List Value} {x : DataW H × List MemPlace}, DataW.trod enc P w base spare held fuel t cs = some x → ∃ y, R w cs y
theorem opens_int {P : Program} {t : TypeId} (ht : P.underlying t = some (.int .i64)) : Opens P t (fun _ cs (y : Int) => cs = enc1 y) := by
  intro H enc w base spare held fuel cs x h
  obtain ⟨n, e, _⟩ := DataW.trod_int ht h
  exact ⟨n, e⟩
theorem opens_pair {P : Program} {t e : TypeId} (ht : P.underlying t = some (.array 2 e)) (he : P.underlying e = some (.int .i64)) (hc : P.cellsOf e = 1) (hc2 : P.cellsOf t = 2) : Opens P t (fun _ cs (y : P2) => cs = enc2 y) := by
  intro H enc w base spare held fuel cs x h
  obtain ⟨xs, m, _, _, hl, hx, hf⟩ := DataW.trod_array ht h
  rw [hc2] at hl
  match cs, hl, xs, hx with
  | [u, v], _, [x0, x1], _ =>
    have g0 := hf 0 (by omega)
    have g1 := hf 1 (by omega)
    simp [hc] at g0 g1
    obtain ⟨a, e0, _⟩ := DataW.trod_int he g0
    obtain ⟨b, e1, _⟩ := DataW.trod_int he g1
    simp at e0 e1
    exact ⟨(a, b), by rw [e0, e1]; rfl⟩
theorem addr_add (a : Addr) (i : Nat) (h : a.spot = none) : a.add i = ⟨a.block, a.off + i, none⟩ := by
  obtain ⟨b, o, s⟩ := a
  simp only at h
  subst h
  unfold Addr.add; split <;> simp_all
/-- a slice of flat elements -/
theorem opens_slice {P : Program} {t e : TypeId} {k : Nat} {α : Type} [Inhabited α] {en : α → List Value} (ht : P.underlying t = some (.slice e)) (hk : P.cellsOf e = k) (hk0 : 0 < k) (he : Opens P e (fun _ cs y => cs = en y)) :
    Opens P t (fun w cs (ys : List α) => ∃ a n c, cs = [.slice a n c] ∧ Rd w a n k (ys.map en) ∧ (n = 0 → (a = none ∧ c = 0) ∨ ∃ ad, a = some ad)) := by
  intro H enc w base spare held fuel cs x h
  rcases open_slice ht h with ⟨rfl, _⟩ | ⟨a, len, cap, m, n, D, Pl, rfl, hb, hl, hm, hmm, _, hx⟩
  · exact ⟨[], none, 0, 0, rfl, Rd.nil w k none, fun _ => .inl ⟨rfl, rfl⟩⟩
  · have hlm : len ≤ m := by rw [hmm]; split <;> omega
    have each : ∀ i, i < len → ∃ y : α, ∀ j, j < k → w.cell? ((a.add (i * k)).add j) = (en y)[j]? := by
      intro i hi
      obtain ⟨cs', h1, h2⟩ := hx i (by omega)
      rw [hk] at h1
      obtain ⟨_, hlen, hcell⟩ := World.cells?_some h1
      obtain ⟨y, rfl⟩ := he h2
      exact ⟨y, hcell⟩
    obtain ⟨q, hq⟩ := choose_lt each
    refine ⟨(List.range len).map q, some a, len, cap, rfl, ⟨by simp, by unfold maxLen at hm; omega, fun h0 => ?_⟩, fun _ => .inr ⟨a, rfl⟩⟩
    have c0 := hq 0 h0 0 hk0
    have hne : ∃ v, w.cell? ((a.add (0 * k)).add 0) = some v := by
      obtain ⟨cs', h1, h2⟩ := hx 0 (by omega)
      rw [hk] at h1
      obtain ⟨_, hlen, hcell⟩ := World.cells?_some h1
      rw [hcell 0 hk0]
      exact ⟨cs'[0], by simp [List.getElem?_eq_getElem, hlen, hk0]⟩
    obtain ⟨v, hv⟩ := hne
    have hs0 := World.cell?_spot hv
    have hsp : a.spot = none := by
      obtain ⟨b, o, s⟩ := a
      unfold Addr.add at hs0
      simp at hs0
      exact hs0
    have hblk := World.block_lt_of_cell? w _ hv
    rw [addr_add _ _ hsp, addr_add _ _ rfl] at hblk
    refine ⟨a.block, a.off, by obtain ⟨b, o, s⟩ := a; simp only at hsp; rw [hsp], hblk, fun i hi j hj => ?_⟩
    have hi' : i < len := by simpa using hi
    have := hq i hi' j hj
    rw [addr_add _ _ hsp, addr_add _ _ rfl] at this
    simp only at this
    rw [this]; simp
set_option maxRecDepth 100000 in
theorem open_pat {H : Type} {enc : TypeId × Value → H} {w : World} {base b0 : Nat} {spare : Nat → Bool} {held : Bool} {r : Reach} {v : Value} {d : DataW H} {ps : List MemPlace}
    (hv : Value.okWide Try.prog w r b0 66 v) (h : DataW.Trod enc Try.prog w base spare held 66 v d ps) : ∃ a b c, v = .agg #[.int .i64 a, .int .i64 b, .int .i64 c] ∧ True :=
  let ⟨a, b, c, e⟩ := open_int3 Try.underlying66 (by kernel_rfl) (by kernel_rfl) Try.underlying3 Try.underlying3 Try.underlying3 hv h
  ⟨a, b, c, e, trivial⟩
set_option maxRecDepth 100000 in
theorem open_clk {H : Type} {enc : TypeId × Value → H} {w : World} {base b0 : Nat} {spare : Nat → Bool} {held : Bool} {r : Reach} {v : Value} {d : DataW H} {ps : List MemPlace}
    (hv : Value.okWide Try.prog w r b0 64 v) (h : DataW.Trod enc Try.prog w base spare held 64 v d ps) : ∃ a b c, v = .agg #[.int .i64 a, .int .i64 b, .int .i64 c] ∧ True :=
  let ⟨a, b, c, e⟩ := open_int3 Try.underlying64 (by kernel_rfl) (by kernel_rfl) Try.underlying3 Try.underlying3 Try.underlying3 hv h
  ⟨a, b, c, e, trivial⟩
end Go.Proofs.Ytmahagcghpoekaa
namespace Go.Proofs.Ytmahagcghpoekaa
open Go.ChangeShapes Go.WideShapes Go.ChangeAt Go.RowKit Go.Joins Go.Deep
set_option linter.unusedSimpArgs false
set_option linter.unusedVariables false
set_option maxRecDepth 100000 in
theorem opensB_piece : OpensB Try.prog 79 (fun _ cs (y : P2) => cs = enc2 y ∧ True) := by
  intro H enc w base spare held fuel cs x h _
  obtain ⟨xs, n, _, hx, hl, hxl, hf⟩ := DataW.trod_struct Try.underlying79 h
  have hc : Try.prog.cellsOf 79 = 2 := by kernel_rfl
  have hc1 : Try.prog.cellsOf 3 = 1 := by kernel_rfl
  rw [hc] at hl
  match cs, hl, xs, hxl with
  | [u0, u1], _, [x0, x1], _ =>
    have g0 := hf 0 _ rfl
    have g1 := hf 1 _ rfl
    simp [hc1] at g0 g1
    obtain ⟨p, e0, _⟩ := DataW.trod_int Try.underlying3 g0
    obtain ⟨l, e1, _⟩ := DataW.trod_int Try.underlying3 g1
    simp at e0 e1
    subst e0; subst e1
    exact ⟨(p, l), rfl, trivial⟩
set_option maxRecDepth 100000 in
theorem opensB_pat : OpensB Try.prog 66 (fun _ cs (y : Int × Int × Int) => cs = [.int .i64 y.1, .int .i64 y.2.1, .int .i64 y.2.2]) := by
  intro H enc w base spare held fuel cs x h _
  obtain ⟨xs, n, _, hx, hl, hxl, hf⟩ := DataW.trod_struct Try.underlying66 h
  have hc : Try.prog.cellsOf 66 = 3 := by kernel_rfl
  have hc1 : Try.prog.cellsOf 3 = 1 := by kernel_rfl
  rw [hc] at hl
  match cs, hl, xs, hxl with
  | [u0, u1, u2], _, [x0, x1, x2], _ =>
    have g0 := hf 0 _ rfl
    have g1 := hf 1 _ rfl
    have g2 := hf 2 _ rfl
    simp [hc1] at g0 g1 g2
    obtain ⟨p, e0, _⟩ := DataW.trod_int Try.underlying3 g0
    obtain ⟨l, e1, _⟩ := DataW.trod_int Try.underlying3 g1
    obtain ⟨m, e2, _⟩ := DataW.trod_int Try.underlying3 g2
    simp at e0 e1 e2
    subst e0; subst e1; subst e2
    exact ⟨(p, l, m), rfl⟩
set_option maxRecDepth 100000 in
theorem opensB_task : OpensB Try.prog 72 (fun w cs (t : TaV) => cs = encTa t ∧ (t.ok w ∧ t.n ≤ 281474976710656)) := by
  intro H enc w base spare held fuel cs x h hw
  obtain ⟨xs, n, _, hx, hl, hxl, hf⟩ := DataW.trod_struct Try.underlying72 h
  have hc : Try.prog.cellsOf 72 = 6 := by kernel_rfl
  have hc1 : Try.prog.cellsOf 3 = 1 := by kernel_rfl
  have hc3 : Try.prog.cellsOf 66 = 3 := by kernel_rfl
  have hc2 : Try.prog.cellsOf 70 = 1 := by kernel_rfl
  have hcp : Try.prog.cellsOf 79 = 2 := by kernel_rfl
  have hb : Try.prog.bytesOf 79 = 16 := by kernel_rfl
  rw [hc] at hl
  rw [hx] at hw
  simp only [DataW.weights, Try.underlying72] at hw
  match cs, hl, xs, hxl with
  | [u0, u1, u2, u3, u4, u5], _, [x0, x1, x2, x3], _ =>
    have g0 := hf 0 _ rfl
    have g1 := hf 1 _ rfl
    have g2 := hf 2 _ rfl
    have g3 := hf 3 _ rfl
    simp [hc1, hc2, hc3] at g0 g1 g2 g3
    obtain ⟨p, e0, _⟩ := DataW.trod_int Try.underlying3 g0
    obtain ⟨l, e1, _⟩ := DataW.trod_int Try.underlying3 g1
    obtain ⟨y, e2⟩ := opensB_pat g2 (fun q hq => hw q (by simp [DataW.weightsEach]; exact .inr (.inr (.inl hq))))
    obtain ⟨ys, a, m, c, e3, hR, _, hN, hB⟩ := opensB_slice (en := enc2) (k := 2) (ok := fun _ _ => True) Try.underlying70 hcp (by decide) opensB_piece g3 (fun q hq => hw q (by simp [DataW.weightsEach]; exact .inr (.inr (.inr hq))))
    simp at e0 e1 e2 e3
    obtain ⟨e2, e4, e5⟩ := e2
    subst e0; subst e1; subst e2; subst e3; subst e4; subst e5
    rw [hb] at hB
    refine ⟨⟨p, l, y.1, y.2.1, y.2.2, a, m, c, ys⟩, rfl, ⟨hR, hN⟩, ?_⟩
    simp only [reachBytes] at hB ⊢
    omega
set_option maxRecDepth 100000 in
theorem open_T {H : Type} {enc : TypeId × Value → H} {w : World} {base b0 : Nat} {spare : Nat → Bool} {held : Bool} {r : Reach} {v : Value} {d : DataW H} {ps : List MemPlace}
    (hv : Value.okWide Try.prog w r b0 22 v) (h : DataW.Trod enc Try.prog w base spare held 22 v d ps) (hw : ∀ n ∈ d.weights Try.prog 22, n ≤ reachBytes) :
    ∃ a n c, v = .slice a n c ∧ ∃ L : List Ta, RdL w a n L ∧ (∀ t ∈ L, t.pcs.length ≤ 281474976710656) ∧ NilOk a n c := by
  obtain ⟨a0, n0, c0, rfl⟩ := okWide_slice Try.underlying22 hv
  obtain ⟨fuel, hf⟩ := h
  obtain ⟨ys, a, n, c, e, h1, h2, h3, _⟩ := opensB_slice (en := encTa) (k := 6) (ok := fun w t => t.ok w ∧ t.n ≤ 281474976710656) Try.underlying22 (by kernel_rfl) (by decide) opensB_task hf hw
  simp [Value.cells] at e
  obtain ⟨rfl, rfl, rfl⟩ := e
  refine ⟨_, _, _, rfl, _, RdT.rdL ⟨h1, fun t ht => (h2 t ht).1⟩, fun t ht => ?_, h3⟩
  obtain ⟨u, hu, rfl⟩ := List.mem_map.1 ht
  have := (h2 u hu).1.1.length
  have := (h2 u hu).2
  have e : (TaV.ta u).pcs.length = u.pcs.length := rfl
  omega
set_option maxRecDepth 100000 in
theorem open_sup {H : Type} {enc : TypeId × Value → H} {w : World} {base b0 : Nat} {spare : Nat → Bool} {held : Bool} {r : Reach} {v : Value} {d : DataW H} {ps : List MemPlace}
    (hv : Value.okWide Try.prog w r b0 24 v) (h : DataW.Trod enc Try.prog w base spare held 24 v d ps) : ∃ a b, v = .agg #[.int .i64 a, .int .i64 b] ∧ True := by
  obtain ⟨v0, v1, y0, y1, n, rfl, _, _, k0, k1⟩ := open_agg2 Try.underlying24 (by kernel_rfl) (by kernel_rfl) hv h
  obtain ⟨a, e0, _⟩ := DataW.trod_int Try.underlying3 k0
  obtain ⟨b, e1, _⟩ := DataW.trod_int Try.underlying3 k1
  simp at e0 e1
  exact ⟨a, b, by rw [e0, e1], trivial⟩
end Go.Proofs.Ytmahagcghpoekaa
namespace Go.Proofs.Ytmahagcghpoekaa
open Go.ChangeShapes Go.WideShapes Go.ChangeAt Go.RowKit Go.Joins Go.Deep
set_option linter.unusedSimpArgs false
set_option linter.unusedVariables false
theorem opensB_pair : OpensB Try.prog 26 (fun _ cs (y : P2) => cs = enc2 y ∧ True) := by
  intro H enc w base spare held fuel cs x h _
  obtain ⟨y, hy⟩ := opens_pair (P := Try.prog) (t := 26) (e := 3) Try.underlying26 Try.underlying3 (by kernel_rfl) (by kernel_rfl) h
  exact ⟨y, hy, trivial⟩
set_option maxRecDepth 100000 in
theorem open_P2z {H : Type} {enc : TypeId × Value → H} {w : World} {base b0 : Nat} {spare : Nat → Bool} {held : Bool} {r : Reach} {v : Value} {d : DataW H} {ps : List MemPlace}
    (hv : Value.okWide Try.prog w r b0 30 v) (h : DataW.Trod enc Try.prog w base spare held 30 v d ps) (hw : ∀ n ∈ d.weights Try.prog 30, n ≤ reachBytes) :
    ∃ a n c, v = .slice a n c ∧ ∃ xs : List P2, Rd w a n 2 (xs.map enc2) ∧ (n = 0 → (a = none ∧ c = 0) ∨ ∃ ad, a = some ad) ∧ n ≤ 281474976710656 := by
  obtain ⟨a0, n0, c0, rfl⟩ := okWide_slice Try.underlying30 hv
  obtain ⟨fuel, hf⟩ := h
  obtain ⟨ys, a, n, c, e, h1, h2, h3, h4⟩ := opensB_slice (en := enc2) (k := 2) (ok := fun _ _ => True) Try.underlying30 (by kernel_rfl) (by decide) opensB_pair hf hw
  simp [Value.cells] at e
  obtain ⟨rfl, rfl, rfl⟩ := e
  have hb : Try.prog.bytesOf 26 = 16 := by kernel_rfl
  rw [hb] at h4
  refine ⟨_, _, _, rfl, ys, h1, h3, ?_⟩
  simp only [reachBytes] at h4
  omega
end Go.Proofs.Ytmahagcghpoekaa
namespace Go.Proofs.Ytmahagcghpoekaa
open Go.ChangeShapes Go.WideShapes Go.ChangeAt Go.RowKit Go.Joins Go.Deep
set_option linter.unusedSimpArgs false
set_option linter.unusedVariables false
set_option maxRecDepth 100000 in
theorem opensB_row : OpensB Try.prog 30 (fun w cs (v : EvV) => cs = encV v ∧ (Rd w v.a v.n 2 (v.es.map enc2) ∧ v.n ≤ 281474976710656)) := by
  intro H enc w base spare held fuel cs x h hw
  obtain ⟨ys, a, n, c, e, h1, _, _, h4⟩ := opensB_slice (en := enc2) (k := 2) (ok := fun _ _ => True) Try.underlying30 (by kernel_rfl) (by decide) opensB_pair h hw
  have hb : Try.prog.bytesOf 26 = 16 := by kernel_rfl
  rw [hb] at h4
  refine ⟨⟨a, n, c, ys⟩, e, h1, ?_⟩
  simp only [reachBytes] at h4 ⊢
  omega
set_option maxRecDepth 100000 in
theorem opensB_sup : OpensB Try.prog 24 (fun _ cs (y : P2) => cs = enc2 y) := by
  intro H enc w base spare held fuel cs x h _
  obtain ⟨xs, n, _, hx, hl, hxl, hf⟩ := DataW.trod_struct Try.underlying24 h
  have hc : Try.prog.cellsOf 24 = 2 := by kernel_rfl
  have hc1 : Try.prog.cellsOf 3 = 1 := by kernel_rfl
  rw [hc] at hl
  match cs, hl, xs, hxl with
  | [u0, u1], _, [x0, x1], _ =>
    have g0 := hf 0 _ rfl
    have g1 := hf 1 _ rfl
    simp [hc1] at g0 g1
    obtain ⟨p, e0, _⟩ := DataW.trod_int Try.underlying3 g0
    obtain ⟨l, e1, _⟩ := DataW.trod_int Try.underlying3 g1
    simp at e0 e1
    subst e0; subst e1
    exact ⟨(p, l), rfl⟩
/-- how long the parts of a run can be -/
structure RunS (H : RunH) (R : Rn) : Prop where
  t : H.tN ≤ 281474976710656
  e : H.eN ≤ 281474976710656
  b : H.bN ≤ 281474976710656
  s : H.sN ≤ 281474976710656
  p : ∀ t ∈ R.L, t.pcs.length ≤ 281474976710656
  v : ∀ l ∈ R.ev, l.length ≤ 281474976710656
  tn : NilOk H.tA H.tN H.tC
def runC (H : RunH) (fr sl_ : Int) : List Value := [.slice H.tA H.tN H.tC, .int .i64 fr, .int .i64 sl_, .slice H.eA H.eN H.eC, .slice H.bA H.bN H.bC, .slice H.sA H.sN H.sC]
set_option maxRecDepth 100000 in
theorem opensB_run : OpensB Try.prog 32 (fun w cs (y : RunH × Rn) => cs = runC y.1 y.2.fr y.2.sl ∧ (ReadRun w y.1 y.2 ∧ RunS y.1 y.2)) := by
  intro H enc w base spare held fuel cs x h hw
  obtain ⟨xs, n, _, hx, hl, hxl, hf⟩ := DataW.trod_struct Try.underlying32 h
  have hc : Try.prog.cellsOf 32 = 6 := by kernel_rfl
  have hc1 : Try.prog.cellsOf 22 = 1 := by kernel_rfl
  have hc2 : Try.prog.cellsOf 24 = 2 := by kernel_rfl
  have hc3 : Try.prog.cellsOf 25 = 1 := by kernel_rfl
  have hc4 : Try.prog.cellsOf 29 = 1 := by kernel_rfl
  have hc5 : Try.prog.cellsOf 30 = 1 := by kernel_rfl
  have b1 : Try.prog.bytesOf 72 = 64 := by kernel_rfl
  have b3 : Try.prog.bytesOf 30 = 24 := by kernel_rfl
  have b4 : Try.prog.bytesOf 3 = 8 := by kernel_rfl
  have b5 : Try.prog.bytesOf 26 = 16 := by kernel_rfl
  rw [hc] at hl
  rw [hx] at hw
  simp only [DataW.weights, Try.underlying32] at hw
  match cs, hl, xs, hxl with
  | [u0, u1, u2, u3, u4, u5], _, [x0, x1, x2, x3, x4], _ =>
    have g0 := hf 0 _ rfl
    have g1 := hf 1 _ rfl
    have g2 := hf 2 _ rfl
    have g3 := hf 3 _ rfl
    have g4 := hf 4 _ rfl
    simp [hc1, hc2, hc3, hc4, hc5] at g0 g1 g2 g3 g4
    obtain ⟨ts, tA, tN, tC, q0, r0, k0, m0, z0⟩ := opensB_slice (en := encTa) (k := 6) (ok := fun w t => t.ok w ∧ t.n ≤ 281474976710656) Try.underlying22 (by kernel_rfl) (by decide) opensB_task g0 (fun q hq => hw q (by simp [DataW.weightsEach]; exact .inl hq))
    obtain ⟨y, q1⟩ := opensB_sup g1 (fun q hq => hw q (by simp [DataW.weightsEach]; exact .inr (.inl hq)))
    obtain ⟨vs, eA, eN, eC, q2, r2, k2, m2, z2⟩ := opensB_slice (en := encV) (k := 1) (ok := fun w v => Rd w v.a v.n 2 (v.es.map enc2) ∧ v.n ≤ 281474976710656) Try.underlying25 (by kernel_rfl) (by decide) opensB_row g2 (fun q hq => hw q (by simp [DataW.weightsEach]; exact .inr (.inr (.inl hq))))
    obtain ⟨bs, bA, bN, bC, q3, r3, _, m3, z3⟩ := opensB_slice (en := enc1) (k := 1) (ok := fun _ _ => True) Try.underlying29 (by kernel_rfl) (by decide) (opensB_int Try.underlying3) g3 (fun q hq => hw q (by simp [DataW.weightsEach]; exact .inr (.inr (.inr (.inl hq)))))
    obtain ⟨ss, sA, sN, sC, q4, r4, _, m4, z4⟩ := opensB_slice (en := enc2) (k := 2) (ok := fun _ _ => True) Try.underlying30 (by kernel_rfl) (by decide) opensB_pair g4 (fun q hq => hw q (by simp [DataW.weightsEach]; exact .inr (.inr (.inr (.inr hq)))))
    simp only [List.cons.injEq, and_true] at q0 q2 q3 q4
    have q1' : u1 = .int .i64 y.1 ∧ u2 = .int .i64 y.2 := by simpa [enc2] using q1
    clear q1
    obtain ⟨q1, q5⟩ := q1'
    subst q0; subst q1; subst q2; subst q3; subst q4; subst q5
    rw [b1] at z0
    rw [b3] at z2
    rw [b4] at z3
    rw [b5] at z4
    simp only [reachBytes] at z0 z2 z3 z4
    refine ⟨(⟨tA, tN, tC, eA, eN, eC, bA, bN, bC, sA, sN, sC⟩, ⟨ts.map TaV.ta, y.1, y.2, vs.map EvV.es, bs, ss⟩), rfl, ⟨RdT.rdL ⟨r0, fun t ht => (k0 t ht).1⟩, ⟨vs, r2, fun v hv => (k2 v hv).1, rfl⟩, r3, r4⟩, ⟨by simp only []; omega, by simp only []; omega, by simp only []; omega, by simp only []; omega, fun t ht => ?_, fun l hl => ?_, m0⟩⟩
    · obtain ⟨u, hu, rfl⟩ := List.mem_map.1 ht
      have h5 := (k0 u hu).1.1.length
      have h6 := (k0 u hu).2
      have e : (TaV.ta u).pcs.length = u.pcs.length := rfl
      omega
    · obtain ⟨u, hu, rfl⟩ := List.mem_map.1 hl
      have h5 := (k2 u hu).1.length
      have h6 := (k2 u hu).2
      omega
set_option maxRecDepth 100000 in
theorem open_run {H : Type} {enc : TypeId × Value → H} {w : World} {base b0 : Nat} {spare : Nat → Bool} {held : Bool} {r : Reach} {v : Value} {d : DataW H} {ps : List MemPlace}
    (hv : Value.okWide Try.prog w r b0 32 v) (h : DataW.Trod enc Try.prog w base spare held 32 v d ps) (hw : ∀ n ∈ d.weights Try.prog 32, n ≤ reachBytes) :
    ∃ (K : RunH) (R : Rn), v = runV K R.fr R.sl ∧ ReadRun w K R ∧ RunS K R := by
  simp only [Value.okWide, Try.underlying32] at hv
  obtain ⟨cs, rfl, _, _⟩ := hv
  obtain ⟨fuel, hf⟩ := h
  obtain ⟨⟨K, R⟩, e, h1, h2⟩ := opensB_run hf hw
  obtain ⟨l⟩ := cs
  simp only [Value.cells] at e
  refine ⟨K, R, ?_, h1, h2⟩
  rw [show l = runC K R.fr R.sl from e]
  rfl
end Go.Proofs.Ytmahagcghpoekaa
namespace Go.Proofs.Ytmahagcghpoekaa
open Go.RowKit
set_option linter.unusedSimpArgs false
set_option linter.unusedVariables false
end Go.Proofs.Ytmahagcghpoekaa
namespace Go.Proofs.Ytmahagcghpoekaa
open Go.RowKit
set_option linter.unusedSimpArgs false
set_option linter.unusedVariables false
end Go.Proofs.Ytmahagcghpoekaa
namespace Go.Proofs.Ytmahagcghpoekaa
open Go.RowKit
set_option linter.unusedSimpArgs false
set_option linter.unusedVariables false
theorem Rd.en_at {w : World} {a : Option Addr} {n : Nat} {xs : List En} (h : Rd w a n 5 (xs.map encE)) (k : Nat) (hk : k < n) : ∃ (e : En) (b off : Nat), a = some ⟨b, off, none⟩ ∧ b < w.heap.size ∧ xs[k]? = some e ∧
    w.cell? ⟨b, off + k * 5, none⟩ = some (.int .i64 e.m) ∧ w.cell? ⟨b, off + k * 5 + 1, none⟩ = some (.int .i64 e.k) ∧ w.cell? ⟨b, off + k * 5 + 2, none⟩ = some (.int .i64 e.w) ∧ w.cell? ⟨b, off + k * 5 + 3, none⟩ = some (.int .i64 e.a) ∧ w.cell? ⟨b, off + k * 5 + 4, none⟩ = some (.int .i64 e.b) := by
  obtain ⟨x, b, off, rfl, hb, hc, _, hg, _⟩ := h.nextK k hk
  have h0 := hc 0 (by omega)
  have h1 := hc 1 (by omega)
  have h2 := hc 2 (by omega)
  have h3 := hc 3 (by omega)
  have h4 := hc 4 (by omega)
  exact ⟨x, b, off, rfl, hb, hg, h0, h1, h2, h3, h4⟩
end Go.Proofs.Ytmahagcghpoekaa
