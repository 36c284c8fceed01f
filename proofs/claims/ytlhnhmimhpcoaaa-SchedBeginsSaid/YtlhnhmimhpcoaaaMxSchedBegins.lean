/- The walk of SchedBegins: it returns true. The conditions: the run reads as named. -/
import Derived.Test.YtlhnhmimhpcoaaaMg12
import Derived.Test.YtlhnhmimhpcoaaaMg9
namespace Go.Proofs.Ytlhnhmimhpcoaaa
open Go.RowKit
set_option linter.unusedSimpArgs false
set_option linter.unusedVariables false
theorem rSimB_is {H : RunH} {R : Rn} {t : Int} {w : World} {xs : List En} {y : Int} (hR : ReadRun w H R) (h : simR R t = (xs, y)) : Calls Try.prog 16 #[runV H R.fr R.sl, .int .i64 t] w (OutEn w xs y) := by
  have := rSim_any H R t w hR
  rw [h] at this; exact this
theorem Rd.takeE {w : World} {b off n m : Nat} {xs : List En} (h : Rd w (some ⟨b, off, none⟩) n 5 (xs.map encE)) (hm : m ≤ n) : Rd w (some ⟨b, off, none⟩) m 5 ((xs.take m).map encE) := by
  obtain ⟨h1, h2, h3⟩ := h
  have hl : xs.length = n := by simpa using h1
  refine ⟨by simp; omega, by omega, fun hp => ?_⟩
  obtain ⟨b', off', e, hb, hx⟩ := h3 (by omega)
  refine ⟨b', off', e, hb, fun i hi j hj => ?_⟩
  have hi' : i < m := by simpa [hl, Nat.min_eq_left hm] using hi
  have := hx i (by simpa using (by omega : i < xs.length)) j hj
  rw [this]
  simp
theorem slice_en {w : World} {B n c q : Nat} {a : Option Addr} {xs : List En} (h : w.ownsRow B 43 5 (.slice a n c) n (xs.flatMap encE)) (hq : q ≤ n) :
    ∃ (a' : Option Addr) (c' : Nat), (∀ w', (Instr.slice 32 (.slice a n c) none (some (.int .i64 (q : Int))) none).run Try.prog w' = .ok (.slice a' q c') w') ∧ Rd w a' q 5 ((xs.take q).map encE) := by
  have hR := Rd.of_owns encE_len (by decide) h
  have hc := owns_cap h
  cases a with
  | none =>
    have hn : n = 0 := by
      rcases Nat.eq_zero_or_pos n with e | e
      · exact e
      · obtain ⟨_, b, off, e2, _⟩ := hR.en_at 0 e; cases e2
    subst hn
    obtain rfl : q = 0 := by omega
    have hc0 : c = 0 := by
      rcases h.2 with ⟨hv, _⟩ | ⟨g, cap, cur, hv, _⟩
      · simp at hv; exact hv
      · simp at hv
    subst hc0
    exact ⟨none, 0, fun w' => by kernel_rfl, by simpa using Rd.nil (w := w) none (k := 5)⟩
  | some ad =>
    have hoff : ∃ g, ad = ⟨g, 0, none⟩ := by
      rcases h.2 with ⟨hv, _⟩ | ⟨g, cap, cur, hv, _⟩
      · simp at hv
      · simp at hv; exact ⟨g, hv.1⟩
    obtain ⟨g, rfl⟩ := hoff
    refine ⟨some ⟨g, 0, none⟩, c, fun w' => ?_, hR.takeE hq⟩
    rw [run_slice_h (P := Try.prog) w' 32 (some ⟨g, 0, none⟩) n c (by kernel_rfl) .i64 (q : Int) (by omega) (by omega)]
    rw [show (Go.sizeOf (Try.prog.elem 32)).run Try.prog w' = .ok 5 w' by kernel_rfl]
    by_cases hne : c = 0
    · simp [Result.andThen, sliced, hne, Addr.add]
    · simp [Result.andThen, sliced, hne, Addr.add]
theorem sim_pre {R : Rn} {t f : Int} {es fs : List En} (h : simR R t = (es, 0)) (k : simR R f = (fs, 0)) (hf : f ≤ t) : es.take fs.length = fs ∧ fs.length ≤ es.length := by
  have key : ∀ {t : Int} {es : List En}, simR R t = (es, 0) → 0 ≤ t ∧ es = (plM R t.toNat).o := by
    intro t es h
    unfold simR at h
    split at h
    · rename_i hc
      rw [Bool.and_eq_true, inB_iff] at hc
      exact ⟨hc.2.1, (congrArg Prod.fst h).symm⟩
    · have := congrArg Prod.snd h; simp at this
  obtain ⟨h1, rfl⟩ := key h
  obtain ⟨k1, rfl⟩ := key k
  have := plM_pre R (t.toNat - f.toNat) f.toNat
  rw [show f.toNat + (t.toNat - f.toNat) = t.toNat by omega] at this
  exact ⟨(List.prefix_iff_eq_take.1 this).symm, this.length_le⟩
set_option maxRecDepth 100000 in
set_option maxHeartbeats 4000000 in
theorem begins_walk {w : World} (H : RunH) (R : Rn) (hR : ReadRun w H R) (hS : RunS H R) (t : Int) (ht : -9223372036854775808 ≤ t ∧ t ≤ 9223372036854775807) (f : Int) (hf : -9223372036854775808 ≤ f ∧ f ≤ 9223372036854775807) :
    Calls Try.prog 4 #[runV H R.fr R.sl, .int .i64 t, .int .i64 f] w fun e w' => e = .returned (.bool true) ∧ Below w.heap.size w w' := by
  have HH := Lib.hid (fun w1 (hb : Below w.heap.size w w1) => heavy_any H R w1 (hR.ext hb) hS)
  obtain ⟨es, er, hE⟩ : ∃ es er, simR R t = (es, er) := ⟨_, _, rfl⟩
  obtain ⟨fs, fr_, hF⟩ : ∃ es er, simR R f = (es, er) := ⟨_, _, rfl⟩
  have HS := Lib.hid (fun w1 (hb : Below w.heap.size w w1) => Sim_is (hR.ext hb) hE)
  have HSF := Lib.hid (fun w1 (hb : Below w.heap.size w w1) => Sim_is (hR.ext hb) hF)
  have HRS := Lib.hid (fun w1 (hb : Below w.heap.size w w1) => rSimB_is (hR.ext hb) hE)
  have HRF := Lib.hid (fun w1 (hb : Below w.heap.size w w1) => rSimB_is (hR.ext hb) hF)
  have HAS := Lib.hid (as_any H R.fr R.sl)
  obtain ⟨B, hB⟩ : ∃ B, heavyB R = B := ⟨_, rfl⟩
  rw [hB] at HH
  have hbe := sim_bad hE
  have hbf := sim_bad hF
  have HE := Lib.hid hE; have HF := Lib.hid hF
  have HBE := Lib.hid hbe; have HBF := Lib.hid hbf
  obtain ⟨fr, hfr⟩ : ∃ x, R.fr = x := ⟨_, rfl⟩
  obtain ⟨sl_, hsl⟩ : ∃ x, R.sl = x := ⟨_, rfl⟩
  rw [hfr, hsl] at HH HS HSF HAS HRS HRF ⊢
  obtain ⟨tA, tN, tC, eA, eN, eC, bA, bN, bC, sA, sN, sC⟩ := H
  unfold runV at HH HS HSF HAS HRS HRF ⊢
  simp only [] at HH HS HSF HAS HRS HRF ⊢
  clear hR hS hE hF hB hfr hsl hbe hbf
  cases B
  · by_cases hft : t < f
    · have hft' : decide (t < f) = true := by simpa using hft
      go_enter Try.func4, Try.ntmps4
      go_wp2_with (first | (go_at_call 13; (with_reducible refine (HH.out _ (by (repeat' (first | (with_reducible exact Below.refl _ _) | (with_reducible assumption) | (with_reducible refine Below.alloc ?_ ?_ _) | (with_reducible refine Below.drew ?_) | (with_reducible refine Below.draws ?_ _) | (with_reducible refine Below.setCell ?_ ?_ _) | (refine Below.then ?_ (by with_reducible assumption)) | go_size)))).mono ?_); rintro e w1 ⟨rfl, hb1⟩; have B1 : Hid (Below w.heap.size w w1) := Lib.hid (Below.trans (by (repeat' (first | (with_reducible exact Below.refl _ _) | (with_reducible assumption) | (with_reducible refine Below.alloc ?_ ?_ _) | (with_reducible refine Below.drew ?_) | (with_reducible refine Below.draws ?_ _) | (with_reducible refine Below.setCell ?_ ?_ _) | (refine Below.then ?_ (by with_reducible assumption)) | go_size))) (hb1.mono (by simp))); have z1 : w.heap.size < w1.heap.size := Nat.lt_of_lt_of_le (by simp) hb1.size; have c1_0 := (hb1.cell (p := ⟨w.heap.size, 0, none⟩) (by simp)).trans (by simp [go_sem]; rfl); have c1_1 := (hb1.cell (p := ⟨w.heap.size, 1, none⟩) (by simp)).trans (by simp [go_sem]; rfl); have c1_2 := (hb1.cell (p := ⟨w.heap.size, 2, none⟩) (by simp)).trans (by simp [go_sem]; rfl); have c1_3 := (hb1.cell (p := ⟨w.heap.size, 3, none⟩) (by simp)).trans (by simp [go_sem]; rfl); have c1_4 := (hb1.cell (p := ⟨w.heap.size, 4, none⟩) (by simp)).trans (by simp [go_sem]; rfl); have c1_5 := (hb1.cell (p := ⟨w.heap.size, 5, none⟩) (by simp)).trans (by simp [go_sem]; rfl); clear hb1) | (go_at_call 14; (with_reducible refine (sane_any _).mono ?_); rintro e w9 ⟨rfl, hb9⟩))
      go_ret
      exact ⟨rfl, Below.then B1.out hb9⟩
    · have hft' : decide (t < f) = false := by simpa using hft
      by_cases h0 : er = 0
      · subst h0
        by_cases k0 : fr_ = 0
        · subst k0
          obtain ⟨hp1, hp2⟩ := sim_pre HE.out HF.out (by omega)
          have HP1 := Lib.hid hp1; have HP2 := Lib.hid hp2
          clear hp1 hp2
          go_enter Try.func4, Try.ntmps4
          go_upto_region 9 with (first | (go_at_call 13; (with_reducible refine (HH.out _ (by (repeat' (first | (with_reducible exact Below.refl _ _) | (with_reducible assumption) | (with_reducible refine Below.alloc ?_ ?_ _) | (with_reducible refine Below.drew ?_) | (with_reducible refine Below.draws ?_ _) | (with_reducible refine Below.setCell ?_ ?_ _) | (refine Below.then ?_ (by with_reducible assumption)) | go_size)))).mono ?_); rintro e w1 ⟨rfl, hb1⟩; have B1 : Hid (Below w.heap.size w w1) := Lib.hid (Below.trans (by (repeat' (first | (with_reducible exact Below.refl _ _) | (with_reducible assumption) | (with_reducible refine Below.alloc ?_ ?_ _) | (with_reducible refine Below.drew ?_) | (with_reducible refine Below.draws ?_ _) | (with_reducible refine Below.setCell ?_ ?_ _) | (refine Below.then ?_ (by with_reducible assumption)) | go_size))) (hb1.mono (by simp))); have z1 : w.heap.size < w1.heap.size := Nat.lt_of_lt_of_le (by simp) hb1.size; have c1_0 := (hb1.cell (p := ⟨w.heap.size, 0, none⟩) (by simp)).trans (by simp [go_sem]; rfl); have c1_1 := (hb1.cell (p := ⟨w.heap.size, 1, none⟩) (by simp)).trans (by simp [go_sem]; rfl); have c1_2 := (hb1.cell (p := ⟨w.heap.size, 2, none⟩) (by simp)).trans (by simp [go_sem]; rfl); have c1_3 := (hb1.cell (p := ⟨w.heap.size, 3, none⟩) (by simp)).trans (by simp [go_sem]; rfl); have c1_4 := (hb1.cell (p := ⟨w.heap.size, 4, none⟩) (by simp)).trans (by simp [go_sem]; rfl); have c1_5 := (hb1.cell (p := ⟨w.heap.size, 5, none⟩) (by simp)).trans (by simp [go_sem]; rfl); clear hb1) | (go_at_call 15; (with_reducible refine (HSF.out _ B2.out).mono ?_); rintro e w3 ⟨a3, n3, x3, rfl, h3, hb3⟩; have HO3 := Lib.hid h3; have HO23 := Lib.hid (owns_ext HO2.out hb3); clear h3; have B3 := Lib.hid (Below.then B2.out hb3); have z3 : w.heap.size < w3.heap.size := Nat.lt_of_lt_of_le z2 hb3.size; have c3_0 := (hb3.cell (p := ⟨w.heap.size, 0, none⟩) z2).trans c2_0; have c3_1 := (hb3.cell (p := ⟨w.heap.size, 1, none⟩) z2).trans c2_1; have c3_2 := (hb3.cell (p := ⟨w.heap.size, 2, none⟩) z2).trans c2_2; have c3_3 := (hb3.cell (p := ⟨w.heap.size, 3, none⟩) z2).trans c2_3; have c3_4 := (hb3.cell (p := ⟨w.heap.size, 4, none⟩) z2).trans c2_4; have c3_5 := (hb3.cell (p := ⟨w.heap.size, 5, none⟩) z2).trans c2_5; clear hb3 c2_0 c2_1 c2_2 c2_3 c2_4 c2_5) | (go_at_call 15; (with_reducible refine (HS.out _ B1.out).mono ?_); rintro e w2 ⟨a2, n2, x2, rfl, h2, hb2⟩; have HO2 := Lib.hid h2; clear h2; have B2 := Lib.hid (Below.then B1.out hb2); have z2 : w.heap.size < w2.heap.size := Nat.lt_of_lt_of_le z1 hb2.size; have c2_0 := (hb2.cell (p := ⟨w.heap.size, 0, none⟩) z1).trans c1_0; have c2_1 := (hb2.cell (p := ⟨w.heap.size, 1, none⟩) z1).trans c1_1; have c2_2 := (hb2.cell (p := ⟨w.heap.size, 2, none⟩) z1).trans c1_2; have c2_3 := (hb2.cell (p := ⟨w.heap.size, 3, none⟩) z1).trans c1_3; have c2_4 := (hb2.cell (p := ⟨w.heap.size, 4, none⟩) z1).trans c1_4; have c2_5 := (hb2.cell (p := ⟨w.heap.size, 5, none⟩) z1).trans c1_5; clear hb2 c1_0 c1_1 c1_2 c1_3 c1_4 c1_5))
          have hn3 := (Rd.of_owns encE_len (by decide) HO3.out).length
          have hn2 := (Rd.of_owns encE_len (by decide) HO2.out).length
          have hle : n3 ≤ n2 := by rw [← hn3, ← hn2]; exact HP2.out
          obtain ⟨a', c', hs1, hd1⟩ := slice_en HO23.out hle
          rw [show es.take n3 = fs by rw [← hn3]; exact HP1.out] at hd1
          have HD1 := Lib.hid hd1
          have HRF3 := Lib.hid (Rd.of_owns encE_len (by decide) HO3.out)
          have hle' : decide ((n3 : Int) ≤ (n2 : Int)) = true := by simp; omega
          have hle'' : decide (n3 ≤ n2) = true := by simpa using hle
          clear hd1 hn2 hn3 HH HS HSF HAS HRS HRF
          go_wp2_with (first
            | (go_at_call 18; (with_reducible refine (entries_eq _ _ _ _ _ _ fs _ HD1.out HRF3.out).mono ?_); rintro e w4 ⟨rfl, hb4⟩; have B4 := Lib.hid (Below.then B3.out hb4); clear hb4)
            | (go_at_call 14; (with_reducible refine (sane_any _).mono ?_); rintro e w9 ⟨rfl, hb9⟩))
          go_ret
          exact ⟨rfl, Below.then B4.out hb9⟩
        · have k0' : (fr_ != 0) = true := by simpa using k0
          go_enter Try.func4, Try.ntmps4
          go_wp2_with (first | (go_at_call 13; (with_reducible refine (HH.out _ (by (repeat' (first | (with_reducible exact Below.refl _ _) | (with_reducible assumption) | (with_reducible refine Below.alloc ?_ ?_ _) | (with_reducible refine Below.drew ?_) | (with_reducible refine Below.draws ?_ _) | (with_reducible refine Below.setCell ?_ ?_ _) | (refine Below.then ?_ (by with_reducible assumption)) | go_size)))).mono ?_); rintro e w1 ⟨rfl, hb1⟩; have B1 : Hid (Below w.heap.size w w1) := Lib.hid (Below.trans (by (repeat' (first | (with_reducible exact Below.refl _ _) | (with_reducible assumption) | (with_reducible refine Below.alloc ?_ ?_ _) | (with_reducible refine Below.drew ?_) | (with_reducible refine Below.draws ?_ _) | (with_reducible refine Below.setCell ?_ ?_ _) | (refine Below.then ?_ (by with_reducible assumption)) | go_size))) (hb1.mono (by simp))); have z1 : w.heap.size < w1.heap.size := Nat.lt_of_lt_of_le (by simp) hb1.size; have c1_0 := (hb1.cell (p := ⟨w.heap.size, 0, none⟩) (by simp)).trans (by simp [go_sem]; rfl); have c1_1 := (hb1.cell (p := ⟨w.heap.size, 1, none⟩) (by simp)).trans (by simp [go_sem]; rfl); have c1_2 := (hb1.cell (p := ⟨w.heap.size, 2, none⟩) (by simp)).trans (by simp [go_sem]; rfl); have c1_3 := (hb1.cell (p := ⟨w.heap.size, 3, none⟩) (by simp)).trans (by simp [go_sem]; rfl); have c1_4 := (hb1.cell (p := ⟨w.heap.size, 4, none⟩) (by simp)).trans (by simp [go_sem]; rfl); have c1_5 := (hb1.cell (p := ⟨w.heap.size, 5, none⟩) (by simp)).trans (by simp [go_sem]; rfl); clear hb1) | (go_at_call 15; (with_reducible refine (HSF.out _ B2.out).mono ?_); rintro e w3 ⟨a3, n3, x3, rfl, h3, hb3⟩; have HO3 := Lib.hid h3; have HO23 := Lib.hid (owns_ext HO2.out hb3); clear h3; have B3 := Lib.hid (Below.then B2.out hb3); have z3 : w.heap.size < w3.heap.size := Nat.lt_of_lt_of_le z2 hb3.size; have c3_0 := (hb3.cell (p := ⟨w.heap.size, 0, none⟩) z2).trans c2_0; have c3_1 := (hb3.cell (p := ⟨w.heap.size, 1, none⟩) z2).trans c2_1; have c3_2 := (hb3.cell (p := ⟨w.heap.size, 2, none⟩) z2).trans c2_2; have c3_3 := (hb3.cell (p := ⟨w.heap.size, 3, none⟩) z2).trans c2_3; have c3_4 := (hb3.cell (p := ⟨w.heap.size, 4, none⟩) z2).trans c2_4; have c3_5 := (hb3.cell (p := ⟨w.heap.size, 5, none⟩) z2).trans c2_5; clear hb3 c2_0 c2_1 c2_2 c2_3 c2_4 c2_5) | (go_at_call 15; (with_reducible refine (HS.out _ B1.out).mono ?_); rintro e w2 ⟨a2, n2, x2, rfl, h2, hb2⟩; have HO2 := Lib.hid h2; clear h2; have B2 := Lib.hid (Below.then B1.out hb2); have z2 : w.heap.size < w2.heap.size := Nat.lt_of_lt_of_le z1 hb2.size; have c2_0 := (hb2.cell (p := ⟨w.heap.size, 0, none⟩) z1).trans c1_0; have c2_1 := (hb2.cell (p := ⟨w.heap.size, 1, none⟩) z1).trans c1_1; have c2_2 := (hb2.cell (p := ⟨w.heap.size, 2, none⟩) z1).trans c1_2; have c2_3 := (hb2.cell (p := ⟨w.heap.size, 3, none⟩) z1).trans c1_3; have c2_4 := (hb2.cell (p := ⟨w.heap.size, 4, none⟩) z1).trans c1_4; have c2_5 := (hb2.cell (p := ⟨w.heap.size, 5, none⟩) z1).trans c1_5; clear hb2 c1_0 c1_1 c1_2 c1_3 c1_4 c1_5) | (go_at_call 17; (with_reducible refine (HAS.out _).mono ?_); rintro e w6 ⟨rfl, hb6⟩; have B6 := Lib.hid (Below.then B5.out hb6); clear hb6) | (go_at_call 17; (with_reducible refine (HAS.out _).mono ?_); rintro e w4 ⟨rfl, hb4⟩; have B4 := Lib.hid (Below.then B3.out hb4); have z4 : w.heap.size < w4.heap.size := Nat.lt_of_lt_of_le z3 hb4.size; have c4_0 := (hb4.cell (p := ⟨w.heap.size, 0, none⟩) z3).trans c3_0; have c4_1 := (hb4.cell (p := ⟨w.heap.size, 1, none⟩) z3).trans c3_1; have c4_2 := (hb4.cell (p := ⟨w.heap.size, 2, none⟩) z3).trans c3_2; have c4_3 := (hb4.cell (p := ⟨w.heap.size, 3, none⟩) z3).trans c3_3; have c4_4 := (hb4.cell (p := ⟨w.heap.size, 4, none⟩) z3).trans c3_4; have c4_5 := (hb4.cell (p := ⟨w.heap.size, 5, none⟩) z3).trans c3_5; clear hb4 c3_0 c3_1 c3_2 c3_3 c3_4 c3_5) | (go_at_call 16; (with_reducible refine (HRF.out _ B6.out).mono ?_); rintro e w7 ⟨a7, n7, x7, rfl, h7, hb7⟩; have B7 := Lib.hid (Below.then B6.out hb7); clear h7 hb7) | (go_at_call 16; (with_reducible refine (HRS.out _ B4.out).mono ?_); rintro e w5 ⟨a5, n5, x5, rfl, h5, hb5⟩; clear h5; have B5 := Lib.hid (Below.then B4.out hb5); have z5 : w.heap.size < w5.heap.size := Nat.lt_of_lt_of_le z4 hb5.size; have c5_0 := (hb5.cell (p := ⟨w.heap.size, 0, none⟩) z4).trans c4_0; have c5_1 := (hb5.cell (p := ⟨w.heap.size, 1, none⟩) z4).trans c4_1; have c5_2 := (hb5.cell (p := ⟨w.heap.size, 2, none⟩) z4).trans c4_2; have c5_3 := (hb5.cell (p := ⟨w.heap.size, 3, none⟩) z4).trans c4_3; have c5_4 := (hb5.cell (p := ⟨w.heap.size, 4, none⟩) z4).trans c4_4; have c5_5 := (hb5.cell (p := ⟨w.heap.size, 5, none⟩) z4).trans c4_5; clear hb5 c4_0 c4_1 c4_2 c4_3 c4_4 c4_5) | (go_at_call 14; (with_reducible refine (sane_any _).mono ?_); rintro e w9 ⟨rfl, hb9⟩))
          go_ret
          exact ⟨rfl, Below.then B7.out hb9⟩
      · have h0' : (er != 0) = true := by simpa using h0
        go_enter Try.func4, Try.ntmps4
        go_wp2_with (first | (go_at_call 13; (with_reducible refine (HH.out _ (by (repeat' (first | (with_reducible exact Below.refl _ _) | (with_reducible assumption) | (with_reducible refine Below.alloc ?_ ?_ _) | (with_reducible refine Below.drew ?_) | (with_reducible refine Below.draws ?_ _) | (with_reducible refine Below.setCell ?_ ?_ _) | (refine Below.then ?_ (by with_reducible assumption)) | go_size)))).mono ?_); rintro e w1 ⟨rfl, hb1⟩; have B1 : Hid (Below w.heap.size w w1) := Lib.hid (Below.trans (by (repeat' (first | (with_reducible exact Below.refl _ _) | (with_reducible assumption) | (with_reducible refine Below.alloc ?_ ?_ _) | (with_reducible refine Below.drew ?_) | (with_reducible refine Below.draws ?_ _) | (with_reducible refine Below.setCell ?_ ?_ _) | (refine Below.then ?_ (by with_reducible assumption)) | go_size))) (hb1.mono (by simp))); have z1 : w.heap.size < w1.heap.size := Nat.lt_of_lt_of_le (by simp) hb1.size; have c1_0 := (hb1.cell (p := ⟨w.heap.size, 0, none⟩) (by simp)).trans (by simp [go_sem]; rfl); have c1_1 := (hb1.cell (p := ⟨w.heap.size, 1, none⟩) (by simp)).trans (by simp [go_sem]; rfl); have c1_2 := (hb1.cell (p := ⟨w.heap.size, 2, none⟩) (by simp)).trans (by simp [go_sem]; rfl); have c1_3 := (hb1.cell (p := ⟨w.heap.size, 3, none⟩) (by simp)).trans (by simp [go_sem]; rfl); have c1_4 := (hb1.cell (p := ⟨w.heap.size, 4, none⟩) (by simp)).trans (by simp [go_sem]; rfl); have c1_5 := (hb1.cell (p := ⟨w.heap.size, 5, none⟩) (by simp)).trans (by simp [go_sem]; rfl); clear hb1) | (go_at_call 15; (with_reducible refine (HSF.out _ B2.out).mono ?_); rintro e w3 ⟨a3, n3, x3, rfl, h3, hb3⟩; have HO3 := Lib.hid h3; have HO23 := Lib.hid (owns_ext HO2.out hb3); clear h3; have B3 := Lib.hid (Below.then B2.out hb3); have z3 : w.heap.size < w3.heap.size := Nat.lt_of_lt_of_le z2 hb3.size; have c3_0 := (hb3.cell (p := ⟨w.heap.size, 0, none⟩) z2).trans c2_0; have c3_1 := (hb3.cell (p := ⟨w.heap.size, 1, none⟩) z2).trans c2_1; have c3_2 := (hb3.cell (p := ⟨w.heap.size, 2, none⟩) z2).trans c2_2; have c3_3 := (hb3.cell (p := ⟨w.heap.size, 3, none⟩) z2).trans c2_3; have c3_4 := (hb3.cell (p := ⟨w.heap.size, 4, none⟩) z2).trans c2_4; have c3_5 := (hb3.cell (p := ⟨w.heap.size, 5, none⟩) z2).trans c2_5; clear hb3 c2_0 c2_1 c2_2 c2_3 c2_4 c2_5) | (go_at_call 15; (with_reducible refine (HS.out _ B1.out).mono ?_); rintro e w2 ⟨a2, n2, x2, rfl, h2, hb2⟩; have HO2 := Lib.hid h2; clear h2; have B2 := Lib.hid (Below.then B1.out hb2); have z2 : w.heap.size < w2.heap.size := Nat.lt_of_lt_of_le z1 hb2.size; have c2_0 := (hb2.cell (p := ⟨w.heap.size, 0, none⟩) z1).trans c1_0; have c2_1 := (hb2.cell (p := ⟨w.heap.size, 1, none⟩) z1).trans c1_1; have c2_2 := (hb2.cell (p := ⟨w.heap.size, 2, none⟩) z1).trans c1_2; have c2_3 := (hb2.cell (p := ⟨w.heap.size, 3, none⟩) z1).trans c1_3; have c2_4 := (hb2.cell (p := ⟨w.heap.size, 4, none⟩) z1).trans c1_4; have c2_5 := (hb2.cell (p := ⟨w.heap.size, 5, none⟩) z1).trans c1_5; clear hb2 c1_0 c1_1 c1_2 c1_3 c1_4 c1_5) | (go_at_call 17; (with_reducible refine (HAS.out _).mono ?_); rintro e w6 ⟨rfl, hb6⟩; have B6 := Lib.hid (Below.then B5.out hb6); clear hb6) | (go_at_call 17; (with_reducible refine (HAS.out _).mono ?_); rintro e w4 ⟨rfl, hb4⟩; have B4 := Lib.hid (Below.then B3.out hb4); have z4 : w.heap.size < w4.heap.size := Nat.lt_of_lt_of_le z3 hb4.size; have c4_0 := (hb4.cell (p := ⟨w.heap.size, 0, none⟩) z3).trans c3_0; have c4_1 := (hb4.cell (p := ⟨w.heap.size, 1, none⟩) z3).trans c3_1; have c4_2 := (hb4.cell (p := ⟨w.heap.size, 2, none⟩) z3).trans c3_2; have c4_3 := (hb4.cell (p := ⟨w.heap.size, 3, none⟩) z3).trans c3_3; have c4_4 := (hb4.cell (p := ⟨w.heap.size, 4, none⟩) z3).trans c3_4; have c4_5 := (hb4.cell (p := ⟨w.heap.size, 5, none⟩) z3).trans c3_5; clear hb4 c3_0 c3_1 c3_2 c3_3 c3_4 c3_5) | (go_at_call 16; (with_reducible refine (HRF.out _ B6.out).mono ?_); rintro e w7 ⟨a7, n7, x7, rfl, h7, hb7⟩; have B7 := Lib.hid (Below.then B6.out hb7); clear h7 hb7) | (go_at_call 16; (with_reducible refine (HRS.out _ B4.out).mono ?_); rintro e w5 ⟨a5, n5, x5, rfl, h5, hb5⟩; clear h5; have B5 := Lib.hid (Below.then B4.out hb5); have z5 : w.heap.size < w5.heap.size := Nat.lt_of_lt_of_le z4 hb5.size; have c5_0 := (hb5.cell (p := ⟨w.heap.size, 0, none⟩) z4).trans c4_0; have c5_1 := (hb5.cell (p := ⟨w.heap.size, 1, none⟩) z4).trans c4_1; have c5_2 := (hb5.cell (p := ⟨w.heap.size, 2, none⟩) z4).trans c4_2; have c5_3 := (hb5.cell (p := ⟨w.heap.size, 3, none⟩) z4).trans c4_3; have c5_4 := (hb5.cell (p := ⟨w.heap.size, 4, none⟩) z4).trans c4_4; have c5_5 := (hb5.cell (p := ⟨w.heap.size, 5, none⟩) z4).trans c4_5; clear hb5 c4_0 c4_1 c4_2 c4_3 c4_4 c4_5) | (go_at_call 14; (with_reducible refine (sane_any _).mono ?_); rintro e w9 ⟨rfl, hb9⟩))
        go_ret
        exact ⟨rfl, Below.then B7.out hb9⟩
  · go_enter Try.func4, Try.ntmps4
    go_wp2_with (first | (go_at_call 13; (with_reducible refine (HH.out _ (by (repeat' (first | (with_reducible exact Below.refl _ _) | (with_reducible assumption) | (with_reducible refine Below.alloc ?_ ?_ _) | (with_reducible refine Below.drew ?_) | (with_reducible refine Below.draws ?_ _) | (with_reducible refine Below.setCell ?_ ?_ _) | (refine Below.then ?_ (by with_reducible assumption)) | go_size)))).mono ?_); rintro e w1 ⟨rfl, hb1⟩; have B1 : Hid (Below w.heap.size w w1) := Lib.hid (Below.trans (by (repeat' (first | (with_reducible exact Below.refl _ _) | (with_reducible assumption) | (with_reducible refine Below.alloc ?_ ?_ _) | (with_reducible refine Below.drew ?_) | (with_reducible refine Below.draws ?_ _) | (with_reducible refine Below.setCell ?_ ?_ _) | (refine Below.then ?_ (by with_reducible assumption)) | go_size))) (hb1.mono (by simp))); have z1 : w.heap.size < w1.heap.size := Nat.lt_of_lt_of_le (by simp) hb1.size; have c1_0 := (hb1.cell (p := ⟨w.heap.size, 0, none⟩) (by simp)).trans (by simp [go_sem]; rfl); have c1_1 := (hb1.cell (p := ⟨w.heap.size, 1, none⟩) (by simp)).trans (by simp [go_sem]; rfl); have c1_2 := (hb1.cell (p := ⟨w.heap.size, 2, none⟩) (by simp)).trans (by simp [go_sem]; rfl); have c1_3 := (hb1.cell (p := ⟨w.heap.size, 3, none⟩) (by simp)).trans (by simp [go_sem]; rfl); have c1_4 := (hb1.cell (p := ⟨w.heap.size, 4, none⟩) (by simp)).trans (by simp [go_sem]; rfl); have c1_5 := (hb1.cell (p := ⟨w.heap.size, 5, none⟩) (by simp)).trans (by simp [go_sem]; rfl); clear hb1) | (go_at_call 14; (with_reducible refine (sane_any _).mono ?_); rintro e w9 ⟨rfl, hb9⟩))
    go_ret
    exact ⟨rfl, Below.then B1.out hb9⟩
end Go.Proofs.Ytlhnhmimhpcoaaa
