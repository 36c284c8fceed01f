/- From what a row says of lists of lists of pairs to what the walks use. No condition: plain lemmas. The walk of TopAssigned: it returns true. The conditions: the tasks and the lists read as named. -/
import Derived.Test.YtmahagcghpoekaaGreatMg12
import Derived.Test.YtmahagcghpoekaaGreatMg20
import Derived.Test.YtmahagcghpoekaaGreatMg21
namespace Go.Proofs.YtmahagcghpoekaaGreat
open Go.ChangeShapes Go.WideShapes Go.ChangeAt Go.RowKit Go.Joins Go.Deep
set_option linter.unusedSimpArgs false
set_option linter.unusedVariables false
set_option maxRecDepth 100000 in
theorem open_lt {H : Type} {enc : TypeId × Value → H} {w : World} {base b0 : Nat} {spare : Nat → Bool} {held : Bool} {r : Reach} {v : Value} {d : DataW H} {ps : List MemPlace}
    (hv : Value.okWide Tryz.prog w r b0 25 v) (h : DataW.Trod enc Tryz.prog w base spare held 25 v d ps) (hw : ∀ n ∈ d.weights Tryz.prog 25, n ≤ reachBytes) :
    ∃ a n c, v = .slice a n c ∧ ∃ late : List (List P2), EvL w a n late := by
  obtain ⟨a0, n0, c0, rfl⟩ := okWide_slice Tryz.underlying25 hv
  obtain ⟨fuel, hf⟩ := h
  obtain ⟨ys, a, n, c, e, h1, h2, h3, _⟩ := opensB_slice (en := encV) (k := 1) (ok := fun w v => Rd w v.a v.n 2 (v.es.map enc2) ∧ v.n ≤ 281474976710656) Tryz.underlying25 (by kernel_rfl) (by decide) opensB_row hf hw
  simp [Value.cells] at e
  obtain ⟨rfl, rfl, rfl⟩ := e
  exact ⟨_, _, _, rfl, ys.map EvV.es, ys, h1, fun v hv => (h2 v hv).1, rfl⟩
end Go.Proofs.YtmahagcghpoekaaGreat
namespace Go.Proofs.YtmahagcghpoekaaGreat
open Go.RowKit
set_option linter.unusedSimpArgs false
set_option linter.unusedVariables false
theorem asg_err {L : List Ta} {F S : Int} {xs : List Int} {y : Int} (hok : okB L F S = true) (h : asgR L F S = (xs, y)) (hy : y ≠ 0) : y = 3 := by
  rw [asgR_ok hok] at h
  cases hp : asgF L F S L.length (idxs L.length) [] with
  | none => rw [hp] at h; simp [asgEnd] at h; omega
  | some p =>
    rw [hp, asgEnd] at h
    split at h
    · simp at h; omega
    · simp at h; omega
set_option maxRecDepth 100000 in
set_option maxHeartbeats 8000000 in
theorem assigned_walk {w : World} (a : Option Addr) (n c : Nat) (L : List Ta) (hL : RdL w a n L) (hT : ∀ t ∈ L, t.pcs.length ≤ 281474976710656) (hN : NilOk a n c) (F S : Int) (la : Option Addr) (ln lc : Nat) (late : List (List P2)) (hE : EvL w la ln late) (t : Int) (ht : -9223372036854775808 ≤ t ∧ t ≤ 9223372036854775807) :
    Calls Tryz.prog 4 #[.slice a n c, .agg #[.int .i64 F, .int .i64 S], .slice la ln lc, .int .i64 t] w fun e w' => e = .returned (.bool true) ∧ Below w.heap.size w w' := by
  have HRD := Lib.hid (fun w1 (hb : Below w.heap.size w w1) => readyB_any a n c L F S la ln lc t w1 (hL.ext hb) hT)
  obtain ⟨B, hB⟩ : ∃ B, rdyB n L F S ln t = B := ⟨_, rfl⟩
  rw [hB] at HRD
  cases B
  · clear hL hT hN hE hB
    go_enter Tryz.func4, Tryz.ntmps4
    go_wp2_with (first | (go_at_call 12; (with_reducible refine (HRD.out _ (by (repeat' (first | (with_reducible exact Below.refl _ _) | (with_reducible assumption) | (with_reducible refine Below.alloc ?_ ?_ _) | (with_reducible refine Below.drew ?_) | (with_reducible refine Below.draws ?_ _) | (with_reducible refine Below.setCell ?_ ?_ _) | (refine Below.then ?_ (by with_reducible assumption)) | go_size)))).mono ?_); rintro e w1 ⟨rfl, hb1⟩; have x0 := (hb1.cell (p := ⟨w.heap.size, 0, none⟩) (by simp)).trans (show _ = some (.int .i64 F) by simp [go_sem]); have x1 := (hb1.cell (p := ⟨w.heap.size, 1, none⟩) (by simp)).trans (show _ = some (.int .i64 S) by simp [go_sem]); have B1 : Hid (Below w.heap.size w w1) := Lib.hid (Below.trans (by (repeat' (first | (with_reducible exact Below.refl _ _) | (with_reducible assumption) | (with_reducible refine Below.alloc ?_ ?_ _) | (with_reducible refine Below.drew ?_) | (with_reducible refine Below.draws ?_ _) | (with_reducible refine Below.setCell ?_ ?_ _) | (refine Below.then ?_ (by with_reducible assumption)) | go_size))) (hb1.mono (by simp))); have z1 : w.heap.size < w1.heap.size := Nat.lt_of_lt_of_le (by simp) hb1.size; clear hb1) | (go_at_call 13; (with_reducible refine (awake_any _).mono ?_); rintro e w9 ⟨rfl, hb9⟩))
    go_ret
    exact ⟨rfl, Below.then B1.out hb9⟩
  · unfold rdyB at hB
    simp only [Bool.and_eq_true, decide_eq_true_eq] at hB
    obtain ⟨_, _, ht2, hvl, hsup⟩ := hB
    have hok : okB L F S = true := by unfold okB; rw [hvl, hsup]; rfl
    obtain ⟨xs, y, has⟩ : ∃ x y, asgR L F S = (x, y) := ⟨_, _, rfl⟩
    have HAS := Lib.hid has
    have HL := Lib.hid hL; have HN := Lib.hid hN; have HE := Lib.hid hE
    by_cases hy : y = 0
    · subst hy
      have hO := asgR_is has
      have HOK := Lib.hid hO
      have hll := hL.length
      have hn5 : n ≤ 5 := by rw [← hll]; exact hO.v.r.len
      have HP : Hid (∀ t ∈ L, t.pcs.length ≤ 1000) := Lib.hid (fun t ht => by have := (hO.v.r.pcs t ht).2; omega)
      have HLL := Lib.hid hll
      have HT2 := Lib.hid ht2; have HSUP := Lib.hid hsup
      clear hL hT hN hE hO has hll hok
      go_enter Tryz.func4, Tryz.ntmps4
      go_upto_region 7 with (first | (go_at_call 12; (with_reducible refine (HRD.out _ (by (repeat' (first | (with_reducible exact Below.refl _ _) | (with_reducible assumption) | (with_reducible refine Below.alloc ?_ ?_ _) | (with_reducible refine Below.drew ?_) | (with_reducible refine Below.draws ?_ _) | (with_reducible refine Below.setCell ?_ ?_ _) | (refine Below.then ?_ (by with_reducible assumption)) | go_size)))).mono ?_); rintro e w1 ⟨rfl, hb1⟩; have x0 := (hb1.cell (p := ⟨w.heap.size, 0, none⟩) (by simp)).trans (show _ = some (.int .i64 F) by simp [go_sem]); have x1 := (hb1.cell (p := ⟨w.heap.size, 1, none⟩) (by simp)).trans (show _ = some (.int .i64 S) by simp [go_sem]); have B1 : Hid (Below w.heap.size w w1) := Lib.hid (Below.trans (by (repeat' (first | (with_reducible exact Below.refl _ _) | (with_reducible assumption) | (with_reducible refine Below.alloc ?_ ?_ _) | (with_reducible refine Below.drew ?_) | (with_reducible refine Below.draws ?_ _) | (with_reducible refine Below.setCell ?_ ?_ _) | (refine Below.then ?_ (by with_reducible assumption)) | go_size))) (hb1.mono (by simp))); have z1 : w.heap.size < w1.heap.size := Nat.lt_of_lt_of_le (by simp) hb1.size; clear hb1) | (go_at_call 15; (with_reducible refine (copied_M _ _ _ L (by omega) HP.out _ (HL.out.ext B2.out) HN.out).mono ?_); rintro e w3 ⟨a3, c3, g3, rfl, hm3, hg3, hb3⟩; have v0 := (hb3.cell (p := ⟨w.heap.size, 0, none⟩) z2).trans y0; have v1 := (hb3.cell (p := ⟨w.heap.size, 1, none⟩) z2).trans y1; have z3 := Nat.lt_of_lt_of_le z2 hb3.size; have HM3 := Lib.hid hm3; have HG3 := Lib.hid hg3; have B3 := Lib.hid (Below.then B2.out hb3); have HB23 := Lib.hid hb3; clear hm3 hg3 hb3) | (go_at_call 14; (with_reducible refine (Assign_is' (HL.out.ext B1.out) HN.out HAS.out).mono ?_); rintro e w2 ⟨a2, n2, c2, rfl, ho2, hb2⟩; have y0 := (hb2.cell (p := ⟨w.heap.size, 0, none⟩) z1).trans x0; have y1 := (hb2.cell (p := ⟨w.heap.size, 1, none⟩) z1).trans x1; have z2 := Nat.lt_of_lt_of_le z1 hb2.size; have HX2 := Lib.hid (ownsI_rd ho2); have B2 := Lib.hid (Below.then B1.out hb2); clear ho2 hb2))
      have hn2 : n2 = n := by have := HX2.out.length; rw [HOK.out.len, HLL.out] at this; exact this.symm
      subst hn2
      go_wp2
      go_loopw [12] (fun v wr => ∃ (i : Nat) (g : List TaV), i ≤ n2 ∧ v = .int .i64 i ∧ MutT w2.heap.size wr a3 n2 c3 g ∧ PrL L (g.map TaV.ta) xs i ∧ Below w2.heap.size w3 wr) (fun v _ => n2 - (intOf v).toNat)
      case atStart => exact ⟨0, g3, Nat.zero_le _, rfl, HM3.out, by rw [HG3.out]; exact PrL.start L xs, Below.refl _ _⟩
      case round =>
        obtain ⟨i, g, hi, rfl, hm, hp, hB⟩ := hrel
        have HM := Lib.hid hm; have HPR := Lib.hid hp; have HB := Lib.hid hB
        have hgl := hm.rd.length
        have hz := hB.size
        have hz3 := HB23.out.size
        by_cases hlt : i < n2
        · obtain ⟨x, b1, o1, rfl, hb1, hc1, hx1⟩ := HX2.out.idx i hlt
          have hc2 := (hB.cell (p := ⟨b1, o1 + i, none⟩) (show b1 < w2.heap.size from hb1)).trans ((HB23.out.cell (p := ⟨b1, o1 + i, none⟩) hb1).trans hc1)
          obtain ⟨q, rfl, hq1, hq2⟩ := hm.addr (by omega)
          obtain ⟨tk, htk⟩ : ∃ t, g[i]? = some t := ⟨_, List.getElem?_eq_getElem (by omega)⟩
          obtain ⟨c0, f0⟩ := hm.at_ htk 0 (by omega)
          obtain ⟨pri, dl, fi, ga, ji, ta, tn, tc, ps⟩ := tk
          simp [encTa] at c0
          simp only [Nat.add_zero] at f0
          have M2 : MutT w2.heap.size (wr.setCell ⟨q, i * 6, none⟩ (.int .i64 x)) (some ⟨q, 0, none⟩) n2 c3 (g.set i ⟨x, dl, fi, ga, ji, ta, tn, tc, ps⟩) := hm.set htk 0 (by omega) (.int .i64 x) rfl rfl rfl rfl rfl
          have P2' : PrL L ((g.set i ⟨x, dl, fi, ga, ji, ta, tn, tc, ps⟩).map TaV.ta) xs (i + 1) := by
            rw [set_map]
            exact hp.set (u := TaV.ta ⟨pri, dl, fi, ga, ji, ta, tn, tc, ps⟩) (by rw [List.getElem?_map, htk]; rfl) hx1
          have HM7 := Lib.hid M2; have HP7 := Lib.hid P2'
          have hqr : q < wr.heap.size := hq2
          have hd2 : decide ((n2 : Int) ≤ (i : Int)) = false := by simp <;> omega
          clear hm hp hB M2 P2' htk hx1
          go_wp2_with fail
          go_roundw
          case rel => exact ⟨i + 1, _, by omega, by go_num, HM7.out, HP7.out, HB.out.setCell (by simp only []; omega) _⟩
          case measure => simp [intOf]; omega
        · have hie : i = n2 := by omega
          subst hie
          obtain ⟨K, hK⟩ : ∃ K, g.map TaV.ta = K := ⟨_, rfl⟩
          have hkrd : RdL wr a3 i K := ⟨g, hm.rd, hK⟩
          rw [hK] at hp
          have hacc : accE K F S = 0 := HOK.out.acc K hp.1 (fun j t u x h1 h2 h3 => (hp.2 j t u x h1 h2 h3).1 (by have := (List.getElem?_eq_some_iff.1 h1).1; rw [HLL.out] at this; exact this))
          have hK2 : validL K = true ∧ accB K F S = true := by
            unfold accE at hacc
            split at hacc
            · rename_i h1
              split at hacc
              · rename_i h2
                unfold okB at h1
                rw [Bool.and_eq_true] at h1
                exact ⟨h1.1, h2⟩
              · exact absurd hacc (by decide)
            · exact absurd hacc (by decide)
          obtain ⟨m, hs1, hs2, hs3, hs4⟩ := slice_ok hK2.1 HSUP.out hK2.2
          have hmt : meetsR (topR K F m late) t = (true, 0) := topR_meets hK2.1 hs3 late hs4 ⟨HT2.out.1, by have := HT2.out.2; omega⟩
          have HSL := Lib.hid hs1; have HK := Lib.hid hkrd; have HVK := Lib.hid (valid_of hK2.1); have HMT := Lib.hid hmt
          have s0 := (hB.cell (p := ⟨w.heap.size, 0, none⟩) z2).trans v0
          have s1 := (hB.cell (p := ⟨w.heap.size, 1, none⟩) z2).trans v1
          have z4 : w.heap.size < wr.heap.size := Nat.lt_of_lt_of_le z3 hB.size
          have B4 : Hid (Below w.heap.size w wr) := Lib.hid (B3.out.trans (hB.mono B2.out.size))
          have hd : decide (m < S) = false := by simp <;> omega
          clear hm hp hB hK hkrd hacc hK2 hs1 hs2 hs3 hs4 hmt
          go_wp2_with (first
            | (go_at_call 16; (with_reducible refine (Slice_is HK.out HSL.out).mono ?_); rintro e w5 ⟨rfl, hb5⟩; have u0 := (hb5.cell (p := ⟨w.heap.size, 0, none⟩) z4).trans s0; have u1 := (hb5.cell (p := ⟨w.heap.size, 1, none⟩) z4).trans s1; have z5 := Nat.lt_of_lt_of_le z4 hb5.size; have HK5 := Lib.hid (HK.out.ext hb5); have B5 := Lib.hid (Below.then B4.out hb5); clear hb5)
            | (go_at_call 17; (with_reducible refine (runB_any _ _ _ K F m _ _ _ late _ HK5.out HVK.out (HE.out.ext B5.out)).mono ?_); rintro e w6 ⟨H6, rfl, q1, q2, q3, hr6, hb6⟩; clear q1 q2 q3; have HR6 := Lib.hid hr6; have B6 := Lib.hid (Below.then B5.out hb6); clear hr6 hb6; obtain ⟨tA, tN, tC, eA, eN, eC, bA, bN, bC, sA, sN, sC⟩ := H6; unfold runV; have HME : Hid (∀ wz, Below w6.heap.size w6 wz → Calls Tryz.prog 18 #[.agg #[.slice tA tN tC, .int .i64 F, .int .i64 m, .slice eA eN eC, .slice bA bN bC, .slice sA sN sC], .int .i64 t] wz fun e w' => e = .returned (.tuple #[.bool true, .int .i64 0]) ∧ Below wz.heap.size wz w') := Lib.hid (fun wz hz => (by have := Meets_any ⟨tA, tN, tC, eA, eN, eC, bA, bN, bC, sA, sN, sC⟩ (topR K F m late) t wz (HR6.out.ext hz); rw [HMT.out] at this; exact this)); simp only [])
            | (go_at_call 18; (with_reducible refine (HME.out _ (by (repeat' (first | (with_reducible exact Below.refl _ _) | (with_reducible assumption) | (with_reducible refine Below.alloc ?_ ?_ _) | (with_reducible refine Below.drew ?_) | (with_reducible refine Below.draws ?_ _) | (with_reducible refine Below.setCell ?_ ?_ _) | (refine Below.then ?_ (by with_reducible assumption)) | go_size)))).mono ?_); rintro e w7 ⟨rfl, hb7⟩; have B7 : Hid (Below w.heap.size w w7) := Lib.hid (Below.then B6.out (Below.then (show Below w6.heap.size w6 _ by (repeat' (first | (with_reducible exact Below.refl _ _) | (with_reducible assumption) | (with_reducible refine Below.alloc ?_ ?_ _) | (with_reducible refine Below.drew ?_) | (with_reducible refine Below.draws ?_ _) | (with_reducible refine Below.setCell ?_ ?_ _) | (refine Below.then ?_ (by with_reducible assumption)) | go_size))) hb7)); clear hb7)
            | (go_at_call 13; (with_reducible refine (awake_any _).mono ?_); rintro e w9 ⟨rfl, hb9⟩))
          go_ret
          exact ⟨rfl, Below.then B7.out hb9⟩
    · obtain rfl := asg_err hok has hy
      clear hL hT hN hE has hok
      go_enter Tryz.func4, Tryz.ntmps4
      go_wp2_with (first | (go_at_call 12; (with_reducible refine (HRD.out _ (by (repeat' (first | (with_reducible exact Below.refl _ _) | (with_reducible assumption) | (with_reducible refine Below.alloc ?_ ?_ _) | (with_reducible refine Below.drew ?_) | (with_reducible refine Below.draws ?_ _) | (with_reducible refine Below.setCell ?_ ?_ _) | (refine Below.then ?_ (by with_reducible assumption)) | go_size)))).mono ?_); rintro e w1 ⟨rfl, hb1⟩; have x0 := (hb1.cell (p := ⟨w.heap.size, 0, none⟩) (by simp)).trans (show _ = some (.int .i64 F) by simp [go_sem]); have x1 := (hb1.cell (p := ⟨w.heap.size, 1, none⟩) (by simp)).trans (show _ = some (.int .i64 S) by simp [go_sem]); have B1 : Hid (Below w.heap.size w w1) := Lib.hid (Below.trans (by (repeat' (first | (with_reducible exact Below.refl _ _) | (with_reducible assumption) | (with_reducible refine Below.alloc ?_ ?_ _) | (with_reducible refine Below.drew ?_) | (with_reducible refine Below.draws ?_ _) | (with_reducible refine Below.setCell ?_ ?_ _) | (refine Below.then ?_ (by with_reducible assumption)) | go_size))) (hb1.mono (by simp))); have z1 : w.heap.size < w1.heap.size := Nat.lt_of_lt_of_le (by simp) hb1.size; clear hb1) | (go_at_call 14; (with_reducible refine (Assign_is' (HL.out.ext B1.out) HN.out HAS.out).mono ?_); rintro e w2 ⟨a2, n2, c2, rfl, ho2, hb2⟩; have y0 := (hb2.cell (p := ⟨w.heap.size, 0, none⟩) z1).trans x0; have y1 := (hb2.cell (p := ⟨w.heap.size, 1, none⟩) z1).trans x1; have z2 := Nat.lt_of_lt_of_le z1 hb2.size; have HX2 := Lib.hid (ownsI_rd ho2); have B2 := Lib.hid (Below.then B1.out hb2); clear ho2 hb2) | (go_at_call 13; (with_reducible refine (awake_any _).mono ?_); rintro e w9 ⟨rfl, hb9⟩))
      go_ret
      exact ⟨rfl, Below.then B2.out hb9⟩
end Go.Proofs.YtmahagcghpoekaaGreat
