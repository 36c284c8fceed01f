/- From what a row says of lists of lists of pairs to what the walks use. No condition: plain lemmas. The walk of TopSustains: it returns true. The conditions: the tasks and what is handed beside them read as named. -/
import Derived.Test.YtmahagcghpoekaaMg7
import Derived.Test.YtmahagcghpoekaaMg13
import Derived.Test.YtmahagcghpoekaaMg10
import Derived.Test.YtmahagcghpoekaaMg12
namespace Go.Proofs.Ytmahagcghpoekaa
open Go.ChangeShapes Go.WideShapes Go.ChangeAt Go.RowKit Go.Joins Go.Deep
set_option linter.unusedSimpArgs false
set_option linter.unusedVariables false
set_option maxRecDepth 100000 in
theorem open_lt {H : Type} {enc : TypeId × Value → H} {w : World} {base b0 : Nat} {spare : Nat → Bool} {held : Bool} {r : Reach} {v : Value} {d : DataW H} {ps : List MemPlace}
    (hv : Value.okWide Try.prog w r b0 25 v) (h : DataW.Trod enc Try.prog w base spare held 25 v d ps) (hw : ∀ n ∈ d.weights Try.prog 25, n ≤ reachBytes) :
    ∃ a n c, v = .slice a n c ∧ ∃ late : List (List P2), EvL w a n late := by
  obtain ⟨a0, n0, c0, rfl⟩ := okWide_slice Try.underlying25 hv
  obtain ⟨fuel, hf⟩ := h
  obtain ⟨ys, a, n, c, e, h1, h2, h3, _⟩ := opensB_slice (en := encV) (k := 1) (ok := fun w v => Rd w v.a v.n 2 (v.es.map enc2) ∧ v.n ≤ 281474976710656) Try.underlying25 (by kernel_rfl) (by decide) opensB_row hf hw
  simp [Value.cells] at e
  obtain ⟨rfl, rfl, rfl⟩ := e
  exact ⟨_, _, _, rfl, ys.map EvV.es, ys, h1, fun v hv => (h2 v hv).1, rfl⟩
end Go.Proofs.Ytmahagcghpoekaa
namespace Go.Proofs.Ytmahagcghpoekaa
open Go.RowKit
set_option linter.unusedSimpArgs false
set_option linter.unusedVariables false
/-- a run laid in a box -/
structure RBox (w : World) (q : Nat) (H : RunH) (F S : Int) : Prop where
  c0 : w.cell? ⟨q, 0, none⟩ = some (.slice H.tA H.tN H.tC)
  c1 : w.cell? ⟨q, 1, none⟩ = some (.int .i64 F)
  c2 : w.cell? ⟨q, 2, none⟩ = some (.int .i64 S)
  c3 : w.cell? ⟨q, 3, none⟩ = some (.slice H.eA H.eN H.eC)
  c4 : w.cell? ⟨q, 4, none⟩ = some (.slice H.bA H.bN H.bC)
  c5 : w.cell? ⟨q, 5, none⟩ = some (.slice H.sA H.sN H.sC)
  z : q < w.heap.size
theorem RBox.ext {w w' : World} {q : Nat} {H : RunH} {F S : Int} (h : RBox w q H F S) (hb : Below w.heap.size w w') : RBox w' q H F S :=
  ⟨(hb.cell (p := ⟨q, 0, none⟩) h.z).trans h.c0, (hb.cell (p := ⟨q, 1, none⟩) h.z).trans h.c1, (hb.cell (p := ⟨q, 2, none⟩) h.z).trans h.c2, (hb.cell (p := ⟨q, 3, none⟩) h.z).trans h.c3, (hb.cell (p := ⟨q, 4, none⟩) h.z).trans h.c4, (hb.cell (p := ⟨q, 5, none⟩) h.z).trans h.c5, Nat.lt_of_lt_of_le h.z hb.size⟩
/-- what is handed beside the tasks, laid in a box -/
structure XBox (w : World) (q : Nat) (x : SuX) : Prop where
  c0 : w.cell? ⟨q, 0, none⟩ = some (.int .i64 x.F)
  c1 : w.cell? ⟨q, 1, none⟩ = some (.int .i64 x.S)
  c2 : w.cell? ⟨q, 2, none⟩ = some (.int .i64 x.G)
  c3 : w.cell? ⟨q, 3, none⟩ = some (.int .i64 x.T)
  c4 : w.cell? ⟨q, 4, none⟩ = some (.slice x.bA x.bN x.bC)
  c5 : w.cell? ⟨q, 5, none⟩ = some (.slice x.lA x.lN x.lC)
  c6 : w.cell? ⟨q, 6, none⟩ = some (.int .i64 x.t)
  z : q < w.heap.size
theorem XBox.ext {w w' : World} {q : Nat} {x : SuX} (h : XBox w q x) (hb : Below w.heap.size w w') : XBox w' q x :=
  ⟨(hb.cell (p := ⟨q, 0, none⟩) h.z).trans h.c0, (hb.cell (p := ⟨q, 1, none⟩) h.z).trans h.c1, (hb.cell (p := ⟨q, 2, none⟩) h.z).trans h.c2, (hb.cell (p := ⟨q, 3, none⟩) h.z).trans h.c3, (hb.cell (p := ⟨q, 4, none⟩) h.z).trans h.c4, (hb.cell (p := ⟨q, 5, none⟩) h.z).trans h.c5, (hb.cell (p := ⟨q, 6, none⟩) h.z).trans h.c6, Nat.lt_of_lt_of_le h.z hb.size⟩
/-- a supply in a box -/
structure PBox (w : World) (q : Nat) (F S : Int) : Prop where
  c0 : w.cell? ⟨q, 0, none⟩ = some (.int .i64 F)
  c1 : w.cell? ⟨q, 1, none⟩ = some (.int .i64 S)
  z : q < w.heap.size
theorem PBox.ext {w w' : World} {q : Nat} {F S : Int} (h : PBox w q F S) (hb : Below w.heap.size w w') : PBox w' q F S :=
  ⟨(hb.cell (p := ⟨q, 0, none⟩) h.z).trans h.c0, (hb.cell (p := ⟨q, 1, none⟩) h.z).trans h.c1, Nat.lt_of_lt_of_le h.z hb.size⟩
set_option maxRecDepth 100000 in
set_option maxHeartbeats 8000000 in
theorem sust_walk {w : World} (a : Option Addr) (n c : Nat) (L : List Ta) (hL : RdL w a n L) (hT : ∀ t ∈ L, t.pcs.length ≤ 281474976710656) (hN : NilOk a n c) (x : SuX) (hX : x.ok w) :
    Calls Try.prog 5 #[.slice a n c, .agg #[.int .i64 x.F, .int .i64 x.S, .int .i64 x.G, .int .i64 x.T, .slice x.bA x.bN x.bC, .slice x.lA x.lN x.lC, .int .i64 x.t]] w fun e w' => e = .returned (.bool true) ∧ Below w.heap.size w w' := by
  have HXK := Lib.hid hX
  obtain ⟨F, S, G, T, bA, bN, bC, by_, lA, lN, lC, late, t⟩ := x
  simp only [] at HXK ⊢
  have hbs := hX.b.small
  simp only [] at hbs
  clear hX
  have HRD := Lib.hid (fun w1 (hb : Below w.heap.size w w1) => readyB_any a n c L F S lA lN lC t w1 (hL.ext hb) hT)
  have HL := Lib.hid hL; have HN := Lib.hid hN
  obtain ⟨B, hB⟩ : ∃ B, rdyB n L F S lN t = B := ⟨_, rfl⟩
  rw [hB] at HRD
  have hll := hL.length
  clear hL hT hN
  cases B
  · clear hB
    go_enter Try.func5, Try.ntmps5
    go_wp2_with (first | (go_at_call 7; (with_reducible refine (HRD.out _ (by (repeat' (first | (with_reducible exact Below.refl _ _) | (with_reducible assumption) | (with_reducible refine Below.alloc ?_ ?_ _) | (with_reducible refine Below.drew ?_) | (with_reducible refine Below.draws ?_ _) | (with_reducible refine Below.setCell ?_ ?_ _) | (refine Below.then ?_ (by with_reducible assumption)) | go_size)))).mono ?_); rintro e w1 ⟨rfl, hb1⟩; have x0 := (hb1.cell (p := ⟨w.heap.size, 0, none⟩) (by simp)).trans (show _ = some (.int .i64 F) by simp [go_sem]); have x1 := (hb1.cell (p := ⟨w.heap.size, 1, none⟩) (by simp)).trans (show _ = some (.int .i64 S) by simp [go_sem]); have x2 := (hb1.cell (p := ⟨w.heap.size, 2, none⟩) (by simp)).trans (show _ = some (.int .i64 G) by simp [go_sem]); have x3 := (hb1.cell (p := ⟨w.heap.size, 3, none⟩) (by simp)).trans (show _ = some (.int .i64 T) by simp [go_sem]); have x4 := (hb1.cell (p := ⟨w.heap.size, 4, none⟩) (by simp)).trans (show _ = some (.slice bA bN bC) by simp [go_sem]); have x5 := (hb1.cell (p := ⟨w.heap.size, 5, none⟩) (by simp)).trans (show _ = some (.slice lA lN lC) by simp [go_sem]); have x6 := (hb1.cell (p := ⟨w.heap.size, 6, none⟩) (by simp)).trans (show _ = some (.int .i64 t) by simp [go_sem]); have xz : w.heap.size < w1.heap.size := Nat.lt_of_lt_of_le (by simp) hb1.size; have HX : Hid (XBox w1 w.heap.size ⟨F, S, G, T, bA, bN, bC, by_, lA, lN, lC, late, t⟩) := Lib.hid ⟨x0, x1, x2, x3, x4, x5, x6, xz⟩; have B1 : Hid (Below w.heap.size w w1) := Lib.hid (Below.trans (by (repeat' (first | (with_reducible exact Below.refl _ _) | (with_reducible assumption) | (with_reducible refine Below.alloc ?_ ?_ _) | (with_reducible refine Below.drew ?_) | (with_reducible refine Below.draws ?_ _) | (with_reducible refine Below.setCell ?_ ?_ _) | (refine Below.then ?_ (by with_reducible assumption)) | go_size))) (hb1.mono (by simp))); clear hb1) | (go_at_call 8; (with_reducible refine (awake_any _).mono ?_); rintro e w20 ⟨rfl, hb20⟩))
    go_ret
    exact ⟨rfl, Below.then B1.out hb20⟩
  · unfold rdyB at hB
    simp only [Bool.and_eq_true, decide_eq_true_eq] at hB
    obtain ⟨_, _, ht2, hvl, hsup⟩ := hB
    by_cases hb20' : bN ≤ 20
    · have d20 : decide ((20 : Int) < (bN : Int)) = false := by simp <;> omega
      obtain ⟨ac, hac⟩ : ∃ x, accE L F S = x := ⟨_, rfl⟩
      have HAC := Lib.hid hac
      by_cases hac0 : ac = 0
      · subst hac0
        obtain ⟨hok, hab⟩ := acc_of hac
        have HVT := Lib.hid (valid_of hvl)
        have HAB := Lib.hid hab
        have HLL := Lib.hid hll
        have hn5 : n ≤ 5 := by rw [← hll]; exact HVT.out.r.len
        have HT2 : Hid (0 ≤ t ∧ t ≤ 2000) := Lib.hid (by omega)
        have HRS : Hid (respsR L F S = ((List.range L.length).map (fun k => respN L F S k), 0)) := Lib.hid (by unfold respsR; rw [hok]; rfl)
        have HRG : Hid (∀ i : Nat, i < n → ((List.range L.length).map (fun k => respN L F S k))[i]? = some (respN L F S i)) := Lib.hid (fun i hi => resps_get (by omega))
        have HRL : Hid (((List.range L.length).map (fun k => respN L F S k)).length = n) := Lib.hid (by simp [hll])
        have HRB : Hid (∀ i : Nat, i < n → 0 ≤ respN L F S i ∧ respN L F S i ≤ 10000) := Lib.hid (fun i hi => resp_bd HVT.out hab (by omega))
        obtain ⟨rs, hrs⟩ : ∃ rs, (List.range L.length).map (fun k => respN L F S k) = rs := ⟨_, rfl⟩
        rw [hrs] at HRS HRG HRL
        have hbet : (∃ b e, betR G T F S = (b, e) ∧ ((e == 0) = false ∨ ((e == 0) = true ∧ b = false))) ∨ (betR G T F S = (true, 0) ∧ supB G T = true ∧ ∀ v : Nat, leastN F S v ≤ leastN G T v) := by
          cases hg : supB G T
          · left; exact ⟨false, 1, by unfold betR; rw [hg, hsup]; rfl, .inl rfl⟩
          · cases hq : betGo G T F S (G * F + 1).toNat 0
            · left; exact ⟨false, 0, by unfold betR; rw [hg, hsup, hq]; rfl, .inr ⟨rfl, rfl⟩⟩
            · right; exact ⟨by unfold betR; rw [hg, hsup, hq]; rfl, rfl, better_all hg hsup hq⟩
        have HSUP := Lib.hid hsup
        clear hac hok hab hvl hsup hrs hll ht2
        rcases hbet with ⟨b, e, hbt, hbe⟩ | ⟨hbt, hsg, hble⟩
        · have HBT := Lib.hid hbt
          have HS2 := Lib.hid HSUP.out
          have HLE : Hid (∀ v : Nat, leastN F S v ≤ leastN F S v) := Lib.hid (fun v => Int.le_refl _)
          obtain ⟨SF, hSF⟩ : ∃ x, F = x := ⟨_, rfl⟩
          obtain ⟨SS, hSS⟩ : ∃ x, S = x := ⟨_, rfl⟩
          rw [hSF, hSS] at HS2
          have HLE : Hid (∀ v : Nat, leastN F S v ≤ leastN SF SS v) := Lib.hid (fun v => by rw [← hSF, ← hSS]; exact Int.le_refl _)
          have HSF := Lib.hid hSF; have HSS := Lib.hid hSS
          clear hbt hSF hSS
          have hbe1 : (e == 0) = false ∨ ((e == 0) = true ∧ b = false) := hbe
          clear hbe
          rcases hbe1 with hbe | ⟨hbe, rfl⟩
          all_goals
            go_enter Try.func5, Try.ntmps5
            go_upto_region 7 with (first | (go_at_call 7; (with_reducible refine (HRD.out _ (by (repeat' (first | (with_reducible exact Below.refl _ _) | (with_reducible assumption) | (with_reducible refine Below.alloc ?_ ?_ _) | (with_reducible refine Below.drew ?_) | (with_reducible refine Below.draws ?_ _) | (with_reducible refine Below.setCell ?_ ?_ _) | (refine Below.then ?_ (by with_reducible assumption)) | go_size)))).mono ?_); rintro e w1 ⟨rfl, hb1⟩; have x0 := (hb1.cell (p := ⟨w.heap.size, 0, none⟩) (by simp)).trans (show _ = some (.int .i64 F) by simp [go_sem]); have x1 := (hb1.cell (p := ⟨w.heap.size, 1, none⟩) (by simp)).trans (show _ = some (.int .i64 S) by simp [go_sem]); have x2 := (hb1.cell (p := ⟨w.heap.size, 2, none⟩) (by simp)).trans (show _ = some (.int .i64 G) by simp [go_sem]); have x3 := (hb1.cell (p := ⟨w.heap.size, 3, none⟩) (by simp)).trans (show _ = some (.int .i64 T) by simp [go_sem]); have x4 := (hb1.cell (p := ⟨w.heap.size, 4, none⟩) (by simp)).trans (show _ = some (.slice bA bN bC) by simp [go_sem]); have x5 := (hb1.cell (p := ⟨w.heap.size, 5, none⟩) (by simp)).trans (show _ = some (.slice lA lN lC) by simp [go_sem]); have x6 := (hb1.cell (p := ⟨w.heap.size, 6, none⟩) (by simp)).trans (show _ = some (.int .i64 t) by simp [go_sem]); have xz : w.heap.size < w1.heap.size := Nat.lt_of_lt_of_le (by simp) hb1.size; have HX : Hid (XBox w1 w.heap.size ⟨F, S, G, T, bA, bN, bC, by_, lA, lN, lC, late, t⟩) := Lib.hid ⟨x0, x1, x2, x3, x4, x5, x6, xz⟩; have B1 : Hid (Below w.heap.size w w1) := Lib.hid (Below.trans (by (repeat' (first | (with_reducible exact Below.refl _ _) | (with_reducible assumption) | (with_reducible refine Below.alloc ?_ ?_ _) | (with_reducible refine Below.drew ?_) | (with_reducible refine Below.draws ?_ _) | (with_reducible refine Below.setCell ?_ ?_ _) | (refine Below.then ?_ (by with_reducible assumption)) | go_size))) (hb1.mono (by simp))); clear hb1) | (go_at_call 19; (with_reducible refine (Accept_is (HL.out.ext B1.out) HAC.out).mono ?_); rintro e w2 ⟨rfl, hb2⟩; have B2 := Lib.hid (Below.then B1.out hb2); clear x0 x1 x2 x3 x4 x5 x6 xz; have HX := Lib.hid (HX.out.ext hb2); obtain ⟨x0, x1, x2, x3, x4, x5, x6, xz⟩ := HX.out; simp only [] at x0 x1 x2 x3 x4 x5 x6; clear hb2) | (go_at_call 20; (with_reducible refine (Better_is HBT.out).mono ?_); rintro e w3 ⟨rfl, hb3⟩; have B3 := Lib.hid (Below.then B2.out hb3); clear x0 x1 x2 x3 x4 x5 x6 xz; have HX := Lib.hid (HX.out.ext hb3); obtain ⟨x0, x1, x2, x3, x4, x5, x6, xz⟩ := HX.out; simp only [] at x0 x1 x2 x3 x4 x5 x6; clear hb3))
            obtain ⟨w4, hw4⟩ : ∃ x, x = w3.alloc (.cells #[.int .i64 F, .int .i64 S] 24) := ⟨_, rfl⟩
            have hb34 : Below w3.heap.size w3 w4 := by rw [hw4]; (repeat' (first | (with_reducible exact Below.refl _ _) | (with_reducible assumption) | (with_reducible refine Below.alloc ?_ ?_ _) | (with_reducible refine Below.drew ?_) | (with_reducible refine Below.draws ?_ _) | (with_reducible refine Below.setCell ?_ ?_ _) | (refine Below.then ?_ (by with_reducible assumption)) | go_size))
            have HP : Hid (PBox w4 w3.heap.size SF SS) := Lib.hid (by rw [hw4, ← HSF.out, ← HSS.out]; exact ⟨by simp [go_sem], by simp [go_sem], by simp⟩)
            have B4 := Lib.hid (Below.then B3.out hb34)
            rw [← hw4]
            clear x0 x1 x2 x3 x4 x5 x6 xz; have HX := Lib.hid (HX.out.ext hb34); obtain ⟨x0, x1, x2, x3, x4, x5, x6, xz⟩ := HX.out; simp only [] at x0 x1 x2 x3 x4 x5 x6
            clear hw4 hb34
            obtain ⟨p0, p1, pz⟩ := HP.out
            go_upto_region 8 with (go_at_call 21; (with_reducible refine (easeB_any _ _ _ L _ _ _ by_ _ (HL.out.ext B4.out) HN.out HVT.out (HXK.out.ext B4.out).b).mono ?_); rintro e w5 ⟨a5, c5, K, rfl, hk5, he5, hb5⟩; have HK := Lib.hid hk5; have HEK := Lib.hid he5; have HB45 := Lib.hid hb5; have B5 := Lib.hid (Below.then B4.out hb5); clear x0 x1 x2 x3 x4 x5 x6 xz; have HX := Lib.hid (HX.out.ext hb5); obtain ⟨x0, x1, x2, x3, x4, x5, x6, xz⟩ := HX.out; simp only [] at x0 x1 x2 x3 x4 x5 x6; clear hk5 he5 hb5 p0 p1 pz; have HP := Lib.hid (HP.out.ext HB45.out); obtain ⟨p0, p1, pz⟩ := HP.out)
            have hkv := HEK.out.valid HVT.out
            obtain ⟨hab2, hrle⟩ := sus_resp (G := SF) (T := SS) HEK.out HVT.out HLE.out HAB.out
            have hKl : K.length = n := by rw [HEK.out.1]; exact HLL.out
            have hrun := topR_run hkv HS2.out late
            have hmt := topR_meets hkv HS2.out late hab2 HT2.out
            have hdue := fun (i : Nat) (hi : i < L.length) => sus_due (G := SF) (T := SS) HEK.out HVT.out HS2.out HLE.out HAB.out late hi
            have HA2 : Hid (accE K SF SS = 0) := Lib.hid (by unfold accE okB; rw [hkv, HS2.out, hab2]; rfl)
            have HRUN := Lib.hid (fun w1 (hb : Below w5.heap.size w5 w1) => runB_any a5 n c5 K SF SS lA lN lC late w1 (HK.out.ext hb) (valid_of hkv) ((HXK.out.ext (Below.then B5.out hb)).l))
            obtain ⟨R, hR⟩ : ∃ R, topR K SF SS late = R := ⟨_, rfl⟩
            have hRL : R.L = K := by rw [← hR]; rfl
            have hRf : R.fr = SF := by rw [← hR]; rfl
            have hRs : R.sl = SS := by rw [← hR]; rfl
            rw [hR] at HRUN hrun hmt
            rw [hR] at hdue
            obtain ⟨hr, _⟩ := run_ok hrun
            obtain ⟨tn, htn⟩ := Int.eq_ofNat_of_zero_le HT2.out.1
            have hin : (Go.Proofs.Ytmahagcghpoekaa.runB R && inB t 0 2000) = true := by rw [hrun, Bool.true_and, inB_iff]; exact HT2.out
            have hen : endN R t = n := by unfold endN; rw [if_pos hin, hRL, hKl]
            have hee : endE R t = 0 := by unfold endE; rw [if_pos hin]
            have hex : endX R t = endsRow R (plM R tn).o := by rw [htn]; unfold endX; rw [Int.toNat_natCast]
            have hXl : ∀ i, (endX R t i).length = (evA R i).length := fun i => by rw [hex]; exact endsRow_len _ _ _
            have hXg : ∀ i k, k < (evA R i).length → xAt (endX R t) i k = endF (plM R tn).o i k := fun i k hk => by unfold xAt; rw [hex, endsRow_get hk]; rfl
            obtain ⟨X, hX⟩ : ∃ X, endX R t = X := ⟨_, rfl⟩
            have HMEE := Lib.hid (fun (H : RunH) (wz : World) (h : ReadRun wz H R) => (by have := Meets_any H R t wz h; rw [hmt, hRf, hRs] at this; exact this : Calls Try.prog 23 #[runV H SF SS, .int .i64 t] wz fun e w' => e = .returned (.tuple #[.bool true, .int .i64 0]) ∧ Below wz.heap.size wz w'))
            have HENDS := Lib.hid (fun (H : RunH) (wz : World) (h : ReadRun wz H R) => (by have := Ends_any H R t wz h; rw [hen, hee, hRf, hRs, hX] at this; exact this : Calls Try.prog 14 #[runV H SF SS, .int .i64 t] wz (OutX wz n X 0)))
            rw [hX] at hXl hXg
            have HXL := Lib.hid hXl
            have HDUE : Hid (∀ i : Nat, i < n → ∀ (k : Nat) (e : P2), (evA R i)[k]? = some e → e.1 + respN L F S i ≤ t → 0 ≤ xAt X i k ∧ xAt X i k ≤ e.1 + respN L F S i) := Lib.hid (fun i hi k e he hle => by rw [hXg i k (List.getElem?_eq_some_iff.1 he).1]; exact hdue i (by rw [HLL.out]; exact hi) tn k e he (by rw [← htn]; exact hle))
            have HEV : Hid (R.ev.length = n) := Lib.hid (by rw [hr.ev, hRL, hKl])
            have HEL : Hid (∀ i, (evA R i).length ≤ 40 ∧ ∀ e ∈ evA R i, (0 ≤ e.1 ∧ e.1 ≤ 1000000) ∧ (0 ≤ e.2 ∧ e.2 ≤ 1000000)) := Lib.hid (fun i => by
              by_cases hi : i < R.ev.length
              · exact hr.el (evA R i) (by unfold evA; rw [List.getElem?_eq_getElem hi]; exact List.getElem_mem hi)
              · unfold evA; rw [List.getElem?_eq_none (by omega)]; simp)
            clear hkv hab2 hrle hKl hrun hmt hdue hr hin hen hee hex hXl hXg hX hRL hRf hRs hR htn
            go_upto_region 12 with (first | (go_at_call 22; (with_reducible refine (Resps_is (HL.out.ext B5.out) HRS.out).mono ?_); rintro e w6 ⟨a6, n6, c6, rfl, h6, hb6⟩; have HQ6 := Lib.hid (ownsI_rd h6); have hn6 : n6 = n := (by rw [← HQ6.out.length]; exact HRL.out); subst hn6; have HB56 := Lib.hid hb6; have B6 := Lib.hid (Below.then B5.out hb6); clear x0 x1 x2 x3 x4 x5 x6 xz; have HX := Lib.hid (HX.out.ext hb6); obtain ⟨x0, x1, x2, x3, x4, x5, x6, xz⟩ := HX.out; simp only [] at x0 x1 x2 x3 x4 x5 x6; clear h6 hb6 p0 p1 pz; have HP := Lib.hid (HP.out.ext HB56.out); obtain ⟨p0, p1, pz⟩ := HP.out) | (go_at_call 19; (with_reducible refine (Accept_is (HK.out.ext HB56.out) HA2.out).mono ?_); rintro e w7 ⟨rfl, hb7⟩; have HB57 := Lib.hid (Below.then HB56.out hb7); have B7 := Lib.hid (Below.then B6.out hb7); have HQ7 := Lib.hid (HQ6.out.ext hb7); clear x0 x1 x2 x3 x4 x5 x6 xz; have HX := Lib.hid (HX.out.ext hb7); obtain ⟨x0, x1, x2, x3, x4, x5, x6, xz⟩ := HX.out; simp only [] at x0 x1 x2 x3 x4 x5 x6; have HP := Lib.hid (HP.out.ext hb7); clear hb7 p0 p1 pz; obtain ⟨p0, p1, pz⟩ := HP.out) | (go_at_call 9; (with_reducible refine (HRUN.out _ HB57.out).mono ?_); rintro e w8 ⟨H8, rfl, q1, q2, q3, hr8, hb8⟩; clear q1 q2 q3 p0 p1 pz; have HR8 := Lib.hid hr8; have B8 := Lib.hid (Below.then B7.out hb8); have HQ8 := Lib.hid (HQ7.out.ext hb8); clear x0 x1 x2 x3 x4 x5 x6 xz; have HX := Lib.hid (HX.out.ext hb8); obtain ⟨x0, x1, x2, x3, x4, x5, x6, xz⟩ := HX.out; simp only [] at x0 x1 x2 x3 x4 x5 x6; clear hr8 hb8; obtain ⟨tA, tN, tC, eA, eN, eC, gA, gN, gC, sA, sN, sC⟩ := H8; unfold runV; simp only []))
            obtain ⟨w9, hw9⟩ : ∃ x, x = w8.alloc (.cells #[.slice tA tN tC, .int .i64 SF, .int .i64 SS, .slice eA eN eC, .slice gA gN gC, .slice sA sN sC] 32) := ⟨_, rfl⟩
            have hb89 : Below w8.heap.size w8 w9 := by rw [hw9]; (repeat' (first | (with_reducible exact Below.refl _ _) | (with_reducible assumption) | (with_reducible refine Below.alloc ?_ ?_ _) | (with_reducible refine Below.drew ?_) | (with_reducible refine Below.draws ?_ _) | (with_reducible refine Below.setCell ?_ ?_ _) | (refine Below.then ?_ (by with_reducible assumption)) | go_size))
            have HX9 : Hid (RBox w9 w8.heap.size ⟨tA, tN, tC, eA, eN, eC, gA, gN, gC, sA, sN, sC⟩ SF SS) := Lib.hid (by rw [hw9]; exact ⟨by simp [go_sem], by simp [go_sem], by simp [go_sem], by simp [go_sem], by simp [go_sem], by simp [go_sem], by simp⟩)
            have HR9 := Lib.hid (HR8.out.ext hb89)
            have B9 := Lib.hid (Below.then B8.out hb89)
            have HQ9 := Lib.hid (HQ8.out.ext hb89)
            rw [← hw9]
            have HMT := Lib.hid (fun (wz : World) (hz : Below w9.heap.size w9 wz) => HMEE.out ⟨tA, tN, tC, eA, eN, eC, gA, gN, gC, sA, sN, sC⟩ wz (HR9.out.ext hz))
            have HEN := Lib.hid (fun (wz : World) (hz : Below w9.heap.size w9 wz) => HENDS.out ⟨tA, tN, tC, eA, eN, eC, gA, gN, gC, sA, sN, sC⟩ wz (HR9.out.ext hz))
            unfold runV at HMT HEN
            simp only [] at HMT HEN
            clear x0 x1 x2 x3 x4 x5 x6 xz; have HX := Lib.hid (HX.out.ext hb89); obtain ⟨x0, x1, x2, x3, x4, x5, x6, xz⟩ := HX.out; simp only [] at x0 x1 x2 x3 x4 x5 x6
            clear hw9 hb89 HMEE HENDS HRUN
            obtain ⟨r0, r1, r2, r3, r4, r5, rz⟩ := HX9.out
            simp only [] at r0 r3 r4 r5
            go_upto_region 16 with (first | (go_at_call 23; (with_reducible refine (HMT.out _ (Below.refl _ _)).mono ?_); rintro e w10 ⟨rfl, hb10⟩; have HB910 := Lib.hid hb10; clear x0 x1 x2 x3 x4 x5 x6 xz; have HX := Lib.hid (HX.out.ext hb10); obtain ⟨x0, x1, x2, x3, x4, x5, x6, xz⟩ := HX.out; simp only [] at x0 x1 x2 x3 x4 x5 x6; clear hb10 r0 r1 r2 r3 r4 r5 rz; obtain ⟨r0, r1, r2, r3, r4, r5, rz⟩ := HX9.out.ext HB910.out; simp only [] at r0 r3 r4 r5) | (go_at_call 14; (with_reducible refine (HEN.out _ HB910.out).mono ?_); rintro e w11 ⟨a11, c11, rfl, h11, hb11⟩; have HE11 := Lib.hid h11; have HB911 := Lib.hid (Below.then HB910.out hb11); clear x0 x1 x2 x3 x4 x5 x6 xz; have HX := Lib.hid (HX.out.ext hb11); obtain ⟨x0, x1, x2, x3, x4, x5, x6, xz⟩ := HX.out; simp only [] at x0 x1 x2 x3 x4 x5 x6; clear h11 hb11 r0 r1 r2 r3 r4 r5 rz; obtain ⟨r0, r1, r2, r3, r4, r5, rz⟩ := HX9.out.ext HB911.out; simp only [] at r0 r3 r4 r5))
            go_wp2
            go_loopw [16] (fun v wr => ∃ i : Nat, i ≤ n6 ∧ v = .int .i64 i ∧ Below w11.heap.size w11 wr) (fun v _ => n6 - (intOf v).toNat)
            case atStart => exact ⟨0, Nat.zero_le _, rfl, Below.refl _ _⟩
            case round =>
              obtain ⟨i, hi, rfl, hB⟩ := hrel
              have HB := Lib.hid hB
              have HBR := Lib.hid (Below.then HB911.out hB)
              by_cases hin : i < n6
              · have hR := (HR9.out.ext HBR.out).rd
                have hie : i < eN := by have h1 := hR.e.len; have h2 := HEV.out; simp only [] at h1; omega
                obtain ⟨eb, eo, ea, en, ec, hea, heb, hec, hRd⟩ := hR.e.at_ i hie
                simp only [] at hea
                have hlen : (evA R i).length = en := hRd.length
                obtain ⟨xb, xo, xa, xn, xc, rfl, hxb, hxc, hxl, hxR⟩ := (HE11.out.ext hB).row hin
                have hxe : xn = en := by rw [← hxl, HXL.out, hlen]
                subst hxe
                subst hea
                obtain ⟨rv, rb, ro, rfl, hrb, hrc, hrv⟩ := (HQ9.out.ext HBR.out).idx i hin
                have hrv2 : respN L F S i = rv := by have := HRG.out i hin; rw [hrv] at this; simpa using this.symm
                have hrvb := HRB.out i hin
                have hdue := HDUE.out i hin
                rw [hrv2] at hrvb hdue
                have HD2 := Lib.hid hdue
                have hens : xn ≤ 40 := by rw [← hlen]; exact (HEL.out i).1
                have HEI := Lib.hid ((HEL.out i).2)
                have hlr := HX9.out.ext HBR.out
                have hlx := HX.out.ext HB.out
                have HRD := Lib.hid hRd; have HXR := Lib.hid hxR
                have HC : Hid (∀ wz, Below wr.heap.size wr wz → (wz.cell? ⟨xb, xo + i, none⟩ = some (.slice xa xn xc) ∧ xb < wz.heap.size) ∧ (wz.cell? ⟨eb, eo + i, none⟩ = some (.slice ea xn ec) ∧ eb < wz.heap.size) ∧ (wz.cell? ⟨rb, ro + i, none⟩ = some (.int .i64 rv) ∧ rb < wz.heap.size) ∧ (wz.cell? ⟨w8.heap.size, 3, none⟩ = some (.slice (some ⟨eb, eo, none⟩) eN eC) ∧ w8.heap.size < wz.heap.size) ∧ (wz.cell? ⟨w.heap.size, 6, none⟩ = some (.int .i64 t) ∧ w.heap.size < wz.heap.size)) := Lib.hid (fun wz hz => ⟨⟨(hz.cell (p := ⟨xb, xo + i, none⟩) hxb).trans hxc, Nat.lt_of_lt_of_le hxb hz.size⟩, ⟨(hz.cell (p := ⟨eb, eo + i, none⟩) heb).trans hec, Nat.lt_of_lt_of_le heb hz.size⟩, ⟨(hz.cell (p := ⟨rb, ro + i, none⟩) hrb).trans hrc, Nat.lt_of_lt_of_le hrb hz.size⟩, ⟨(hz.cell (p := ⟨w8.heap.size, 3, none⟩) hlr.z).trans hlr.c3, Nat.lt_of_lt_of_le hlr.z hz.size⟩, ⟨(hz.cell (p := ⟨w.heap.size, 6, none⟩) hlx.z).trans hlx.c6, Nat.lt_of_lt_of_le hlx.z hz.size⟩⟩)
                clear hB hR hRd hlen hxl hxR hrv hrv2 hdue hlr hlx hxb hxc heb hec hrb hrc
                go_wp2
                go_loopw [17] (fun v wx => ∃ k : Nat, k ≤ xn ∧ v = .int .i64 k ∧ Below wr.heap.size wr wx) (fun v _ => xn - (intOf v).toNat)
                case atStart => exact ⟨0, Nat.zero_le _, rfl, Below.refl _ _⟩
                case round =>
                  obtain ⟨k, hk, rfl, hBx⟩ := hrel
                  have HBX := Lib.hid hBx
                  obtain ⟨⟨s1, s2⟩, ⟨s3, s4⟩, ⟨s5, s6⟩, ⟨s7, s8⟩, ⟨s9, s10⟩⟩ := HC.out _ hBx
                  by_cases hkn : k < xn
                  · obtain ⟨ex, ey, vb, vo, rfl, hvb, k0, k1, hg, _⟩ := (HRD.out.ext hBx).pc_at' k hkn
                    obtain ⟨z, zb, zo, rfl, hzb, hzc, hzx⟩ := (HXR.out.ext hBx).idx k hkn
                    have l1 := HEI.out _ (List.mem_of_getElem? hg)
                    simp only [] at l1
                    have hxz : xAt X i k = z := by unfold xAt; rw [hzx]; rfl
                    have hd2 := HD2.out k (ex, ey) hg
                    rw [hxz] at hd2
                    simp only [] at hd2
                    obtain ⟨D, hD⟩ : ∃ D, ex + rv = D := ⟨_, rfl⟩
                    rw [hD] at hd2
                    have we2 : IntKind.i64.wrap (ex + rv) = D := by rw [← hD]; exact IntWalk.i64_in _ (by omega)
                    have HZ2 : Hid (∀ wz, Below wr.heap.size wr wz → wz.cell? ⟨zb, zo + k, none⟩ = some (.int .i64 z) ∧ zb < wz.heap.size) := Lib.hid (fun wz hz => ⟨(hz.cell (p := ⟨zb, zo + k, none⟩) hzb).trans hzc, Nat.lt_of_lt_of_le hzb hz.size⟩)
                    have HD3 := Lib.hid hd2
                    clear hBx hg l1 hzx hxz hd2 hD
                    go_upto_region 22 with fail
                    go_upto_region 23 with (refine wp_region_later_lit (by kernel_rfl) (by kernel_rfl) ?_; (repeat (go_big_quiet_step (fail))); refine wpQuiet_nil ?_; intro w12 hb12)
                    have HBY := Lib.hid (Below.then HBX.out hb12)
                    obtain ⟨j2, j3⟩ := HZ2.out _ hb12
                    clear s1 s2 s3 s4 s5 s6 s7 s8 s9 s10 k0 k1 hzc hzb hb12
                    obtain ⟨⟨s1, s2⟩, ⟨s3, s4⟩, ⟨s5, s6⟩, ⟨s7, s8⟩, ⟨s9, s10⟩⟩ := HC.out _ HBY.out
                    by_cases hdt : D ≤ t
                    · have h1 := HD3.out hdt
                      have d3 : decide (D ≤ t) = true := by simpa using hdt
                      have d4 : decide (z < 0) = false := by simp; omega
                      have d5 : decide (D < z) = false := by simp; omega
                      clear h1
                      go_wp2_with fail
                      go_roundw
                      case rel => exact ⟨k + 1, hkn, by go_num, HBY.out⟩
                      case measure => simp [intOf]; omega
                    · have d3 : decide (D ≤ t) = false := by simpa using hdt
                      go_wp2_with fail
                      go_roundw
                      case rel => exact ⟨k + 1, hkn, by go_num, HBY.out⟩
                      case measure => simp [intOf]; omega
                  · have hke : k = xn := by omega
                    subst hke
                    clear hBx
                    go_wp2_with fail
                    go_roundw
                    case rel => exact ⟨i + 1, hin, by go_num, Below.then HB.out HBX.out⟩
                    case measure => simp [intOf]; omega
              · clear hB
                go_wp2_with (go_at_call 8; (with_reducible refine (awake_any _).mono ?_); rintro e w20 ⟨rfl, hb20⟩)
                go_ret
                exact ⟨rfl, Below.then (B9.out.trans (HBR.out.mono B9.out.size)) hb20⟩
        · have HBT := Lib.hid hbt
          have HS2 := Lib.hid hsg
          obtain ⟨SF, hSF⟩ : ∃ x, G = x := ⟨_, rfl⟩
          obtain ⟨SS, hSS⟩ : ∃ x, T = x := ⟨_, rfl⟩
          rw [hSF, hSS] at HS2
          have HLE : Hid (∀ v : Nat, leastN F S v ≤ leastN SF SS v) := Lib.hid (fun v => by rw [← hSF, ← hSS]; exact hble v)
          have HSF := Lib.hid hSF; have HSS := Lib.hid hSS
          clear hbt hSF hSS hsg hble
          go_enter Try.func5, Try.ntmps5
          go_upto_region 7 with (first | (go_at_call 7; (with_reducible refine (HRD.out _ (by (repeat' (first | (with_reducible exact Below.refl _ _) | (with_reducible assumption) | (with_reducible refine Below.alloc ?_ ?_ _) | (with_reducible refine Below.drew ?_) | (with_reducible refine Below.draws ?_ _) | (with_reducible refine Below.setCell ?_ ?_ _) | (refine Below.then ?_ (by with_reducible assumption)) | go_size)))).mono ?_); rintro e w1 ⟨rfl, hb1⟩; have x0 := (hb1.cell (p := ⟨w.heap.size, 0, none⟩) (by simp)).trans (show _ = some (.int .i64 F) by simp [go_sem]); have x1 := (hb1.cell (p := ⟨w.heap.size, 1, none⟩) (by simp)).trans (show _ = some (.int .i64 S) by simp [go_sem]); have x2 := (hb1.cell (p := ⟨w.heap.size, 2, none⟩) (by simp)).trans (show _ = some (.int .i64 G) by simp [go_sem]); have x3 := (hb1.cell (p := ⟨w.heap.size, 3, none⟩) (by simp)).trans (show _ = some (.int .i64 T) by simp [go_sem]); have x4 := (hb1.cell (p := ⟨w.heap.size, 4, none⟩) (by simp)).trans (show _ = some (.slice bA bN bC) by simp [go_sem]); have x5 := (hb1.cell (p := ⟨w.heap.size, 5, none⟩) (by simp)).trans (show _ = some (.slice lA lN lC) by simp [go_sem]); have x6 := (hb1.cell (p := ⟨w.heap.size, 6, none⟩) (by simp)).trans (show _ = some (.int .i64 t) by simp [go_sem]); have xz : w.heap.size < w1.heap.size := Nat.lt_of_lt_of_le (by simp) hb1.size; have HX : Hid (XBox w1 w.heap.size ⟨F, S, G, T, bA, bN, bC, by_, lA, lN, lC, late, t⟩) := Lib.hid ⟨x0, x1, x2, x3, x4, x5, x6, xz⟩; have B1 : Hid (Below w.heap.size w w1) := Lib.hid (Below.trans (by (repeat' (first | (with_reducible exact Below.refl _ _) | (with_reducible assumption) | (with_reducible refine Below.alloc ?_ ?_ _) | (with_reducible refine Below.drew ?_) | (with_reducible refine Below.draws ?_ _) | (with_reducible refine Below.setCell ?_ ?_ _) | (refine Below.then ?_ (by with_reducible assumption)) | go_size))) (hb1.mono (by simp))); clear hb1) | (go_at_call 19; (with_reducible refine (Accept_is (HL.out.ext B1.out) HAC.out).mono ?_); rintro e w2 ⟨rfl, hb2⟩; have B2 := Lib.hid (Below.then B1.out hb2); clear x0 x1 x2 x3 x4 x5 x6 xz; have HX := Lib.hid (HX.out.ext hb2); obtain ⟨x0, x1, x2, x3, x4, x5, x6, xz⟩ := HX.out; simp only [] at x0 x1 x2 x3 x4 x5 x6; clear hb2) | (go_at_call 20; (with_reducible refine (Better_is HBT.out).mono ?_); rintro e w3 ⟨rfl, hb3⟩; have B3 := Lib.hid (Below.then B2.out hb3); clear x0 x1 x2 x3 x4 x5 x6 xz; have HX := Lib.hid (HX.out.ext hb3); obtain ⟨x0, x1, x2, x3, x4, x5, x6, xz⟩ := HX.out; simp only [] at x0 x1 x2 x3 x4 x5 x6; clear hb3))
          obtain ⟨w4, hw4⟩ : ∃ x, x = w3.alloc (.cells #[.int .i64 G, .int .i64 T] 24) := ⟨_, rfl⟩
          have hb34 : Below w3.heap.size w3 w4 := by rw [hw4]; (repeat' (first | (with_reducible exact Below.refl _ _) | (with_reducible assumption) | (with_reducible refine Below.alloc ?_ ?_ _) | (with_reducible refine Below.drew ?_) | (with_reducible refine Below.draws ?_ _) | (with_reducible refine Below.setCell ?_ ?_ _) | (refine Below.then ?_ (by with_reducible assumption)) | go_size))
          have HP : Hid (PBox w4 w3.heap.size SF SS) := Lib.hid (by rw [hw4, ← HSF.out, ← HSS.out]; exact ⟨by simp [go_sem], by simp [go_sem], by simp⟩)
          have B4 := Lib.hid (Below.then B3.out hb34)
          rw [← hw4]
          clear x0 x1 x2 x3 x4 x5 x6 xz; have HX := Lib.hid (HX.out.ext hb34); obtain ⟨x0, x1, x2, x3, x4, x5, x6, xz⟩ := HX.out; simp only [] at x0 x1 x2 x3 x4 x5 x6
          clear hw4 hb34
          obtain ⟨p0, p1, pz⟩ := HP.out
          go_upto_region 8 with (go_at_call 21; (with_reducible refine (easeB_any _ _ _ L _ _ _ by_ _ (HL.out.ext B4.out) HN.out HVT.out (HXK.out.ext B4.out).b).mono ?_); rintro e w5 ⟨a5, c5, K, rfl, hk5, he5, hb5⟩; have HK := Lib.hid hk5; have HEK := Lib.hid he5; have HB45 := Lib.hid hb5; have B5 := Lib.hid (Below.then B4.out hb5); clear x0 x1 x2 x3 x4 x5 x6 xz; have HX := Lib.hid (HX.out.ext hb5); obtain ⟨x0, x1, x2, x3, x4, x5, x6, xz⟩ := HX.out; simp only [] at x0 x1 x2 x3 x4 x5 x6; clear hk5 he5 hb5 p0 p1 pz; have HP := Lib.hid (HP.out.ext HB45.out); obtain ⟨p0, p1, pz⟩ := HP.out)
          have hkv := HEK.out.valid HVT.out
          obtain ⟨hab2, hrle⟩ := sus_resp (G := SF) (T := SS) HEK.out HVT.out HLE.out HAB.out
          have hKl : K.length = n := by rw [HEK.out.1]; exact HLL.out
          have hrun := topR_run hkv HS2.out late
          have hmt := topR_meets hkv HS2.out late hab2 HT2.out
          have hdue := fun (i : Nat) (hi : i < L.length) => sus_due (G := SF) (T := SS) HEK.out HVT.out HS2.out HLE.out HAB.out late hi
          have HA2 : Hid (accE K SF SS = 0) := Lib.hid (by unfold accE okB; rw [hkv, HS2.out, hab2]; rfl)
          have HRUN := Lib.hid (fun w1 (hb : Below w5.heap.size w5 w1) => runB_any a5 n c5 K SF SS lA lN lC late w1 (HK.out.ext hb) (valid_of hkv) ((HXK.out.ext (Below.then B5.out hb)).l))
          obtain ⟨R, hR⟩ : ∃ R, topR K SF SS late = R := ⟨_, rfl⟩
          have hRL : R.L = K := by rw [← hR]; rfl
          have hRf : R.fr = SF := by rw [← hR]; rfl
          have hRs : R.sl = SS := by rw [← hR]; rfl
          rw [hR] at HRUN hrun hmt
          rw [hR] at hdue
          obtain ⟨hr, _⟩ := run_ok hrun
          obtain ⟨tn, htn⟩ := Int.eq_ofNat_of_zero_le HT2.out.1
          have hin : (Go.Proofs.Ytmahagcghpoekaa.runB R && inB t 0 2000) = true := by rw [hrun, Bool.true_and, inB_iff]; exact HT2.out
          have hen : endN R t = n := by unfold endN; rw [if_pos hin, hRL, hKl]
          have hee : endE R t = 0 := by unfold endE; rw [if_pos hin]
          have hex : endX R t = endsRow R (plM R tn).o := by rw [htn]; unfold endX; rw [Int.toNat_natCast]
          have hXl : ∀ i, (endX R t i).length = (evA R i).length := fun i => by rw [hex]; exact endsRow_len _ _ _
          have hXg : ∀ i k, k < (evA R i).length → xAt (endX R t) i k = endF (plM R tn).o i k := fun i k hk => by unfold xAt; rw [hex, endsRow_get hk]; rfl
          obtain ⟨X, hX⟩ : ∃ X, endX R t = X := ⟨_, rfl⟩
          have HMEE := Lib.hid (fun (H : RunH) (wz : World) (h : ReadRun wz H R) => (by have := Meets_any H R t wz h; rw [hmt, hRf, hRs] at this; exact this : Calls Try.prog 23 #[runV H SF SS, .int .i64 t] wz fun e w' => e = .returned (.tuple #[.bool true, .int .i64 0]) ∧ Below wz.heap.size wz w'))
          have HENDS := Lib.hid (fun (H : RunH) (wz : World) (h : ReadRun wz H R) => (by have := Ends_any H R t wz h; rw [hen, hee, hRf, hRs, hX] at this; exact this : Calls Try.prog 14 #[runV H SF SS, .int .i64 t] wz (OutX wz n X 0)))
          rw [hX] at hXl hXg
          have HXL := Lib.hid hXl
          have HDUE : Hid (∀ i : Nat, i < n → ∀ (k : Nat) (e : P2), (evA R i)[k]? = some e → e.1 + respN L F S i ≤ t → 0 ≤ xAt X i k ∧ xAt X i k ≤ e.1 + respN L F S i) := Lib.hid (fun i hi k e he hle => by rw [hXg i k (List.getElem?_eq_some_iff.1 he).1]; exact hdue i (by rw [HLL.out]; exact hi) tn k e he (by rw [← htn]; exact hle))
          have HEV : Hid (R.ev.length = n) := Lib.hid (by rw [hr.ev, hRL, hKl])
          have HEL : Hid (∀ i, (evA R i).length ≤ 40 ∧ ∀ e ∈ evA R i, (0 ≤ e.1 ∧ e.1 ≤ 1000000) ∧ (0 ≤ e.2 ∧ e.2 ≤ 1000000)) := Lib.hid (fun i => by
            by_cases hi : i < R.ev.length
            · exact hr.el (evA R i) (by unfold evA; rw [List.getElem?_eq_getElem hi]; exact List.getElem_mem hi)
            · unfold evA; rw [List.getElem?_eq_none (by omega)]; simp)
          clear hkv hab2 hrle hKl hrun hmt hdue hr hin hen hee hex hXl hXg hX hRL hRf hRs hR htn
          go_upto_region 12 with (first | (go_at_call 22; (with_reducible refine (Resps_is (HL.out.ext B5.out) HRS.out).mono ?_); rintro e w6 ⟨a6, n6, c6, rfl, h6, hb6⟩; have HQ6 := Lib.hid (ownsI_rd h6); have hn6 : n6 = n := (by rw [← HQ6.out.length]; exact HRL.out); subst hn6; have HB56 := Lib.hid hb6; have B6 := Lib.hid (Below.then B5.out hb6); clear x0 x1 x2 x3 x4 x5 x6 xz; have HX := Lib.hid (HX.out.ext hb6); obtain ⟨x0, x1, x2, x3, x4, x5, x6, xz⟩ := HX.out; simp only [] at x0 x1 x2 x3 x4 x5 x6; clear h6 hb6 p0 p1 pz; have HP := Lib.hid (HP.out.ext HB56.out); obtain ⟨p0, p1, pz⟩ := HP.out) | (go_at_call 19; (with_reducible refine (Accept_is (HK.out.ext HB56.out) HA2.out).mono ?_); rintro e w7 ⟨rfl, hb7⟩; have HB57 := Lib.hid (Below.then HB56.out hb7); have B7 := Lib.hid (Below.then B6.out hb7); have HQ7 := Lib.hid (HQ6.out.ext hb7); clear x0 x1 x2 x3 x4 x5 x6 xz; have HX := Lib.hid (HX.out.ext hb7); obtain ⟨x0, x1, x2, x3, x4, x5, x6, xz⟩ := HX.out; simp only [] at x0 x1 x2 x3 x4 x5 x6; have HP := Lib.hid (HP.out.ext hb7); clear hb7 p0 p1 pz; obtain ⟨p0, p1, pz⟩ := HP.out) | (go_at_call 9; (with_reducible refine (HRUN.out _ HB57.out).mono ?_); rintro e w8 ⟨H8, rfl, q1, q2, q3, hr8, hb8⟩; clear q1 q2 q3 p0 p1 pz; have HR8 := Lib.hid hr8; have B8 := Lib.hid (Below.then B7.out hb8); have HQ8 := Lib.hid (HQ7.out.ext hb8); clear x0 x1 x2 x3 x4 x5 x6 xz; have HX := Lib.hid (HX.out.ext hb8); obtain ⟨x0, x1, x2, x3, x4, x5, x6, xz⟩ := HX.out; simp only [] at x0 x1 x2 x3 x4 x5 x6; clear hr8 hb8; obtain ⟨tA, tN, tC, eA, eN, eC, gA, gN, gC, sA, sN, sC⟩ := H8; unfold runV; simp only []))
          obtain ⟨w9, hw9⟩ : ∃ x, x = w8.alloc (.cells #[.slice tA tN tC, .int .i64 SF, .int .i64 SS, .slice eA eN eC, .slice gA gN gC, .slice sA sN sC] 32) := ⟨_, rfl⟩
          have hb89 : Below w8.heap.size w8 w9 := by rw [hw9]; (repeat' (first | (with_reducible exact Below.refl _ _) | (with_reducible assumption) | (with_reducible refine Below.alloc ?_ ?_ _) | (with_reducible refine Below.drew ?_) | (with_reducible refine Below.draws ?_ _) | (with_reducible refine Below.setCell ?_ ?_ _) | (refine Below.then ?_ (by with_reducible assumption)) | go_size))
          have HX9 : Hid (RBox w9 w8.heap.size ⟨tA, tN, tC, eA, eN, eC, gA, gN, gC, sA, sN, sC⟩ SF SS) := Lib.hid (by rw [hw9]; exact ⟨by simp [go_sem], by simp [go_sem], by simp [go_sem], by simp [go_sem], by simp [go_sem], by simp [go_sem], by simp⟩)
          have HR9 := Lib.hid (HR8.out.ext hb89)
          have B9 := Lib.hid (Below.then B8.out hb89)
          have HQ9 := Lib.hid (HQ8.out.ext hb89)
          rw [← hw9]
          have HMT := Lib.hid (fun (wz : World) (hz : Below w9.heap.size w9 wz) => HMEE.out ⟨tA, tN, tC, eA, eN, eC, gA, gN, gC, sA, sN, sC⟩ wz (HR9.out.ext hz))
          have HEN := Lib.hid (fun (wz : World) (hz : Below w9.heap.size w9 wz) => HENDS.out ⟨tA, tN, tC, eA, eN, eC, gA, gN, gC, sA, sN, sC⟩ wz (HR9.out.ext hz))
          unfold runV at HMT HEN
          simp only [] at HMT HEN
          clear x0 x1 x2 x3 x4 x5 x6 xz; have HX := Lib.hid (HX.out.ext hb89); obtain ⟨x0, x1, x2, x3, x4, x5, x6, xz⟩ := HX.out; simp only [] at x0 x1 x2 x3 x4 x5 x6
          clear hw9 hb89 HMEE HENDS HRUN
          obtain ⟨r0, r1, r2, r3, r4, r5, rz⟩ := HX9.out
          simp only [] at r0 r3 r4 r5
          go_upto_region 16 with (first | (go_at_call 23; (with_reducible refine (HMT.out _ (Below.refl _ _)).mono ?_); rintro e w10 ⟨rfl, hb10⟩; have HB910 := Lib.hid hb10; clear x0 x1 x2 x3 x4 x5 x6 xz; have HX := Lib.hid (HX.out.ext hb10); obtain ⟨x0, x1, x2, x3, x4, x5, x6, xz⟩ := HX.out; simp only [] at x0 x1 x2 x3 x4 x5 x6; clear hb10 r0 r1 r2 r3 r4 r5 rz; obtain ⟨r0, r1, r2, r3, r4, r5, rz⟩ := HX9.out.ext HB910.out; simp only [] at r0 r3 r4 r5) | (go_at_call 14; (with_reducible refine (HEN.out _ HB910.out).mono ?_); rintro e w11 ⟨a11, c11, rfl, h11, hb11⟩; have HE11 := Lib.hid h11; have HB911 := Lib.hid (Below.then HB910.out hb11); clear x0 x1 x2 x3 x4 x5 x6 xz; have HX := Lib.hid (HX.out.ext hb11); obtain ⟨x0, x1, x2, x3, x4, x5, x6, xz⟩ := HX.out; simp only [] at x0 x1 x2 x3 x4 x5 x6; clear h11 hb11 r0 r1 r2 r3 r4 r5 rz; obtain ⟨r0, r1, r2, r3, r4, r5, rz⟩ := HX9.out.ext HB911.out; simp only [] at r0 r3 r4 r5))
          go_wp2
          go_loopw [16] (fun v wr => ∃ i : Nat, i ≤ n6 ∧ v = .int .i64 i ∧ Below w11.heap.size w11 wr) (fun v _ => n6 - (intOf v).toNat)
          case atStart => exact ⟨0, Nat.zero_le _, rfl, Below.refl _ _⟩
          case round =>
            obtain ⟨i, hi, rfl, hB⟩ := hrel
            have HB := Lib.hid hB
            have HBR := Lib.hid (Below.then HB911.out hB)
            by_cases hin : i < n6
            · have hR := (HR9.out.ext HBR.out).rd
              have hie : i < eN := by have h1 := hR.e.len; have h2 := HEV.out; simp only [] at h1; omega
              obtain ⟨eb, eo, ea, en, ec, hea, heb, hec, hRd⟩ := hR.e.at_ i hie
              simp only [] at hea
              have hlen : (evA R i).length = en := hRd.length
              obtain ⟨xb, xo, xa, xn, xc, rfl, hxb, hxc, hxl, hxR⟩ := (HE11.out.ext hB).row hin
              have hxe : xn = en := by rw [← hxl, HXL.out, hlen]
              subst hxe
              subst hea
              obtain ⟨rv, rb, ro, rfl, hrb, hrc, hrv⟩ := (HQ9.out.ext HBR.out).idx i hin
              have hrv2 : respN L F S i = rv := by have := HRG.out i hin; rw [hrv] at this; simpa using this.symm
              have hrvb := HRB.out i hin
              have hdue := HDUE.out i hin
              rw [hrv2] at hrvb hdue
              have HD2 := Lib.hid hdue
              have hens : xn ≤ 40 := by rw [← hlen]; exact (HEL.out i).1
              have HEI := Lib.hid ((HEL.out i).2)
              have hlr := HX9.out.ext HBR.out
              have hlx := HX.out.ext HB.out
              have HRD := Lib.hid hRd; have HXR := Lib.hid hxR
              have HC : Hid (∀ wz, Below wr.heap.size wr wz → (wz.cell? ⟨xb, xo + i, none⟩ = some (.slice xa xn xc) ∧ xb < wz.heap.size) ∧ (wz.cell? ⟨eb, eo + i, none⟩ = some (.slice ea xn ec) ∧ eb < wz.heap.size) ∧ (wz.cell? ⟨rb, ro + i, none⟩ = some (.int .i64 rv) ∧ rb < wz.heap.size) ∧ (wz.cell? ⟨w8.heap.size, 3, none⟩ = some (.slice (some ⟨eb, eo, none⟩) eN eC) ∧ w8.heap.size < wz.heap.size) ∧ (wz.cell? ⟨w.heap.size, 6, none⟩ = some (.int .i64 t) ∧ w.heap.size < wz.heap.size)) := Lib.hid (fun wz hz => ⟨⟨(hz.cell (p := ⟨xb, xo + i, none⟩) hxb).trans hxc, Nat.lt_of_lt_of_le hxb hz.size⟩, ⟨(hz.cell (p := ⟨eb, eo + i, none⟩) heb).trans hec, Nat.lt_of_lt_of_le heb hz.size⟩, ⟨(hz.cell (p := ⟨rb, ro + i, none⟩) hrb).trans hrc, Nat.lt_of_lt_of_le hrb hz.size⟩, ⟨(hz.cell (p := ⟨w8.heap.size, 3, none⟩) hlr.z).trans hlr.c3, Nat.lt_of_lt_of_le hlr.z hz.size⟩, ⟨(hz.cell (p := ⟨w.heap.size, 6, none⟩) hlx.z).trans hlx.c6, Nat.lt_of_lt_of_le hlx.z hz.size⟩⟩)
              clear hB hR hRd hlen hxl hxR hrv hrv2 hdue hlr hlx hxb hxc heb hec hrb hrc
              go_wp2
              go_loopw [17] (fun v wx => ∃ k : Nat, k ≤ xn ∧ v = .int .i64 k ∧ Below wr.heap.size wr wx) (fun v _ => xn - (intOf v).toNat)
              case atStart => exact ⟨0, Nat.zero_le _, rfl, Below.refl _ _⟩
              case round =>
                obtain ⟨k, hk, rfl, hBx⟩ := hrel
                have HBX := Lib.hid hBx
                obtain ⟨⟨s1, s2⟩, ⟨s3, s4⟩, ⟨s5, s6⟩, ⟨s7, s8⟩, ⟨s9, s10⟩⟩ := HC.out _ hBx
                by_cases hkn : k < xn
                · obtain ⟨ex, ey, vb, vo, rfl, hvb, k0, k1, hg, _⟩ := (HRD.out.ext hBx).pc_at' k hkn
                  obtain ⟨z, zb, zo, rfl, hzb, hzc, hzx⟩ := (HXR.out.ext hBx).idx k hkn
                  have l1 := HEI.out _ (List.mem_of_getElem? hg)
                  simp only [] at l1
                  have hxz : xAt X i k = z := by unfold xAt; rw [hzx]; rfl
                  have hd2 := HD2.out k (ex, ey) hg
                  rw [hxz] at hd2
                  simp only [] at hd2
                  obtain ⟨D, hD⟩ : ∃ D, ex + rv = D := ⟨_, rfl⟩
                  rw [hD] at hd2
                  have we2 : IntKind.i64.wrap (ex + rv) = D := by rw [← hD]; exact IntWalk.i64_in _ (by omega)
                  have HZ2 : Hid (∀ wz, Below wr.heap.size wr wz → wz.cell? ⟨zb, zo + k, none⟩ = some (.int .i64 z) ∧ zb < wz.heap.size) := Lib.hid (fun wz hz => ⟨(hz.cell (p := ⟨zb, zo + k, none⟩) hzb).trans hzc, Nat.lt_of_lt_of_le hzb hz.size⟩)
                  have HD3 := Lib.hid hd2
                  clear hBx hg l1 hzx hxz hd2 hD
                  go_upto_region 22 with fail
                  go_upto_region 23 with (refine wp_region_later_lit (by kernel_rfl) (by kernel_rfl) ?_; (repeat (go_big_quiet_step (fail))); refine wpQuiet_nil ?_; intro w12 hb12)
                  have HBY := Lib.hid (Below.then HBX.out hb12)
                  obtain ⟨j2, j3⟩ := HZ2.out _ hb12
                  clear s1 s2 s3 s4 s5 s6 s7 s8 s9 s10 k0 k1 hzc hzb hb12
                  obtain ⟨⟨s1, s2⟩, ⟨s3, s4⟩, ⟨s5, s6⟩, ⟨s7, s8⟩, ⟨s9, s10⟩⟩ := HC.out _ HBY.out
                  by_cases hdt : D ≤ t
                  · have h1 := HD3.out hdt
                    have d3 : decide (D ≤ t) = true := by simpa using hdt
                    have d4 : decide (z < 0) = false := by simp; omega
                    have d5 : decide (D < z) = false := by simp; omega
                    clear h1
                    go_wp2_with fail
                    go_roundw
                    case rel => exact ⟨k + 1, hkn, by go_num, HBY.out⟩
                    case measure => simp [intOf]; omega
                  · have d3 : decide (D ≤ t) = false := by simpa using hdt
                    go_wp2_with fail
                    go_roundw
                    case rel => exact ⟨k + 1, hkn, by go_num, HBY.out⟩
                    case measure => simp [intOf]; omega
                · have hke : k = xn := by omega
                  subst hke
                  clear hBx
                  go_wp2_with fail
                  go_roundw
                  case rel => exact ⟨i + 1, hin, by go_num, Below.then HB.out HBX.out⟩
                  case measure => simp [intOf]; omega
            · clear hB
              go_wp2_with (go_at_call 8; (with_reducible refine (awake_any _).mono ?_); rintro e w20 ⟨rfl, hb20⟩)
              go_ret
              exact ⟨rfl, Below.then (B9.out.trans (HBR.out.mono B9.out.size)) hb20⟩
      · have hac1 : (ac != 0) = true := by simpa using hac0
        clear hac hvl hsup hll ht2
        go_enter Try.func5, Try.ntmps5
        go_wp2_with (first | (go_at_call 7; (with_reducible refine (HRD.out _ (by (repeat' (first | (with_reducible exact Below.refl _ _) | (with_reducible assumption) | (with_reducible refine Below.alloc ?_ ?_ _) | (with_reducible refine Below.drew ?_) | (with_reducible refine Below.draws ?_ _) | (with_reducible refine Below.setCell ?_ ?_ _) | (refine Below.then ?_ (by with_reducible assumption)) | go_size)))).mono ?_); rintro e w1 ⟨rfl, hb1⟩; have x0 := (hb1.cell (p := ⟨w.heap.size, 0, none⟩) (by simp)).trans (show _ = some (.int .i64 F) by simp [go_sem]); have x1 := (hb1.cell (p := ⟨w.heap.size, 1, none⟩) (by simp)).trans (show _ = some (.int .i64 S) by simp [go_sem]); have x2 := (hb1.cell (p := ⟨w.heap.size, 2, none⟩) (by simp)).trans (show _ = some (.int .i64 G) by simp [go_sem]); have x3 := (hb1.cell (p := ⟨w.heap.size, 3, none⟩) (by simp)).trans (show _ = some (.int .i64 T) by simp [go_sem]); have x4 := (hb1.cell (p := ⟨w.heap.size, 4, none⟩) (by simp)).trans (show _ = some (.slice bA bN bC) by simp [go_sem]); have x5 := (hb1.cell (p := ⟨w.heap.size, 5, none⟩) (by simp)).trans (show _ = some (.slice lA lN lC) by simp [go_sem]); have x6 := (hb1.cell (p := ⟨w.heap.size, 6, none⟩) (by simp)).trans (show _ = some (.int .i64 t) by simp [go_sem]); have xz : w.heap.size < w1.heap.size := Nat.lt_of_lt_of_le (by simp) hb1.size; have HX : Hid (XBox w1 w.heap.size ⟨F, S, G, T, bA, bN, bC, by_, lA, lN, lC, late, t⟩) := Lib.hid ⟨x0, x1, x2, x3, x4, x5, x6, xz⟩; have B1 : Hid (Below w.heap.size w w1) := Lib.hid (Below.trans (by (repeat' (first | (with_reducible exact Below.refl _ _) | (with_reducible assumption) | (with_reducible refine Below.alloc ?_ ?_ _) | (with_reducible refine Below.drew ?_) | (with_reducible refine Below.draws ?_ _) | (with_reducible refine Below.setCell ?_ ?_ _) | (refine Below.then ?_ (by with_reducible assumption)) | go_size))) (hb1.mono (by simp))); clear hb1) | (go_at_call 19; (with_reducible refine (Accept_is (HL.out.ext B1.out) HAC.out).mono ?_); rintro e w2 ⟨rfl, hb2⟩; have B2 := Lib.hid (Below.then B1.out hb2); clear x0 x1 x2 x3 x4 x5 x6 xz; have HX := Lib.hid (HX.out.ext hb2); obtain ⟨x0, x1, x2, x3, x4, x5, x6, xz⟩ := HX.out; simp only [] at x0 x1 x2 x3 x4 x5 x6; clear hb2) | (go_at_call 8; (with_reducible refine (awake_any _).mono ?_); rintro e w20 ⟨rfl, hb20⟩))
        go_ret
        exact ⟨rfl, Below.then B2.out hb20⟩
    · have d20 : decide ((20 : Int) < (bN : Int)) = true := by simp <;> omega
      clear hvl hsup hll ht2
      go_enter Try.func5, Try.ntmps5
      go_wp2_with (first | (go_at_call 7; (with_reducible refine (HRD.out _ (by (repeat' (first | (with_reducible exact Below.refl _ _) | (with_reducible assumption) | (with_reducible refine Below.alloc ?_ ?_ _) | (with_reducible refine Below.drew ?_) | (with_reducible refine Below.draws ?_ _) | (with_reducible refine Below.setCell ?_ ?_ _) | (refine Below.then ?_ (by with_reducible assumption)) | go_size)))).mono ?_); rintro e w1 ⟨rfl, hb1⟩; have x0 := (hb1.cell (p := ⟨w.heap.size, 0, none⟩) (by simp)).trans (show _ = some (.int .i64 F) by simp [go_sem]); have x1 := (hb1.cell (p := ⟨w.heap.size, 1, none⟩) (by simp)).trans (show _ = some (.int .i64 S) by simp [go_sem]); have x2 := (hb1.cell (p := ⟨w.heap.size, 2, none⟩) (by simp)).trans (show _ = some (.int .i64 G) by simp [go_sem]); have x3 := (hb1.cell (p := ⟨w.heap.size, 3, none⟩) (by simp)).trans (show _ = some (.int .i64 T) by simp [go_sem]); have x4 := (hb1.cell (p := ⟨w.heap.size, 4, none⟩) (by simp)).trans (show _ = some (.slice bA bN bC) by simp [go_sem]); have x5 := (hb1.cell (p := ⟨w.heap.size, 5, none⟩) (by simp)).trans (show _ = some (.slice lA lN lC) by simp [go_sem]); have x6 := (hb1.cell (p := ⟨w.heap.size, 6, none⟩) (by simp)).trans (show _ = some (.int .i64 t) by simp [go_sem]); have xz : w.heap.size < w1.heap.size := Nat.lt_of_lt_of_le (by simp) hb1.size; have HX : Hid (XBox w1 w.heap.size ⟨F, S, G, T, bA, bN, bC, by_, lA, lN, lC, late, t⟩) := Lib.hid ⟨x0, x1, x2, x3, x4, x5, x6, xz⟩; have B1 : Hid (Below w.heap.size w w1) := Lib.hid (Below.trans (by (repeat' (first | (with_reducible exact Below.refl _ _) | (with_reducible assumption) | (with_reducible refine Below.alloc ?_ ?_ _) | (with_reducible refine Below.drew ?_) | (with_reducible refine Below.draws ?_ _) | (with_reducible refine Below.setCell ?_ ?_ _) | (refine Below.then ?_ (by with_reducible assumption)) | go_size))) (hb1.mono (by simp))); clear hb1) | (go_at_call 8; (with_reducible refine (awake_any _).mono ?_); rintro e w20 ⟨rfl, hb20⟩))
      go_ret
      exact ⟨rfl, Below.then B1.out hb20⟩
end Go.Proofs.Ytmahagcghpoekaa
