/- From what a row says of lists of lists of pairs to what the walks use. No condition: plain lemmas. The walk of TopClocked: it returns true. The conditions: the tasks read as named. -/
import Derived.Test.YtmahagcghpoekaaMg7
import Derived.Test.YtmahagcghpoekaaMg14
import Derived.Test.YtmahagcghpoekaaMg13
import Derived.Test.YtmahagcghpoekaaMg9
import Derived.Test.YtmahagcghpoekaaMg10
import Derived.Test.YtmahagcghpoekaaMg12
import Derived.BigRegion
import Derived.Deep.Cut
namespace Go.Proofs.Ytmahagcghpoekaa
open Go.ChangeShapes Go.WideShapes Go.ChangeAt Go.RowKit Go.Joins Go.Deep
set_option linter.unusedSimpArgs false
set_option linter.unusedVariables false
set_option maxRecDepth 100000 in
theorem open_lt {H : Type} {enc : TypeId × Value → H} {w : World} {base b0 : Nat} {spare : Nat → Bool} {held : Bool} {r : Reach} {v : Value} {d : DataW H} {ps : List MemPlace}
    (hv : Value.okWide Try.prog w r b0 25 v) (h : DataW.Trod enc Try.prog w base spare held 25 v d ps) (hw : ∀ n ∈ d.weights Try.prog 25, n ≤ reachBytes) :
    ∃ a n c, v = .slice a n c ∧ ∃ late : List (List P2), EvL w a n late := by
  obtain ⟨a0, n0, c0, rfl⟩ := okWide_slice Try.underlying25 hv
  obtain ⟨fuel, hf⟩ := h
  obtain ⟨ys, a, n, c, e, h1, h2, h3, _⟩ := opensB_slice (en := encV) (k := 1) (ok := fun w v => Rd w v.a v.n 2 (v.es.map enc2) ∧ v.n ≤ 281474976710656) Try.underlying25 (by kernel_rfl) (by decide) opensB_row hf hw
  simp [Value.cells] at e
  obtain ⟨rfl, rfl, rfl⟩ := e
  exact ⟨_, _, _, rfl, ys.map EvV.es, ys, h1, fun v hv => (h2 v hv).1, rfl⟩
end Go.Proofs.Ytmahagcghpoekaa
namespace Go.Proofs.Ytmahagcghpoekaa
open Go.RowKit
set_option linter.unusedSimpArgs false
set_option linter.unusedVariables false
theorem Timer_is {o a d n u er : Int} {l : List Int} {w : World} (h1 : (if tmC o a d n u = true then tmR o a d n u else []) = l) (h2 : (if tmC o a d n u = true then (0 : Int) else 1) = er) :
    Calls Try.prog 26 #[.agg #[.int .i64 o, .int .i64 a, .int .i64 d], .int .i64 n, .int .i64 u] w (OutTm w.heap.size w l er) := by subst h1; subst h2; exact Timer_any o a d n u w
theorem Timed_is {o a d n x y z : Int} {w : World} (h : timedR o a d n = (x, y, z)) : Calls Try.prog 25 #[.agg #[.int .i64 o, .int .i64 a, .int .i64 d], .int .i64 n] w fun e w' => e = .returned (.tuple #[.agg #[.int .i64 x, .int .i64 y, .int .i64 0], .int .i64 z]) ∧ Below w.heap.size w w' := by
  have := Timed_any o a d n w
  rw [h] at this; exact this
theorem Dense_is {f g j n er : Int} {l : List P2} {w : World} (h1 : (if denseC f g j n = true then denseL f g n.toNat else []) = l) (h2 : (if denseC f g j n = true then (0 : Int) else 1) = er) : Calls Try.prog 27 #[.agg #[.int .i64 f, .int .i64 g, .int .i64 j], .int .i64 n] w (OutP w.heap.size w l er) := by subst h1; subst h2; exact densest_any f g j n w
theorem Meets_is {H : RunH} {R : Rn} {fr sl_ t y : Int} {b : Bool} {w : World} (hR : ReadRun w H R) (h1 : R.fr = fr) (h2 : R.sl = sl_) (h : meetsR R t = (b, y)) : Calls Try.prog 23 #[runV H fr sl_, .int .i64 t] w fun e w' => e = .returned (.tuple #[.bool b, .int .i64 y]) ∧ Below w.heap.size w w' := by
  subst h1; subst h2
  have := Meets_any H R t w hR
  rw [h] at this; exact this
theorem Meets_tc {tq E Bb c j : Nat} {K : List Ta} {F S t y : Int} {EV : List (List P2)} {b : Bool} {w : World} (hR : ReadRun w ⟨some ⟨tq, 0, none⟩, j, c, some ⟨E, 0, none⟩, j, j, some ⟨Bb, 0, none⟩, j, j, none, 0, 0⟩ (tcR K F S EV)) (h : meetsR (tcR K F S EV) t = (b, y)) :
    Calls Try.prog 23 #[.agg #[.slice (some ⟨tq, 0, none⟩) j c, .int .i64 F, .int .i64 S, .slice (some ⟨E, 0, none⟩) j j, .slice (some ⟨Bb, 0, none⟩) j j, .slice none 0 0], .int .i64 t] w fun e w' => e = .returned (.tuple #[.bool b, .int .i64 y]) ∧ Below w.heap.size w w' := by
  have := Meets_any _ _ t w hR
  rw [h] at this
  exact this
/-- a supply in a box -/
structure PBox (w : World) (q : Nat) (F S : Int) : Prop where
  c0 : w.cell? ⟨q, 0, none⟩ = some (.int .i64 F)
  c1 : w.cell? ⟨q, 1, none⟩ = some (.int .i64 S)
  z : q < w.heap.size
theorem PBox.ext {w w' : World} {q : Nat} {F S : Int} (h : PBox w q F S) (hb : Below w.heap.size w w') : PBox w' q F S :=
  ⟨(hb.cell (p := ⟨q, 0, none⟩) h.z).trans h.c0, (hb.cell (p := ⟨q, 1, none⟩) h.z).trans h.c1, Nat.lt_of_lt_of_le h.z hb.size⟩
theorem PBox.new (w : World) (f g : Int) (t : TypeId) : PBox (w.alloc (.cells #[.int .i64 f, .int .i64 g] t)) w.heap.size f g := ⟨by simp, by simp, by simp⟩
set_option maxRecDepth 100000 in
set_option maxHeartbeats 8000000 in
theorem clocked_walk {w : World} (ta : Option Addr) (m tc : Nat) (L : List Ta) (hL : RdL w ta m L) (hT : ∀ t ∈ L, t.pcs.length ≤ 281474976710656) (hN : NilOk ta m tc) (F S : Int) (o a d : Int) (n : Int) (hn : -9223372036854775808 ≤ n ∧ n ≤ 9223372036854775807) (t : Int) (ht : -9223372036854775808 ≤ t ∧ t ≤ 9223372036854775807) :
    Calls Try.prog 6 #[.slice ta m tc, .agg #[.int .i64 F, .int .i64 S], .agg #[.int .i64 o, .int .i64 a, .int .i64 d], .int .i64 n, .int .i64 t] w fun e w' => e = .returned (.bool true) ∧ Below w.heap.size w w' := by
  have hsm := hL.small
  by_cases h10 : m ≤ 10
  · have d10 : decide ((10 : Int) < (m : Int)) = false := by simp <;> omega
    by_cases ht2 : 0 ≤ t ∧ t ≤ 2000
    · have dt1 : decide (t < 0) = false := by simp; omega
      have dt2 : decide (2000 < t) = false := by simp; omega
      obtain ⟨ms, hms⟩ : ∃ l, (if tmC o a d n t = true then tmR o a d n t else []) = l := ⟨_, rfl⟩
      obtain ⟨er, her⟩ : ∃ er, (if tmC o a d n t = true then (0 : Int) else 1) = er := ⟨_, rfl⟩
      obtain ⟨A, G, z, htd⟩ : ∃ x y z, timedR o a d n = (x, y, z) := ⟨_, _, _, rfl⟩
      have HTL := Lib.hid hms; have HER := Lib.hid her; have HTD := Lib.hid htd
      have HL := Lib.hid hL; have HN := Lib.hid hN
      have hll := hL.length
      by_cases hgo : z = 0 ∧ er = 0 ∧ 1 ≤ m
      · obtain ⟨rfl, rfl, hm1⟩ := hgo
        have hc : tmC o a d n t = true := by
          by_cases q : tmC o a d n t = true
          · exact q
          · rw [if_neg q] at her; omega
        rw [if_pos hc] at hms
        have hc2 := hc
        unfold tmC at hc2
        simp only [Bool.and_eq_true] at hc2
        obtain ⟨k1, k2, k3⟩ := hc2
        have hok : TmOk o a d n := ⟨k1, inB_iff.1 k2⟩
        have hub := inB_iff.1 k3
        have hs := tmR_spec hok hub.1
        rw [hms] at hs
        have hpat : vpat A G 0 = true ∧ A = atT o a d n 0 ∧ G = gapT a d n := by
          unfold timedR at htd
          rw [k1, k2, Bool.and_self, if_pos rfl] at htd
          split at htd
          · rename_i hv
            simp only [Prod.mk.injEq] at htd
            obtain ⟨rfl, rfl, _⟩ := htd
            exact ⟨hv, rfl, rfl⟩
          · simp only [Prod.mk.injEq] at htd; omega
        have hal : allowR A G 0 (zl ms) = (true, 0) := by
          obtain ⟨h1, h2, h3⟩ := hpat
          subst h2; subst h3
          exact tm_allow hok hub hs h1
        have HAL := Lib.hid hal; have HPV := Lib.hid hpat.1
        have hmsl := hs.len
        have hm0 : ((m : Int) == 0) = false := by simp only [beq_eq_false_iff_ne]; omega
        have hmk1 := run_make_row' (P := Try.prog) 29 3 (.int .i64 0) 8 Try.underlying29 (by kernel_rfl) rfl .i64 .i64 m (by omega) (by omega)
        have hmk2 := run_make_row' (P := Try.prog) 25 30 (.slice none 0 0) 24 Try.underlying25 (by kernel_rfl) rfl .i64 .i64 m (by omega) (by omega)
        clear hL hT hN hms her htd hll hc k1 k2 k3 hok hub hs hpat hal hn ht
        go_enter Try.func6, Try.ntmps6
        go_upto_region 4 with (go_at_call 25; (with_reducible refine (Timed_is HTD.out).mono ?_); rintro e w1 ⟨rfl, hb1⟩; have HB0 := Lib.hid (((PBox.new w F S 24).ext (Below.alloc (Below.refl _ _) (Nat.le_refl _) _)).ext hb1); have HB1 := Lib.hid ((Box3.new (w.alloc (.cells #[.int .i64 F, .int .i64 S] 24)) o a d 64).ext hb1); rw [World.size_alloc] at HB1; have B1 : Hid (Below w.heap.size w w1) := Lib.hid (Below.trans (by (repeat' (first | (with_reducible exact Below.refl _ _) | (with_reducible assumption) | (with_reducible refine Below.alloc ?_ ?_ _) | (with_reducible refine Below.drew ?_) | (with_reducible refine Below.draws ?_ _) | (with_reducible refine Below.setCell ?_ ?_ _) | (refine Below.then ?_ (by with_reducible assumption)) | go_size))) (hb1.mono (by simp; omega))); clear hb1; obtain ⟨x0, x1, xz⟩ := HB0.out; obtain ⟨y0, y1, y2, _, _, _, yz⟩ := HB1.out)
        obtain ⟨w3, hw3⟩ : ∃ x, x = w1.alloc (.cells #[.int .i64 A, .int .i64 G, .int .i64 0] 66) := ⟨_, rfl⟩
        have hb13 : Below w1.heap.size w1 w3 := by rw [hw3]; (repeat' (first | (with_reducible exact Below.refl _ _) | (with_reducible assumption) | (with_reducible refine Below.alloc ?_ ?_ _) | (with_reducible refine Below.drew ?_) | (with_reducible refine Below.draws ?_ _) | (with_reducible refine Below.setCell ?_ ?_ _) | (refine Below.then ?_ (by with_reducible assumption)) | go_size))
        have HP : Hid (Box3 w3 w1.heap.size A G 0) := Lib.hid (by rw [hw3]; exact Box3.new _ _ _ _ _)
        have HB0 := Lib.hid (HB0.out.ext hb13); have HB1 := Lib.hid (HB1.out.ext hb13)
        have B3 := Lib.hid (Below.then B1.out hb13)
        rw [← hw3]
        clear hw3 hb13 x0 x1 xz y0 y1 y2 yz
        obtain ⟨x0, x1, xz⟩ := HB0.out; obtain ⟨y0, y1, y2, _, _, _, yz⟩ := HB1.out
        go_upto_region 7 with (go_at_call 26; (with_reducible refine (Timer_is HTL.out HER.out).mono ?_); rintro e w4 ⟨ma, mn, mc, rfl, hm4, hb4⟩; have HM := Lib.hid (ownsI_rd hm4); have HB0 := Lib.hid (HB0.out.ext hb4); have HB1 := Lib.hid (HB1.out.ext hb4); have HP := Lib.hid (HP.out.ext hb4); have B4 := Lib.hid (Below.then B3.out hb4); clear hm4 hb4 x0 x1 xz y0 y1 y2 yz; obtain ⟨x0, x1, xz⟩ := HB0.out; obtain ⟨y0, y1, y2, _, _, _, yz⟩ := HB1.out)
        have hQ1p : w1.heap.size < w4.heap.size := HP.out.z
        have hq01 : w.heap.size < w4.heap.size + 1 := by omega
        have hq02 : w.heap.size < w4.heap.size + 1 + 1 := by omega
        have hq03 : w.heap.size < w4.heap.size + 2 := by omega
        have hq04 : w.heap.size < w4.heap.size + 1 + 1 + 1 := by omega
        have hq05 : w.heap.size < w4.heap.size + 3 := by omega
        clear y0 y1 y2 yz
        go_cut [15] (fun v wx => ∃ p E Bb : Nat, v = .pointer (some ⟨p, 0, none⟩) ∧ Blk wx p #[.slice none 0 0, .int .i64 F, .int .i64 S, .slice (some ⟨E, 0, none⟩) m m, .slice (some ⟨Bb, 0, none⟩) m m, .slice none 0 0] ∧ Blk wx E (madeCells #[.slice none 0 0] m) ∧ Blk wx Bb (madeCells #[.int .i64 0] m) ∧ w4.heap.size ≤ p ∧ w4.heap.size ≤ E ∧ w4.heap.size ≤ Bb ∧ (p ≠ E ∧ p ≠ Bb ∧ E ≠ Bb) ∧ Below w4.heap.size w4 wx)
        case first =>
          go_region
          all_goals
            go_wp2_with fail
            go_meet
            first
              | exact ⟨w4.heap.size, w4.heap.size + 1, w4.heap.size + 1 + 1, rfl, (((Blk.at _ _ _ _ rfl).old _).old _).drew, ((Blk.at _ _ _ _ (by simp)).old _).drew, (Blk.at _ _ _ _ (by simp)).drew, by omega, by omega, by omega, by omega, by (repeat' (first | (with_reducible exact Below.refl _ _) | (with_reducible assumption) | (with_reducible refine Below.alloc ?_ ?_ _) | (with_reducible refine Below.drew ?_) | (with_reducible refine Below.draws ?_ _) | (with_reducible refine Below.setCell ?_ ?_ _) | (refine Below.then ?_ (by with_reducible assumption)) | go_size))⟩
              | exact ⟨w4.heap.size, w4.heap.size + 1 + 1, w4.heap.size + 1, rfl, (((Blk.at _ _ _ _ rfl).old _).old _).drew, (Blk.at _ _ _ _ (by simp)).drew, ((Blk.at _ _ _ _ (by simp)).old _).drew, by omega, by omega, by omega, by omega, by (repeat' (first | (with_reducible exact Below.refl _ _) | (with_reducible assumption) | (with_reducible refine Below.alloc ?_ ?_ _) | (with_reducible refine Below.drew ?_) | (with_reducible refine Below.draws ?_ _) | (with_reducible refine Below.setCell ?_ ?_ _) | (refine Below.then ?_ (by with_reducible assumption)) | go_size))⟩
              | exact ⟨w4.heap.size + 1, w4.heap.size, w4.heap.size + 1 + 1, rfl, ((Blk.at _ _ _ _ (by simp)).old _).drew, (((Blk.at _ _ _ _ rfl).old _).old _).drew, (Blk.at _ _ _ _ (by simp)).drew, by omega, by omega, by omega, by omega, by (repeat' (first | (with_reducible exact Below.refl _ _) | (with_reducible assumption) | (with_reducible refine Below.alloc ?_ ?_ _) | (with_reducible refine Below.drew ?_) | (with_reducible refine Below.draws ?_ _) | (with_reducible refine Below.setCell ?_ ?_ _) | (refine Below.then ?_ (by with_reducible assumption)) | go_size))⟩
              | exact ⟨w4.heap.size + 1, w4.heap.size + 1 + 1, w4.heap.size, rfl, ((Blk.at _ _ _ _ (by simp)).old _).drew, (Blk.at _ _ _ _ (by simp)).drew, (((Blk.at _ _ _ _ rfl).old _).old _).drew, by omega, by omega, by omega, by omega, by (repeat' (first | (with_reducible exact Below.refl _ _) | (with_reducible assumption) | (with_reducible refine Below.alloc ?_ ?_ _) | (with_reducible refine Below.drew ?_) | (with_reducible refine Below.draws ?_ _) | (with_reducible refine Below.setCell ?_ ?_ _) | (refine Below.then ?_ (by with_reducible assumption)) | go_size))⟩
              | exact ⟨w4.heap.size + 1 + 1, w4.heap.size, w4.heap.size + 1, rfl, (Blk.at _ _ _ _ (by simp)).drew, (((Blk.at _ _ _ _ rfl).old _).old _).drew, ((Blk.at _ _ _ _ (by simp)).old _).drew, by omega, by omega, by omega, by omega, by (repeat' (first | (with_reducible exact Below.refl _ _) | (with_reducible assumption) | (with_reducible refine Below.alloc ?_ ?_ _) | (with_reducible refine Below.drew ?_) | (with_reducible refine Below.draws ?_ _) | (with_reducible refine Below.setCell ?_ ?_ _) | (refine Below.then ?_ (by with_reducible assumption)) | go_size))⟩
              | exact ⟨w4.heap.size + 1 + 1, w4.heap.size + 1, w4.heap.size, rfl, (Blk.at _ _ _ _ (by simp)).drew, ((Blk.at _ _ _ _ (by simp)).old _).drew, (((Blk.at _ _ _ _ rfl).old _).old _).drew, by omega, by omega, by omega, by omega, by (repeat' (first | (with_reducible exact Below.refl _ _) | (with_reducible assumption) | (with_reducible refine Below.alloc ?_ ?_ _) | (with_reducible refine Below.drew ?_) | (with_reducible refine Below.draws ?_ _) | (with_reducible refine Below.setCell ?_ ?_ _) | (refine Below.then ?_ (by with_reducible assumption)) | go_size))⟩
        case rest =>
          obtain ⟨p, E, Bb, rfl, kp, kE, kB, p1, p2, p3, p4, hbc⟩ := hcut
          clear hq01 hq02 hq03 hq04 hq05 hmk1 hmk2 x0 x1 xz
          have HW4 := HB0; have HKP := Lib.hid kp; have HKE := Lib.hid kE; have HKB := Lib.hid kB
          have HB0 := Lib.hid (HB0.out.ext hbc); have HP := Lib.hid (HP.out.ext hbc)
          have B4c := Lib.hid hbc
          have BC := Lib.hid (Below.then B4.out hbc)
          have hpz := kp.l; have hEz := kE.l; have hBz := kB.l
          have c0 := kp.c 0; have f0 := kp.f 0
          simp at c0
          obtain ⟨g, hg0, hg2⟩ := HL.out
          have HG0 := Lib.hid hg0
          have HG1 := Lib.hid (hg0.ext BC.out); have HG2 := Lib.hid hg2
          have eT := ETk
          clear kp kE kB hbc hg0 hg2
          go_upto_region 9 with (at_builtin; refine wpList_pushAll (B := wc.heap.size) (n := 0) (xs := []) (v := .slice none 0 0) rfl _ _ _ rfl eT encTa_len encTa_one rfl (World.ownsRow_nil _ _ _ _) rfl HG1.out.rd HN.out (by omega) (by decide) (by simp) ?_; intro v8 w8 hown8 hv8 hb8; rw [Nat.zero_add, List.nil_append] at hown8; obtain ⟨a8, c8, rfl⟩ := hv8; rw [Nat.zero_add] at hown8 ⊢; have HO8 := Lib.hid hown8; have HB8 := Lib.hid hb8; have k8 := (hb8.cell (p := ⟨p, 0, none⟩) hpz).trans c0; have f8 := (hb8.frozen (p := ⟨p, 0, none⟩) hpz).trans f0; clear hown8 hb8)
          obtain ⟨tq, rfl, hq1, hq2⟩ := owns_addr HO8.out hm1
          have hzc8 := HB8.out.size
          have hpq : p ≠ tq := by omega
          obtain ⟨t0, ht0⟩ : ∃ t, g[0]? = some t := ⟨_, List.getElem?_eq_getElem (by rw [HG0.out.length]; exact hm1)⟩
          obtain ⟨w9, hw9⟩ : ∃ x, x = w8.setCell ⟨p, 0, none⟩ (.slice (some ⟨tq, 0, none⟩) m c8) := ⟨_, rfl⟩
          have hO9 : w9.ownsRow wc.heap.size 72 6 (.slice (some ⟨tq, 0, none⟩) m c8) m (g.flatMap encTa) := by rw [hw9]; exact owns_far HO8.out hpz _
          have r0 : w9.cell? ⟨p, 0, none⟩ = some (.slice (some ⟨tq, 0, none⟩) m c8) := by rw [hw9]; exact World.cell?_setCell_same _ _ _ k8
          have hcell : ∀ j, j < 6 → w9.cell? ⟨tq, j, none⟩ = (encTa t0)[j]? ∧ w9.frozen? ⟨tq, j, none⟩ = false := fun j hj => by
            have hl := (Rd.of_owns encTa_len (by decide) hO9).length
            obtain ⟨hi0, e0⟩ := List.getElem?_eq_some_iff.1 ht0
            have h1 := flat_get encTa_len g 0 j hi0 hj
            rw [Nat.zero_mul, Nat.zero_add] at h1
            have h2 := hO9.cellAt j (by omega)
            rw [h1, e0] at h2
            exact ⟨h2, hO9.frozenAt _⟩
          obtain ⟨s2, s2f⟩ := hcell 2 (by omega)
          obtain ⟨s3, s3f⟩ := hcell 3 (by omega)
          obtain ⟨s4, s4f⟩ := hcell 4 (by omega)
          simp [encTa] at s2 s3 s4
          have B8 := Lib.hid (Below.then BC.out HB8.out)
          have hb9 : Below w4.heap.size w4 w9 := by rw [hw9]; exact (B4c.out.trans (HB8.out.mono (by omega))).setCell (p := ⟨p, 0, none⟩) p1 _
          have HB9 := Lib.hid hb9
          have hP9 : Box3 w9 w1.heap.size A G 0 := by rw [hw9]; exact (HP.out.ext (show Below wc.heap.size wc w8 from HB8.out)).other (by omega) _
          have HO9 := Lib.hid hO9; have HT0 := Lib.hid ht0
          have tqz : tq < w9.heap.size := by rw [hw9]; simpa using hq2
          have pz9 : p < w9.heap.size := by rw [hw9]; simp; omega
          rw [← hw9]
          clear hO9 hcell ht0 hb9 k8 f8
          have z0 := hP9.c0; have z1 := hP9.c1; have z2 := hP9.c2; have zz := hP9.z
          clear hP9
          have hm2 : 0 < m := hm1
          have hm3 : (0 : Int) < (m : Int) := by omega
          have HST := Lib.hid (TcM.start (A := A) (G := G) HKP.out HKE.out HKB.out p1 p2 p3 p4 B4c.out HB8.out HO8.out hq1 hq2 HT0.out)
          obtain ⟨P, hP⟩ : ∃ P : TcP, P = (⟨w4, w8.heap.size, p, E, Bb, tq, m, c8, F, S, g.set 0 { t0 with first := A, gap := G, jit := 0 }⟩ : TcP) := ⟨_, rfl⟩
          have hsv : ((((w8.setCell ⟨p, 0, none⟩ (.slice (some ⟨tq, 0, none⟩) m c8)).setCell ⟨tq, 2, none⟩ (.int .i64 A)).setCell ⟨tq, 3, none⟩ (.int .i64 G)).setCell ⟨tq, 4, none⟩ (.int .i64 0)) = ((w9.setCell ⟨tq, 2, none⟩ (.int .i64 A)).setCell ⟨tq, 3, none⟩ (.int .i64 G)).setCell ⟨tq, 4, none⟩ (.int .i64 0) := by rw [hw9]
          have HST : Hid (TcL P ∧ TcM P (((w9.setCell ⟨tq, 2, none⟩ (.int .i64 A)).setCell ⟨tq, 3, none⟩ (.int .i64 G)).setCell ⟨tq, 4, none⟩ (.int .i64 0)) (fun _ => .slice none 0 0)) := Lib.hid (by rw [← hsv, hP]; exact HST.out)
          have HPP := Lib.hid hP
          clear hsv hP hw9
          go_cut [] (fun wx => TcM P wx (fun _ => .slice none 0 0))
          case first =>
            go_wp2_with fail
            go_meet
            exact HST.out.2
          case rest =>
            have HC := Lib.hid hcut; have HLL := Lib.hid HST.out.1
            clear HST z0 z1 z2 zz s2 s3 s4 s2f s3f s4f r0 hcut tqz pz9 c0 f0 hpz hEz hBz hq1 hq2 hzc8
            go_wp2_with fail
            go_loopw [16] (fun i wi => ∃ (k : Nat) (va : Option Addr) (vc : Nat) (r : Nat → EvV), k ≤ mn ∧ i = .int .i64 k ∧ TcE P wi r ∧ r 0 = ⟨va, k, vc, zl (ms.take k)⟩ ∧ ∀ j, j ≠ 0 → r j = ⟨none, 0, 0, []⟩) (fun i _ => mn - (intOf i).toNat)
            case atStart =>
              exact ⟨0, none, 0, fun _ => ⟨none, 0, 0, []⟩, Nat.zero_le _, rfl, ⟨HC.out, fun _ _ => World.ownsRow_nil _ _ _ _⟩, rfl, fun _ _ => rfl⟩
            case round =>
              clear HC
              obtain ⟨k, va, vc, r, hkm, rfl, hM, hr0, hrn⟩ := hrel
              have HM4 := Lib.hid hM; have HR0 := Lib.hid hr0; have HRN := Lib.hid hrn
              by_cases hk : k < mn
              · have hmn : ms.length = mn := by simpa using HM.out.len
                obtain ⟨hkl, mb, mo, rfl, hmb, hmc⟩ := HM.out.one k hk
                have hlb : Below w4.heap.size w4 wr := by have := hM.m.lb; rw [HPP.out] at this; exact this
                have hzE : E < wr.heap.size ∧ p < wr.heap.size := by have h1 := hM.m.ez; have h2 := hM.m.bp.l; rw [HPP.out] at h1 h2; exact ⟨h1, h2⟩
                obtain ⟨hzE, hzp⟩ := hzE
                have hmb2 : mb < wr.heap.size := Nat.lt_of_lt_of_le hmb hlb.size
                have ho0 : wr.ownsRow w8.heap.size 26 2 (.slice va k vc) k ((zl (ms.take k)).flatMap enc2) := by have := hM.o 0 (by rw [HPP.out]; exact hm1); rw [hr0, HPP.out] at this; exact this
                have hzB : w8.heap.size ≤ wr.heap.size := by have := hM.m.z; rw [HPP.out] at this; exact this
                have hlE : E < w8.heap.size ∧ p < w8.heap.size := by have h1 := HLL.out.E.2; have h2 := HLL.out.p.2; rw [HPP.out] at h1 h2; exact ⟨h1, h2⟩
                obtain ⟨hlE, hlp⟩ := hlE
                have HO0 := Lib.hid ho0
                have hf3 : wr.frozen? ⟨E, 0, none⟩ = false := by have := hM.m.fe 0; rw [HPP.out] at this; exact this
                have hml : mb < w4.heap.size := hmb
                have e2 := EB
                have hk40 : k ≤ 40 := by omega
                have g1 : wr.cell? ⟨mb, mo + k, none⟩ = some (.int .i64 ms[k]) := (hlb.cell (p := ⟨mb, mo + k, none⟩) hmb).trans hmc
                have g2 : wr.cell? ⟨p, 3, none⟩ = some (.slice (some ⟨E, 0, none⟩) m m) := by have := hM.m.bp.c 3; rw [HPP.out] at this; exact this
                have g3 : wr.cell? ⟨E, 0, none⟩ = some (.slice va k vc) := by have := hM.m.be 0 (by rw [HPP.out]; exact hm1); rw [hr0, HPP.out] at this; exact this
                clear hM hlb hr0 hrn ho0 hmb hmc
                go_wp2_with fail
                go_region_law ((refine step_app2 (by rfl) _ _ _ (by rfl) e2 (B := w8.heap.size) (news := [.int .i64 ms[k], .int .i64 0]) (by rfl) (by exact owns_ext HO0.out (by (repeat' (first | (with_reducible exact Below.refl _ _) | (with_reducible assumption) | (with_reducible refine Below.alloc ?_ ?_ _) | (with_reducible refine Below.drew ?_) | (with_reducible refine Below.draws ?_ _) | (with_reducible refine Below.setCell ?_ ?_ _) | (refine Below.then ?_ (by with_reducible assumption)) | go_size)))) (by rfl) (by rfl) (by exact World.news_of_block (heap_alloc_new _ _)) (by intro u hu; simp at hu; rcases hu with rfl | rfl <;> rfl) (by omega) (by omega) (by decide) (by simp; omega) ?_; intro a1 c1 w1 hown1 hg1 hb1; have hbw : Below w8.heap.size wr w1 := Below.grown ((show Below wr.heap.size wr _ by (repeat' (first | (with_reducible exact Below.refl _ _) | (with_reducible assumption) | (with_reducible refine Below.alloc ?_ ?_ _) | (with_reducible refine Below.drew ?_) | (with_reducible refine Below.draws ?_ _) | (with_reducible refine Below.setCell ?_ ?_ _) | (refine Below.then ?_ (by with_reducible assumption)) | go_size))).mono hzB) hg1 (by simp; omega) (fun j hj => (HO0.out.lt j hj).1); have q2 := (hbw.cell (p := ⟨p, 3, none⟩) hlp).trans g2; have q3 := (hbw.cell (p := ⟨E, 0, none⟩) hlE).trans g3; have q4 := (hbw.frozen (p := ⟨E, 0, none⟩) hlE).trans hf3; have HX : Hid (TcE P (w1.setCell ⟨E, 0, none⟩ (.slice a1 (k + 1) c1)) (fun j => if j = 0 then ⟨a1, k + 1, c1, zl (ms.take (k + 1))⟩ else r j)) := Lib.hid (by have q := HPP.out; subst q; refine TcE.app HLL.out HM4.out hm1 HRN.out hbw ⟨a1, k + 1, c1, zl (ms.take (k + 1))⟩ ?_; rw [show zl (ms.take (k + 1)) = zl (ms.take k) ++ [(ms[k], 0)] from zl_take ms k hkl, List.flatMap_append]; exact hown1); clear hown1 hg1 hb1 hbw))
                all_goals
                  go_wp2_with fail
                  go_roundw
                  case rel => exact ⟨k + 1, a1, c1, _, hk, by go_num, HX.out, rfl, fun j hj => (if_neg hj).trans (HRN.out j hj)⟩
                  case measure => simp [intOf]; omega
              · obtain rfl : k = mn := by omega
                have hmn : ms.length = k := by simpa using HM.out.len
                rw [List.take_of_length_le (by omega)] at hr0
                have HR2 := Lib.hid hr0
                clear hk hkm hM hr0 hrn HR0
                go_wp2_with fail
                go_loopw [17] (fun i wi => ∃ (j : Nat) (r : Nat → EvV), 1 ≤ j ∧ j ≤ m ∧ i = .int .i64 j ∧ TcE P wi r ∧ (r 0).es = zl ms ∧ (∀ x, 1 ≤ x → x < j → (r x).es = evI (taAt L x)) ∧ ∀ x, j ≤ x → (r x).es = []) (fun i _ => m - (intOf i).toNat)
                case atStart =>
                  exact ⟨1, r, Nat.le_refl _, hm1, rfl, HM4.out, by rw [HR2.out], fun x h1 h2 => by omega, fun x hx => by rw [HRN.out x (by omega)]⟩
                case round =>
                  clear HR2 HM4 HRN
                  obtain ⟨j, r, hj1, hjm, rfl, hM, hr0, hr1, hr2⟩ := hrel
                  have HM4 := Lib.hid hM; have HR0 := Lib.hid hr0; have HR1 := Lib.hid hr1; have HR2 := Lib.hid hr2
                  have hlb : Below w4.heap.size w4 wr := by have := hM.m.lb; rw [HPP.out] at this; exact this
                  have HLr := Lib.hid (HL.out.ext (Below.then B4.out hlb))
                  clear hM hr0 hr1 hr2 hlb
                  by_cases hj : j < m
                  · obtain ⟨tt, b, off, pa, pn, pc, rfl, hb, -, -, g2, g3, g4, -, -, -, hLj, -⟩ := HLr.out.at_ j hj
                    obtain ⟨q, hq⟩ : ∃ q, denseC tt.first tt.gap tt.jit 10 = q := ⟨_, rfl⟩
                    have hev : (if denseC tt.first tt.gap tt.jit 10 = true then denseL tt.first tt.gap (10 : Int).toNat else []) = evI (taAt L j) := by rw [taAt_of hLj]; rfl
                    have her : (if denseC tt.first tt.gap tt.jit 10 = true then (0 : Int) else 1) = (if q = true then 0 else 1) := by rw [hq]
                    have hevf : q = false → evI (taAt L j) = [] := fun h => by rw [← hev, hq, h]; rfl
                    have HEV := Lib.hid hev; have HEF := Lib.hid hevf
                    have hx3 : wr.cell? ⟨p, 3, none⟩ = some (.slice (some ⟨E, 0, none⟩) m m) := by have := HM4.out.m.bp.c 3; rw [HPP.out] at this; exact this
                    have hxE : wr.cell? ⟨E, j, none⟩ = some (.slice (r j).a (r j).n (r j).c) := by have := HM4.out.m.be j (by rw [HPP.out]; exact hj); rw [HPP.out] at this; exact this
                    have hxf : wr.frozen? ⟨E, j, none⟩ = false := by have := HM4.out.m.fe j; rw [HPP.out] at this; exact this
                    have hzE : E < wr.heap.size ∧ p < wr.heap.size := by have h1 := HM4.out.m.ez; have h2 := HM4.out.m.bp.l; rw [HPP.out] at h1 h2; exact ⟨h1, h2⟩
                    obtain ⟨hzE, hzp⟩ := hzE
                    clear hev hevf hq hLj
                    cases q
                    · have HER := Lib.hid (her.trans (if_neg (by decide)))
                      clear her
                      go_wp2_with (go_at_call 27; (with_reducible refine (Dense_is HEV.out HER.out).mono ?_); rintro e w5 ⟨a5, n5, c5, rfl, ho5, hb5⟩; have HX := Lib.hid (HM4.out.ext HLL.out hb5); clear ho5 hb5)
                      go_roundw
                      case rel => exact ⟨j + 1, r, by omega, hj, by go_num, HX.out, HR0.out, fun x h1 h2 => (Nat.lt_or_eq_of_le (Nat.le_of_lt_succ h2)).elim (HR1.out x h1) (fun e => by subst e; rw [HR2.out _ (Nat.le_refl _), HEF.out (by simp)]), fun x hx => HR2.out x (by omega)⟩
                      case measure => simp [intOf]; omega
                    · have HER := Lib.hid (her.trans (if_pos rfl))
                      clear her
                      go_wp2_with (go_at_call 27; (with_reducible refine (Dense_is HEV.out HER.out).mono ?_); rintro e w5 ⟨a5, n5, c5, rfl, ho5, hb5⟩; have y3 := (hb5.cell (p := ⟨p, 3, none⟩) hzp).trans hx3; have yE := (hb5.cell (p := ⟨E, j, none⟩) hzE).trans hxE; have yf := (hb5.frozen (p := ⟨E, j, none⟩) hzE).trans hxf; have HX : Hid (TcE P (w5.setCell ⟨E, j, none⟩ (.slice a5 n5 c5)) (fun x => if x = j then ⟨a5, n5, c5, evI (taAt L j)⟩ else r x)) := Lib.hid (by have q := HPP.out; subst q; exact (HM4.out.ext HLL.out hb5).set HLL.out hj ⟨a5, n5, c5, evI (taAt L j)⟩ (owns_mono ho5 HM4.out.m.z)); clear ho5 hb5)
                      go_roundw
                      case rel => exact ⟨j + 1, _, by omega, hj, by go_num, HX.out, by rw [if_neg (by omega)]; exact HR0.out, fun x h1 h2 => (Nat.lt_or_eq_of_le (Nat.le_of_lt_succ h2)).elim (fun e => by rw [if_neg (by omega)]; exact HR1.out x h1 e) (fun e => by subst e; rw [if_pos rfl]), fun x hx => by rw [if_neg (by omega)]; exact HR2.out x (by omega)⟩
                      case measure => simp [intOf]; omega
                  · obtain rfl : j = m := by omega
                    have hlb : Below w4.heap.size w4 wr := by have := HM4.out.m.lb; rw [HPP.out] at this; exact this
                    have HBr := Lib.hid (Below.then B4.out hlb)
                    have hxb : Blk wr p #[.slice (some ⟨tq, 0, none⟩) j c8, .int .i64 F, .int .i64 S, .slice (some ⟨E, 0, none⟩) j j, .slice (some ⟨Bb, 0, none⟩) j j, .slice none 0 0] := by have := HM4.out.m.bp; rw [HPP.out] at this; exact this
                    have HXB := Lib.hid hxb
                    obtain ⟨s0, s1, sz⟩ := (HW4.out.ext hlb)
                    have hpz := hxb.l
                    have k0 := hxb.c 0
                    simp at k0
                    obtain ⟨K, hK⟩ : ∃ K, (g.set 0 { t0 with first := A, gap := G, jit := 0 }).map TaV.ta = K := ⟨_, rfl⟩
                    obtain ⟨EV, hEV⟩ : ∃ EV, ((List.range j).map fun i => (r i).es) = EV := ⟨_, rfl⟩
                    have hok4 : ∀ t ∈ g.set 0 { t0 with first := A, gap := G, jit := 0 }, t.ok w4 := fun t ht => by
                      rcases List.mem_or_eq_of_mem_set ht with h | h
                      · exact (HG0.out.ext B4.out).ok t h
                      · subst h; exact (HG0.out.ext B4.out).ok t0 (List.mem_of_getElem? HT0.out)
                    have hrr : ReadRun wr ⟨some ⟨tq, 0, none⟩, j, c8, some ⟨E, 0, none⟩, j, j, some ⟨Bb, 0, none⟩, j, j, none, 0, 0⟩ (tcR K F S EV) := by
                      have := HM4.out.run HLL.out (by rw [HPP.out]; show j ≤ 1000; omega) (by rw [HPP.out]; exact hok4)
                      rw [HPP.out] at this
                      rw [← hK, ← hEV]
                      exact this
                    have hgl : g.length = j := HG0.out.length
                    have hall : validL K = true → ∀ i : Nat, i < K.length → allowR (taAt K i).first (taAt K i).gap (taAt K i).jit ((EV[i]?).getD []) = (true, 0) := by
                      rw [← hK, ← hEV]
                      exact fun hv => tc_ok hgl HT0.out HAL.out HR0.out (by rw [HG2.out]; exact HR1.out) hv
                    have hKl : EV.length = K.length := by rw [← hK, ← hEV]; simp [hgl]
                    have HRR := Lib.hid hrr
                    have HRK : Hid (RdL wr (some ⟨tq, 0, none⟩) j K) := Lib.hid hrr.t
                    obtain ⟨ac, hac⟩ : ∃ x, accE K F S = x := ⟨_, rfl⟩
                    have HAC := Lib.hid hac
                    by_cases h0 : ac = 0
                    · subst h0
                      have hmt : meetsR (tcR K F S EV) t = (true, 0) := by
                        unfold accE at hac
                        split at hac
                        · rename_i ho
                          split at hac
                          · rename_i ha
                            unfold okB at ho
                            rw [Bool.and_eq_true] at ho
                            exact tc_meets ho.1 ho.2 ha hKl (hall ho.1) ht2
                          · omega
                        · omega
                      have HMT := Lib.hid hmt
                      clear hlb hxb hok4 hrr hgl hall hKl hac hmt hK hEV hj hjm hj1
                      go_wp2_with (first | (go_at_call 19; (with_reducible refine (Accept_is HRK.out HAC.out).mono ?_); rintro e w7 ⟨rfl, hb7⟩; have B7 := Lib.hid hb7; have HX7 := HXB.out.at_heap (hb7.block p HXB.out.l) hb7.size; have v0 := HX7.c 0; have v1 := HX7.c 1; have v2 := HX7.c 2; have v3 := HX7.c 3; have v4 := HX7.c 4; have v5 := HX7.c 5; have vz := HX7.l; simp at v0 v1 v2 v3 v4 v5; clear hb7 HX7) | (go_at_call 23; (with_reducible refine (Meets_tc (HRR.out.ext B7.out) HMT.out).mono ?_); rintro e w8 ⟨rfl, hb8⟩; have B8 := Lib.hid hb8; clear hb8) | (go_at_call 24; (with_reducible refine (saneA_any _).mono ?_); rintro e w20 ⟨rfl, hb20⟩))
                      go_ret
                      exact ⟨rfl, Below.then (Below.then (Below.then HBr.out B7.out) B8.out) hb20⟩
                    · have h0b : (ac != 0) = true := by simpa using h0
                      clear hlb hxb hok4 hrr hgl hall hKl hac hK hEV hj hjm hj1
                      go_wp2_with (first | (go_at_call 19; (with_reducible refine (Accept_is HRK.out HAC.out).mono ?_); rintro e w7 ⟨rfl, hb7⟩; have B7 := Lib.hid hb7; have HX7 := HXB.out.at_heap (hb7.block p HXB.out.l) hb7.size; have v0 := HX7.c 0; have v1 := HX7.c 1; have v2 := HX7.c 2; have v3 := HX7.c 3; have v4 := HX7.c 4; have v5 := HX7.c 5; have vz := HX7.l; simp at v0 v1 v2 v3 v4 v5; clear hb7 HX7) | (go_at_call 24; (with_reducible refine (saneA_any _).mono ?_); rintro e w20 ⟨rfl, hb20⟩))
                      go_ret
                      exact ⟨rfl, Below.then (Below.then HBr.out B7.out) hb20⟩
      · clear hL hT hN hms her htd hll hn ht
        by_cases hz : z = 0
        · subst hz
          by_cases he : er = 0
          · subst he
            have h0 : m = 0 := by omega
            subst h0
            clear hgo
            go_enter Try.func6, Try.ntmps6
            go_upto_region 4 with (go_at_call 25; (with_reducible refine (Timed_is HTD.out).mono ?_); rintro e w1 ⟨rfl, hb1⟩; have HB0 := Lib.hid (((PBox.new w F S 24).ext (Below.alloc (Below.refl _ _) (Nat.le_refl _) _)).ext hb1); have HB1 := Lib.hid ((Box3.new (w.alloc (.cells #[.int .i64 F, .int .i64 S] 24)) o a d 64).ext hb1); rw [World.size_alloc] at HB1; have B1 : Hid (Below w.heap.size w w1) := Lib.hid (Below.trans (by (repeat' (first | (with_reducible exact Below.refl _ _) | (with_reducible assumption) | (with_reducible refine Below.alloc ?_ ?_ _) | (with_reducible refine Below.drew ?_) | (with_reducible refine Below.draws ?_ _) | (with_reducible refine Below.setCell ?_ ?_ _) | (refine Below.then ?_ (by with_reducible assumption)) | go_size))) (hb1.mono (by simp; omega))); clear hb1; obtain ⟨x0, x1, xz⟩ := HB0.out; obtain ⟨y0, y1, y2, _, _, _, yz⟩ := HB1.out)
            obtain ⟨w3, hw3⟩ : ∃ x, x = w1.alloc (.cells #[.int .i64 A, .int .i64 G, .int .i64 0] 66) := ⟨_, rfl⟩
            have hb13 : Below w1.heap.size w1 w3 := by rw [hw3]; (repeat' (first | (with_reducible exact Below.refl _ _) | (with_reducible assumption) | (with_reducible refine Below.alloc ?_ ?_ _) | (with_reducible refine Below.drew ?_) | (with_reducible refine Below.draws ?_ _) | (with_reducible refine Below.setCell ?_ ?_ _) | (refine Below.then ?_ (by with_reducible assumption)) | go_size))
            have HP : Hid (Box3 w3 w1.heap.size A G 0) := Lib.hid (by rw [hw3]; exact Box3.new _ _ _ _ _)
            have HB0 := Lib.hid (HB0.out.ext hb13); have HB1 := Lib.hid (HB1.out.ext hb13)
            have B3 := Lib.hid (Below.then B1.out hb13)
            rw [← hw3]
            clear hw3 hb13 x0 x1 xz y0 y1 y2 yz
            obtain ⟨x0, x1, xz⟩ := HB0.out; obtain ⟨y0, y1, y2, _, _, _, yz⟩ := HB1.out
            go_wp2_with (first | (go_at_call 26; (with_reducible refine (Timer_is HTL.out HER.out).mono ?_); rintro e w4 ⟨ma, mn, mc, rfl, hm4, hb4⟩; have HM := Lib.hid (ownsI_rd hm4); have HB0 := Lib.hid (HB0.out.ext hb4); have HB1 := Lib.hid (HB1.out.ext hb4); have HP := Lib.hid (HP.out.ext hb4); have B4 := Lib.hid (Below.then B3.out hb4); clear hm4 hb4 x0 x1 xz y0 y1 y2 yz; obtain ⟨x0, x1, xz⟩ := HB0.out; obtain ⟨y0, y1, y2, _, _, _, yz⟩ := HB1.out) | (go_at_call 24; (with_reducible refine (saneA_any _).mono ?_); rintro e w20 ⟨rfl, hb20⟩))
            go_ret
            exact ⟨rfl, Below.then B4.out hb20⟩
          · have heb : (er != 0) = true := by simpa using he
            clear hgo he
            go_enter Try.func6, Try.ntmps6
            go_upto_region 4 with (go_at_call 25; (with_reducible refine (Timed_is HTD.out).mono ?_); rintro e w1 ⟨rfl, hb1⟩; have HB0 := Lib.hid (((PBox.new w F S 24).ext (Below.alloc (Below.refl _ _) (Nat.le_refl _) _)).ext hb1); have HB1 := Lib.hid ((Box3.new (w.alloc (.cells #[.int .i64 F, .int .i64 S] 24)) o a d 64).ext hb1); rw [World.size_alloc] at HB1; have B1 : Hid (Below w.heap.size w w1) := Lib.hid (Below.trans (by (repeat' (first | (with_reducible exact Below.refl _ _) | (with_reducible assumption) | (with_reducible refine Below.alloc ?_ ?_ _) | (with_reducible refine Below.drew ?_) | (with_reducible refine Below.draws ?_ _) | (with_reducible refine Below.setCell ?_ ?_ _) | (refine Below.then ?_ (by with_reducible assumption)) | go_size))) (hb1.mono (by simp; omega))); clear hb1; obtain ⟨x0, x1, xz⟩ := HB0.out; obtain ⟨y0, y1, y2, _, _, _, yz⟩ := HB1.out)
            obtain ⟨w3, hw3⟩ : ∃ x, x = w1.alloc (.cells #[.int .i64 A, .int .i64 G, .int .i64 0] 66) := ⟨_, rfl⟩
            have hb13 : Below w1.heap.size w1 w3 := by rw [hw3]; (repeat' (first | (with_reducible exact Below.refl _ _) | (with_reducible assumption) | (with_reducible refine Below.alloc ?_ ?_ _) | (with_reducible refine Below.drew ?_) | (with_reducible refine Below.draws ?_ _) | (with_reducible refine Below.setCell ?_ ?_ _) | (refine Below.then ?_ (by with_reducible assumption)) | go_size))
            have HP : Hid (Box3 w3 w1.heap.size A G 0) := Lib.hid (by rw [hw3]; exact Box3.new _ _ _ _ _)
            have HB0 := Lib.hid (HB0.out.ext hb13); have HB1 := Lib.hid (HB1.out.ext hb13)
            have B3 := Lib.hid (Below.then B1.out hb13)
            rw [← hw3]
            clear hw3 hb13 x0 x1 xz y0 y1 y2 yz
            obtain ⟨x0, x1, xz⟩ := HB0.out; obtain ⟨y0, y1, y2, _, _, _, yz⟩ := HB1.out
            go_wp2_with (first | (go_at_call 26; (with_reducible refine (Timer_is HTL.out HER.out).mono ?_); rintro e w4 ⟨ma, mn, mc, rfl, hm4, hb4⟩; have HM := Lib.hid (ownsI_rd hm4); have HB0 := Lib.hid (HB0.out.ext hb4); have HB1 := Lib.hid (HB1.out.ext hb4); have HP := Lib.hid (HP.out.ext hb4); have B4 := Lib.hid (Below.then B3.out hb4); clear hm4 hb4 x0 x1 xz y0 y1 y2 yz; obtain ⟨x0, x1, xz⟩ := HB0.out; obtain ⟨y0, y1, y2, _, _, _, yz⟩ := HB1.out) | (go_at_call 24; (with_reducible refine (saneA_any _).mono ?_); rintro e w20 ⟨rfl, hb20⟩))
            go_ret
            exact ⟨rfl, Below.then B4.out hb20⟩
        · have hzb : (z != 0) = true := by simpa using hz
          clear hgo hz
          go_enter Try.func6, Try.ntmps6
          go_upto_region 4 with (go_at_call 25; (with_reducible refine (Timed_is HTD.out).mono ?_); rintro e w1 ⟨rfl, hb1⟩; have HB0 := Lib.hid (((PBox.new w F S 24).ext (Below.alloc (Below.refl _ _) (Nat.le_refl _) _)).ext hb1); have HB1 := Lib.hid ((Box3.new (w.alloc (.cells #[.int .i64 F, .int .i64 S] 24)) o a d 64).ext hb1); rw [World.size_alloc] at HB1; have B1 : Hid (Below w.heap.size w w1) := Lib.hid (Below.trans (by (repeat' (first | (with_reducible exact Below.refl _ _) | (with_reducible assumption) | (with_reducible refine Below.alloc ?_ ?_ _) | (with_reducible refine Below.drew ?_) | (with_reducible refine Below.draws ?_ _) | (with_reducible refine Below.setCell ?_ ?_ _) | (refine Below.then ?_ (by with_reducible assumption)) | go_size))) (hb1.mono (by simp; omega))); clear hb1; obtain ⟨x0, x1, xz⟩ := HB0.out; obtain ⟨y0, y1, y2, _, _, _, yz⟩ := HB1.out)
          obtain ⟨w3, hw3⟩ : ∃ x, x = w1.alloc (.cells #[.int .i64 A, .int .i64 G, .int .i64 0] 66) := ⟨_, rfl⟩
          have hb13 : Below w1.heap.size w1 w3 := by rw [hw3]; (repeat' (first | (with_reducible exact Below.refl _ _) | (with_reducible assumption) | (with_reducible refine Below.alloc ?_ ?_ _) | (with_reducible refine Below.drew ?_) | (with_reducible refine Below.draws ?_ _) | (with_reducible refine Below.setCell ?_ ?_ _) | (refine Below.then ?_ (by with_reducible assumption)) | go_size))
          have HP : Hid (Box3 w3 w1.heap.size A G 0) := Lib.hid (by rw [hw3]; exact Box3.new _ _ _ _ _)
          have HB0 := Lib.hid (HB0.out.ext hb13); have HB1 := Lib.hid (HB1.out.ext hb13)
          have B3 := Lib.hid (Below.then B1.out hb13)
          rw [← hw3]
          clear hw3 hb13 x0 x1 xz y0 y1 y2 yz
          obtain ⟨x0, x1, xz⟩ := HB0.out; obtain ⟨y0, y1, y2, _, _, _, yz⟩ := HB1.out
          go_wp2_with (first | (go_at_call 26; (with_reducible refine (Timer_is HTL.out HER.out).mono ?_); rintro e w4 ⟨ma, mn, mc, rfl, hm4, hb4⟩; have HM := Lib.hid (ownsI_rd hm4); have HB0 := Lib.hid (HB0.out.ext hb4); have HB1 := Lib.hid (HB1.out.ext hb4); have HP := Lib.hid (HP.out.ext hb4); have B4 := Lib.hid (Below.then B3.out hb4); clear hm4 hb4 x0 x1 xz y0 y1 y2 yz; obtain ⟨x0, x1, xz⟩ := HB0.out; obtain ⟨y0, y1, y2, _, _, _, yz⟩ := HB1.out) | (go_at_call 24; (with_reducible refine (saneA_any _).mono ?_); rintro e w20 ⟨rfl, hb20⟩))
          go_ret
          exact ⟨rfl, Below.then B4.out hb20⟩
    · by_cases ht0 : t < 0
      · have dt1 : decide (t < 0) = true := by simpa using ht0
        clear hL hT hN hn ht ht2 ht0
        go_enter Try.func6, Try.ntmps6
        go_wp2_with (go_at_call 24; (with_reducible refine (saneA_any _).mono ?_); rintro e w20 ⟨rfl, hb20⟩)
        go_ret
        exact ⟨rfl, Below.then (by (repeat' (first | (with_reducible exact Below.refl _ _) | (with_reducible assumption) | (with_reducible refine Below.alloc ?_ ?_ _) | (with_reducible refine Below.drew ?_) | (with_reducible refine Below.draws ?_ _) | (with_reducible refine Below.setCell ?_ ?_ _) | (refine Below.then ?_ (by with_reducible assumption)) | go_size))) hb20⟩
      · have dt1 : decide (t < 0) = false := by simpa using ht0
        have dt2 : decide (2000 < t) = true := by simp; omega
        clear hL hT hN hn ht ht2 ht0
        go_enter Try.func6, Try.ntmps6
        go_wp2_with (go_at_call 24; (with_reducible refine (saneA_any _).mono ?_); rintro e w20 ⟨rfl, hb20⟩)
        go_ret
        exact ⟨rfl, Below.then (by (repeat' (first | (with_reducible exact Below.refl _ _) | (with_reducible assumption) | (with_reducible refine Below.alloc ?_ ?_ _) | (with_reducible refine Below.drew ?_) | (with_reducible refine Below.draws ?_ _) | (with_reducible refine Below.setCell ?_ ?_ _) | (refine Below.then ?_ (by with_reducible assumption)) | go_size))) hb20⟩
  · have d10 : decide ((10 : Int) < (m : Int)) = true := by simp; omega
    clear hL hT hN hn ht h10
    go_enter Try.func6, Try.ntmps6
    go_wp2_with (go_at_call 24; (with_reducible refine (saneA_any _).mono ?_); rintro e w20 ⟨rfl, hb20⟩)
    go_ret
    exact ⟨rfl, Below.then (by (repeat' (first | (with_reducible exact Below.refl _ _) | (with_reducible assumption) | (with_reducible refine Below.alloc ?_ ?_ _) | (with_reducible refine Below.drew ?_) | (with_reducible refine Below.draws ?_ _) | (with_reducible refine Below.setCell ?_ ?_ _) | (refine Below.then ?_ (by with_reducible assumption)) | go_size))) hb20⟩
end Go.Proofs.Ytmahagcghpoekaa
