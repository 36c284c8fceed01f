/- The contract of play. The conditions: the run reads as named. -/
import Derived.Test.YtlhnhmimhpcoaaaScW4
import Derived.Test.YtlhnhmimhpcoaaaScW5
import Derived.Test.YtlhnhmimhpcoaaaScBnd
import Derived.Deep.OwnRows
namespace Go.Proofs.Ytlhnhmimhpcoaaa
open Go.RowKit
set_option linter.unusedSimpArgs false
set_option linter.unusedVariables false
/-- a block known whole -/
structure Blk (w : World) (b : Nat) (cs : Array Value) : Prop where
  c : ∀ i, w.cell? ⟨b, i, none⟩ = cs[i]?
  f : ∀ i, w.frozen? ⟨b, i, none⟩ = false
  l : b < w.heap.size
theorem Blk.at (w : World) (cs : Array Value) (t : TypeId) (b : Nat) (h : b = w.heap.size) : Blk (w.alloc (.cells cs t)) b cs := by
  subst h
  exact ⟨fun i => World.cell?_alloc_new w cs t i, fun i => World.frozen?_alloc_new w cs t i, by simp⟩
theorem Blk.old {w : World} {b : Nat} {cs : Array Value} (h : Blk w b cs) (o : Obj) : Blk (w.alloc o) b cs :=
  ⟨fun i => (World.cell?_alloc_past o b i h.l).trans (h.c i), fun i => (World.frozen?_alloc_past o b i h.l).trans (h.f i), by have := h.l; simp; omega⟩
theorem Blk.drew {w : World} {b : Nat} {cs : Array Value} (h : Blk w b cs) : Blk w.drew b cs := ⟨h.c, h.f, h.l⟩
theorem made_one (v : Value) (n i : Nat) (h : i < n) : (madeCells #[v] n)[i]? = some v := by simp [madeCells, h, Nat.mod_one]
theorem made_four (a b c d : Value) (n i j : Nat) (h : i < n) (hj : j < 4) : (madeCells #[a, b, c, d] (n * 4))[i * 4 + j]? = [a, b, c, d][j]? := by
  have h1 : i * 4 + j < n * 4 := by omega
  have h2 : (i * 4 + j) % 4 = j := by omega
  simp only [madeCells, Array.getElem?_map, Array.getElem?_range, h1, if_true, Option.map_some]
  have h3 : (#[a, b, c, d] : Array Value).size = 4 := rfl
  rw [h3, h2]
  match j, hj with
  | 0, _ => rfl
  | 1, _ => rfl
  | 2, _ => rfl
  | 3, _ => rfl
theorem mach0 {M : MPar} {w : World} (hK : M.K ≤ w.heap.size) (hO : M.O = List.replicate M.R.L.length 0) (hb : Below M.w0.heap.size M.w0 w)
    (hp : Blk w M.p #[.slice M.H.tA M.H.tN M.H.tC, .int .i64 M.R.fr, .int .i64 M.R.sl, .slice M.H.eA M.H.eN M.H.eC, .slice M.H.bA M.H.bN M.H.bC, .slice M.H.sA M.H.sN M.H.sC, .slice (some ⟨M.rb, 0, none⟩) M.R.L.length M.R.L.length, .slice (some ⟨M.W, 0, none⟩) M.R.L.length M.R.L.length, .slice (some ⟨M.J, 0, none⟩) M.R.L.length M.R.L.length, .slice none 0 0])
    (hW : Blk w M.W (madeCells #[.slice none 0 0] M.R.L.length)) (hJ : Blk w M.J (madeCells #[.int .i64 0, .int .i64 0, .int .i64 0, .bool false] (M.R.L.length * 4))) (hr : Blk w M.rb (madeCells #[.int .i64 0] M.R.L.length)) : Mach M w (ms0 M.R.L.length) := by
  have hja : ∀ i, (ms0 M.R.L.length).ja i = Jb.zero := fun i => by unfold Ms.ja ms0; simp only [List.getElem?_replicate]; split <;> rfl
  have hqa : ∀ i, (ms0 M.R.L.length).qa i = [] := fun i => by unfold Ms.qa ms0; simp only [List.getElem?_replicate]; split <;> rfl
  refine ⟨hp.c 0, hp.c 1, hp.c 2, hp.c 3, hp.c 4, hp.c 5, hp.c 6, hp.c 7, hp.c 8, hp.f, ⟨none, 0, 0, hp.c 9, World.ownsRow_nil _ _ _ _⟩, fun i hi => ⟨0, ?_, ?_⟩, hr.f, ⟨fun _ => ⟨none, 0, 0⟩, fun i hi => ?_, ⟨fun i hi => ?_, fun i j _ _ _ => .inl rfl⟩⟩, hW.f, fun i hi j hj => ?_, hJ.f, hK, by simp [ms0], by simp [ms0], hb⟩
  · rw [hO, List.getElem?_replicate, if_pos hi]
  · rw [hr.c, made_one _ _ _ hi]
  · rw [hW.c, made_one _ _ _ hi]
  · rw [hqa]; exact World.ownsRow_nil _ _ _ _
  · rw [hJ.c, made_four _ _ _ _ _ _ _ hi hj, hja]; rfl
/-- a rank has been laid -/
theorem Mach.rank {M : MPar} {w : World} {s : Ms} (h : Mach M w s) (hl : MLay M) {k : Nat} (hk : k < M.R.L.length) (hO : M.O.length = M.R.L.length) (x : Int) : Mach { M with O := M.O.set k x } (w.setCell ⟨M.rb, k, none⟩ (.int .i64 x)) s := by
  have hkl := h.kl
  obtain ⟨n1, n2, n3, n4, n5, n6⟩ := hl.ne
  have co : ∀ b j, b ≠ M.rb → (w.setCell ⟨M.rb, k, none⟩ (.int .i64 x)).cell? ⟨b, j, none⟩ = w.cell? ⟨b, j, none⟩ := fun b j hb => World.cell?_setCell_other _ _ _ _ (addr_neS (.inl (fun q => hb q.symm)))
  have cp := fun j => co M.p j n3
  refine ⟨(cp 0).trans h.c0, (cp 1).trans h.c1, (cp 2).trans h.c2, (cp 3).trans h.c3, (cp 4).trans h.c4, (cp 5).trans h.c5, (cp 6).trans h.c6, (cp 7).trans h.c7, (cp 8).trans h.c8,
    fun j => by rw [World.frozen?_setCell]; exact h.fp j, ?_, fun i hi => ?_, fun j => by rw [World.frozen?_setCell]; exact h.fr j, ?_, fun j => by rw [World.frozen?_setCell]; exact h.fw j, fun i hi j hj4 => (co M.J _ n6).trans (h.jb i hi j hj4), fun j => by rw [World.frozen?_setCell]; exact h.fj j,
    by simpa using hkl, h.ql, h.jl, h.lb.setCell (p := ⟨M.rb, k, none⟩) hl.r.1 _⟩
  · obtain ⟨a, m, c, g1, g2⟩ := h.en
    exact ⟨a, m, c, (cp 9).trans g1, owns_far g2 hl.r.2 _⟩
  · obtain ⟨y, g1, g2⟩ := h.rk i hi
    by_cases e : i = k
    · subst e
      exact ⟨x, by show (M.O.set i x)[i]? = _; rw [List.getElem?_set, if_pos rfl, if_pos (by rw [hO]; exact hi)], World.cell?_setCell_same _ _ _ g2⟩
    · exact ⟨y, by show (M.O.set k x)[i]? = _; rw [List.getElem?_set, if_neg (fun q => e q.symm)]; exact g1, (World.cell?_setCell_other _ _ _ _ (addr_neS (.inr (fun q => e q.symm)))).trans g2⟩
  · obtain ⟨g, g1, g2⟩ := h.qu
    exact ⟨g, fun i hi => (co M.W i n5).trans (g1 i hi), g2.far hl.r.2 _⟩
theorem make_jobs (n : Nat) (hn : n ≤ 1000) (w : World) : (Instr.makeSlice 113 (.int .i64 (n : Int)) (.int .i64 (n : Int))).run Try.prog w = .ok (.slice (some ⟨w.heap.size, 0, none⟩) n n) (w.alloc (.cells (madeCells #[.int .i64 0, .int .i64 0, .int .i64 0, .bool false] (n * 4)) 138)) := by
  obtain ⟨i, h1, h2, h3, h4⟩ := info_parts (show (Try.prog.info? 138).map (fun i => (i.zero, i.size, i.bytes)) = some (some (.agg #[.int .i64 0, .int .i64 0, .int .i64 0, .bool false]), 4, 32) by kernel_rfl)
  have := run_make (P := Try.prog) w 113 138 i _ Try.underlying113 h1 h2 .i64 .i64 (n : Int) (n : Int) (by omega) (by omega) (by rw [h4]; omega) (by omega)
  rw [this, h3]
  simp [Value.cells]
theorem schRanks_is {a : Option Addr} {n c : Nat} {L : List Ta} {xs : List Int} {y : Int} {w : World} (hL : RdL w a n L) (h : ranksR L = (xs, y)) : Calls Try.prog 70 #[.slice a n c] w (OutTE w.heap.size w xs y) := by
  have := Ranks_any a n c L w hL
  rw [h] at this; exact this
theorem ranks_ok {L : List Ta} (h : Right L) : ranksR L = (rankL L, 0) := by unfold ranksR; rw [right_B h]; rfl
theorem MLay.rank {M : MPar} (h : MLay M) (O : List Int) : MLay { M with O := O } := ⟨h.p, h.W, h.J, h.r, h.ne⟩
set_option maxRecDepth 100000 in
set_option maxHeartbeats 8000000 in
theorem play_any (H : RunH) (R : Rn) (ticks : Nat) (w : World) (hR : RdRun w H R) (hr : RnOk R) (ht : ticks ≤ 2000) :
    Calls Try.prog 46 #[.agg #[.slice H.tA H.tN H.tC, .int .i64 R.fr, .int .i64 R.sl, .slice H.eA H.eN H.eC, .slice H.bA H.bN H.bC, .slice H.sA H.sN H.sC], .int .i64 (ticks : Int)] w fun e w' => ∃ a n c, e = .returned (.slice a n c) ∧ w'.ownsRow w.heap.size 43 5 (.slice a n c) n ((plM R ticks).o.flatMap encE) ∧ Below w.heap.size w w' := by
  have htn := hR.t.length
  have hL5 := hr.r.len
  have HR := Lib.hid hR; have HRN := Lib.hid hr
  obtain ⟨nL, hnL⟩ : ∃ x, R.L.length = x := ⟨_, rfl⟩
  have HNL := Lib.hid hnL
  have htn' : H.tN = nL := by omega
  have hn5 : nL ≤ 5 := by omega
  obtain ⟨fr, hfr⟩ : ∃ x, R.fr = x := ⟨_, rfl⟩
  obtain ⟨sl_, hsl⟩ : ∃ x, R.sl = x := ⟨_, rfl⟩
  rw [htn', hfr, hsl]
  have HFR := Lib.hid hfr; have HSL := Lib.hid hsl; have HTN := Lib.hid htn'
  clear hR hr htn hnL htn' hfr hsl
  go_enter Try.func46, Try.ntmps46
  go_upto_region 2 with fail
  obtain ⟨w1, hw1⟩ : ∃ x, x = w.alloc (.cells #[.slice H.tA nL H.tC, .int .i64 fr, .int .i64 sl_, .slice H.eA H.eN H.eC, .slice H.bA H.bN H.bC, .slice H.sA H.sN H.sC] 29) := ⟨_, rfl⟩
  have hB1 : Blk w1 w.heap.size #[.slice H.tA nL H.tC, .int .i64 fr, .int .i64 sl_, .slice H.eA H.eN H.eC, .slice H.bA H.bN H.bC, .slice H.sA H.sN H.sC] := by rw [hw1]; exact Blk.at _ _ _ _ rfl
  have hb1 : Below w.heap.size w w1 := by rw [hw1]; (repeat' (first | (with_reducible exact Below.refl _ _) | (with_reducible assumption) | (with_reducible refine Below.alloc ?_ ?_ _) | (with_reducible refine Below.drew ?_) | (with_reducible refine Below.draws ?_ _) | (with_reducible refine Below.setCell ?_ ?_ _) | (refine Below.then ?_ (by with_reducible assumption)) | go_size))
  rw [← hw1]
  have r0 := hB1.c 0; have r1 := hB1.c 1; have r2 := hB1.c 2; have r3 := hB1.c 3; have r4 := hB1.c 4; have r5 := hB1.c 5
  simp at r0 r1 r2 r3 r4 r5
  have hmk1 := run_make_row' (P := Try.prog) 26 3 (.int .i64 0) 8 Try.underlying26 (by kernel_rfl) rfl .i64 .i64 nL (by omega) (by omega)
  have hmk2 := run_make_row' (P := Try.prog) 56 26 (.slice none 0 0) 24 Try.underlying56 (by kernel_rfl) rfl .i64 .i64 nL (by omega) (by omega)
  have hmk3 := make_jobs nL (by omega)
  have hq0 := hB1.l
  have hq01 : w.heap.size < w1.heap.size + 1 := by omega
  have hq02 : w.heap.size < w1.heap.size + 1 + 1 := by omega
  have hq03 : w.heap.size < w1.heap.size + 2 := by omega
  have hq04 : w.heap.size < w1.heap.size + 1 + 1 + 1 := by omega
  have hq05 : w.heap.size < w1.heap.size + 3 := by omega
  clear hw1
  go_cut [6] (fun v wx => ∃ p W J rb : Nat, v = .pointer (some ⟨p, 0, none⟩) ∧ Blk wx p #[.slice H.tA nL H.tC, .int .i64 fr, .int .i64 sl_, .slice H.eA H.eN H.eC, .slice H.bA H.bN H.bC, .slice H.sA H.sN H.sC, .slice (some ⟨rb, 0, none⟩) nL nL, .slice (some ⟨W, 0, none⟩) nL nL, .slice (some ⟨J, 0, none⟩) nL nL, .slice none 0 0] ∧
    Blk wx W (madeCells #[.slice none 0 0] nL) ∧ Blk wx J (madeCells #[.int .i64 0, .int .i64 0, .int .i64 0, .bool false] (nL * 4)) ∧ Blk wx rb (madeCells #[.int .i64 0] nL) ∧ w1.heap.size ≤ p ∧ w1.heap.size ≤ W ∧ w1.heap.size ≤ J ∧ w1.heap.size ≤ rb ∧ (p ≠ W ∧ p ≠ J ∧ p ≠ rb ∧ W ≠ J ∧ W ≠ rb ∧ J ≠ rb) ∧ Below w1.heap.size w1 wx)
  case first =>
    go_region
    all_goals
      go_wp2_with fail
      go_meet
      first
        | exact ⟨_, w1.heap.size, w1.heap.size + 1, w1.heap.size + 1 + 1, rfl, (Blk.at _ _ _ _ (by simp)).drew, ((((Blk.at _ _ _ _ rfl).old _).old _).old _).drew, (((Blk.at _ _ _ _ (by simp)).old _).old _).drew, ((Blk.at _ _ _ _ (by simp)).old _).drew, by omega, by omega, by omega, by omega, by omega, by (repeat' (first | (with_reducible exact Below.refl _ _) | (with_reducible assumption) | (with_reducible refine Below.alloc ?_ ?_ _) | (with_reducible refine Below.drew ?_) | (with_reducible refine Below.draws ?_ _) | (with_reducible refine Below.setCell ?_ ?_ _) | (refine Below.then ?_ (by with_reducible assumption)) | go_size))⟩
        | exact ⟨_, w1.heap.size, w1.heap.size + 1 + 1, w1.heap.size + 1, rfl, (Blk.at _ _ _ _ (by simp)).drew, ((((Blk.at _ _ _ _ rfl).old _).old _).old _).drew, ((Blk.at _ _ _ _ (by simp)).old _).drew, (((Blk.at _ _ _ _ (by simp)).old _).old _).drew, by omega, by omega, by omega, by omega, by omega, by (repeat' (first | (with_reducible exact Below.refl _ _) | (with_reducible assumption) | (with_reducible refine Below.alloc ?_ ?_ _) | (with_reducible refine Below.drew ?_) | (with_reducible refine Below.draws ?_ _) | (with_reducible refine Below.setCell ?_ ?_ _) | (refine Below.then ?_ (by with_reducible assumption)) | go_size))⟩
        | exact ⟨_, w1.heap.size + 1, w1.heap.size, w1.heap.size + 1 + 1, rfl, (Blk.at _ _ _ _ (by simp)).drew, (((Blk.at _ _ _ _ (by simp)).old _).old _).drew, ((((Blk.at _ _ _ _ rfl).old _).old _).old _).drew, ((Blk.at _ _ _ _ (by simp)).old _).drew, by omega, by omega, by omega, by omega, by omega, by (repeat' (first | (with_reducible exact Below.refl _ _) | (with_reducible assumption) | (with_reducible refine Below.alloc ?_ ?_ _) | (with_reducible refine Below.drew ?_) | (with_reducible refine Below.draws ?_ _) | (with_reducible refine Below.setCell ?_ ?_ _) | (refine Below.then ?_ (by with_reducible assumption)) | go_size))⟩
        | exact ⟨_, w1.heap.size + 1, w1.heap.size + 1 + 1, w1.heap.size, rfl, (Blk.at _ _ _ _ (by simp)).drew, (((Blk.at _ _ _ _ (by simp)).old _).old _).drew, ((Blk.at _ _ _ _ (by simp)).old _).drew, ((((Blk.at _ _ _ _ rfl).old _).old _).old _).drew, by omega, by omega, by omega, by omega, by omega, by (repeat' (first | (with_reducible exact Below.refl _ _) | (with_reducible assumption) | (with_reducible refine Below.alloc ?_ ?_ _) | (with_reducible refine Below.drew ?_) | (with_reducible refine Below.draws ?_ _) | (with_reducible refine Below.setCell ?_ ?_ _) | (refine Below.then ?_ (by with_reducible assumption)) | go_size))⟩
        | exact ⟨_, w1.heap.size + 1 + 1, w1.heap.size, w1.heap.size + 1, rfl, (Blk.at _ _ _ _ (by simp)).drew, ((Blk.at _ _ _ _ (by simp)).old _).drew, ((((Blk.at _ _ _ _ rfl).old _).old _).old _).drew, (((Blk.at _ _ _ _ (by simp)).old _).old _).drew, by omega, by omega, by omega, by omega, by omega, by (repeat' (first | (with_reducible exact Below.refl _ _) | (with_reducible assumption) | (with_reducible refine Below.alloc ?_ ?_ _) | (with_reducible refine Below.drew ?_) | (with_reducible refine Below.draws ?_ _) | (with_reducible refine Below.setCell ?_ ?_ _) | (refine Below.then ?_ (by with_reducible assumption)) | go_size))⟩
        | exact ⟨_, w1.heap.size + 1 + 1, w1.heap.size + 1, w1.heap.size, rfl, (Blk.at _ _ _ _ (by simp)).drew, ((Blk.at _ _ _ _ (by simp)).old _).drew, (((Blk.at _ _ _ _ (by simp)).old _).old _).drew, ((((Blk.at _ _ _ _ rfl).old _).old _).old _).drew, by omega, by omega, by omega, by omega, by omega, by (repeat' (first | (with_reducible exact Below.refl _ _) | (with_reducible assumption) | (with_reducible refine Below.alloc ?_ ?_ _) | (with_reducible refine Below.drew ?_) | (with_reducible refine Below.draws ?_ _) | (with_reducible refine Below.setCell ?_ ?_ _) | (refine Below.then ?_ (by with_reducible assumption)) | go_size))⟩
  case rest =>
    obtain ⟨p, W, J, rb, rfl, kp, kW, kJ, kr, h1, h2, h3, h4, h5, hb2⟩ := hcut
    obtain ⟨rk, hrk⟩ : ∃ x, rankL R.L = x := ⟨_, rfl⟩
    have HRK : Hid (ranksR R.L = (rk, 0)) := Lib.hid (by rw [← hrk]; exact ranks_ok HRN.out.r)
    have hrl : rk.length = nL := by rw [← hrk, rank_len, HNL.out]
    have hrm : ∀ k ∈ rk, 0 ≤ k ∧ k < nL := fun k hk => by rw [← hrk] at hk; have := rank_mem.1 hk; rw [HNL.out] at this; exact this
    have hos : ofSet 0 (List.replicate nL 0) (rk.drop 0) = ofL R.L := by rw [← hrk, List.drop_zero, ← ofSet_eq, HNL.out]
    clear hq01 hq02 hq03 hq04 hq05
    have hq1 : w.heap.size < wc.heap.size := Nat.lt_of_lt_of_le hq0 hb2.size
    obtain ⟨MO, hMO⟩ : ∃ f : List Int → MPar, f = fun O => (⟨w1, H, R, wc.heap.size, p, W, J, rb, O⟩ : MPar) := ⟨_, rfl⟩
    have hlay : ∀ O, MLay (MO O) := fun O => by rw [hMO]; exact ⟨⟨h1, kp.l⟩, ⟨h2, kW.l⟩, ⟨h3, kJ.l⟩, ⟨h4, kr.l⟩, h5⟩
    have hm0 : Mach (MO (List.replicate nL 0)) wc (plM R 0) := by
      rw [hMO]
      refine mach0 (M := ⟨w1, H, R, wc.heap.size, p, W, J, rb, List.replicate nL 0⟩) (Nat.le_refl _) (by show List.replicate nL 0 = List.replicate R.L.length 0; rw [HNL.out]) hb2 ?_ ?_ ?_ ?_
      · show Blk wc p #[.slice H.tA H.tN H.tC, .int .i64 R.fr, .int .i64 R.sl, .slice H.eA H.eN H.eC, .slice H.bA H.bN H.bC, .slice H.sA H.sN H.sC, .slice (some ⟨rb, 0, none⟩) R.L.length R.L.length, .slice (some ⟨W, 0, none⟩) R.L.length R.L.length, .slice (some ⟨J, 0, none⟩) R.L.length R.L.length, .slice none 0 0]
        rw [HTN.out, HFR.out, HSL.out, HNL.out]; exact kp
      · show Blk wc W (madeCells #[.slice none 0 0] R.L.length)
        rw [HNL.out]; exact kW
      · show Blk wc J (madeCells #[.int .i64 0, .int .i64 0, .int .i64 0, .bool false] (R.L.length * 4))
        rw [HNL.out]; exact kJ
      · show Blk wc rb (madeCells #[.int .i64 0] R.L.length)
        rw [HNL.out]; exact kr
    have HM0 := Lib.hid hm0; have HLAY := Lib.hid hlay; have HMO := Lib.hid hMO; have HRM := Lib.hid hrm; have HOS := Lib.hid hos; have HB1 := Lib.hid hb1; have HRL := Lib.hid hrl
    have HR1 := Lib.hid (HR.out.ext hb1)
    have HTR : Hid (RdL wc H.tA nL R.L) := Lib.hid (by have := (HR.out.t.ext hb1).ext hb2; rw [HTN.out] at this; exact this)
    have s0 := (hb2.cell (p := ⟨w.heap.size, 0, none⟩) hq0).trans r0
    clear hrk hrl hrm hos hMO hlay hm0 kp kW kJ kr h1 h2 h3 h4 h5 hb1 hmk1 hmk2 hmk3 hB1 r0 r3 r4 r5
    go_wp2_with (go_at_call 70; (with_reducible refine (schRanks_is HTR.out HRK.out).mono ?_); rintro e w3 ⟨a3, n3, c3, rfl, hown3, hb3⟩; have HO3 := Lib.hid hown3; have HB3 := Lib.hid hb3; clear hown3 hb3)
    have hn3 : n3 = nL := by rw [← (ownsI_rd HO3.out).length]; exact HRL.out
    subst hn3
    have HM3 := Lib.hid (HM0.out.ext (HLAY.out _) HB3.out)
    go_loopw [33] (fun i wr => ∃ (k : Nat) (O : List Int), k ≤ n3 ∧ i = .int .i64 k ∧ Mach (MO O) wr (plM R 0) ∧ O.length = n3 ∧ ofSet k O (rk.drop k) = ofL R.L ∧ wr.ownsRow wc.heap.size 3 1 (.slice a3 n3 c3) n3 (rk.flatMap enc1)) (fun i _ => n3 - (intOf i).toNat)
    case atStart => exact ⟨0, _, Nat.zero_le _, rfl, HM3.out, by simp, HOS.out, HO3.out⟩
    case round =>
      clear HM3 HO3 HOS HM0
      obtain ⟨k, O, hk, rfl, hM, hOl, hos, hO3⟩ := hrel
      have HMX := Lib.hid hM; have HO3 := Lib.hid hO3
      by_cases hkn : k < n3
      · obtain ⟨x, b3, o3, rfl, hb3, hc3, hx⟩ := (ownsI_rd hO3).idx k hkn
        have hxm := HRM.out x (List.mem_of_getElem? hx)
        obtain ⟨j, rfl⟩ := Int.eq_ofNat_of_zero_le hxm.1
        have hjn : j < n3 := by omega
        have hrd : rk.drop k = (j : Int) :: rk.drop (k + 1) := by obtain ⟨g1, g2⟩ := List.getElem?_eq_some_iff.1 hx; rw [List.drop_eq_getElem_cons g1, g2]
        rw [hrd] at hos
        have hos' := ofSet_step hos
        rw [Int.toNat_natCast] at hos'
        have HOS' := Lib.hid hos'
        have c6 := hM.c6
        rw [HMO.out] at c6
        simp only [] at c6
        rw [HNL.out] at c6
        obtain ⟨y, hy1, hy2⟩ := hM.rk j (by rw [HMO.out]; simp only []; rw [HNL.out]; exact hjn)
        rw [HMO.out] at hy2
        simp only [] at hy2
        have fr6 : wr.frozen? ⟨rb, j, none⟩ = false := by have := hM.fr j; rw [HMO.out] at this; exact this
        have HOL := Lib.hid hOl
        clear hM hO3 hos hos' hrd hx hy1 hxm
        go_wp2
        go_roundw
        case rel =>
          refine ⟨k + 1, O.set j (k : Int), hkn, by go_num, ?_, by simp [HOL.out], HOS'.out, ?_⟩
          · have h9 := HMX.out.rank (HLAY.out O) (k := j) (by rw [HMO.out]; simp only []; rw [HNL.out]; exact hjn) (by rw [HMO.out]; simp only []; rw [HOL.out, HNL.out]) (k : Int)
            rw [HMO.out] at h9 ⊢
            exact h9
          · have hrbK : rb < wc.heap.size := by have := (HLAY.out O).r.2; rw [HMO.out] at this; exact this
            exact owns_far HO3.out hrbK _
        case measure => simp [intOf]; omega
      · have hOf : O = ofL R.L := by
          rw [List.drop_of_length_le (by rw [HRL.out]; omega)] at hos
          exact hos
        obtain ⟨M, hMM⟩ : ∃ M, MO O = M := ⟨_, rfl⟩
        rw [hMM] at HMX
        have hl : MLay M := by rw [← hMM]; exact HLAY.out O
        have hMR : M.R = R := by rw [← hMM, HMO.out]
        have hMH : M.H = H := by rw [← hMM, HMO.out]
        have hMw : M.w0 = w1 := by rw [← hMM, HMO.out]
        have hMp : M.p = p := by rw [← hMM, HMO.out]
        have hMO2 : M.O = ofL M.R.L := by rw [hMR, ← hOf, ← hMM, HMO.out]
        have hRM : RdRun M.w0 M.H M.R := by rw [hMw, hMH, hMR]; exact HR1.out
        have hrM : RnOk M.R := by rw [hMR]; exact HRN.out
        have HL := Lib.hid hl; have HMR := Lib.hid hMR; have HMW := Lib.hid hMw; have HMP := Lib.hid hMp.symm; have HMOF := Lib.hid hMO2; have HRM2 := Lib.hid hRM; have HRNM := Lib.hid hrM
        have hKw : M.K = wc.heap.size := by rw [← hMM, HMO.out]
        have HKW := Lib.hid hKw
        clear hM hO3 hos hOf hMM hl hMR hMH hMw hMp hMO2 hRM hrM hKw
        obtain ⟨PP, hPP⟩ : ∃ x, x = p := ⟨_, rfl⟩
        obtain rfl : p = M.p := HMP.out
        clear hPP
        go_wp2
        go_loopw [47] (fun i wx => ∃ k : Nat, k ≤ ticks ∧ i = .int .i64 k ∧ Mach M wx (plM R k)) (fun i _ => ticks - (intOf i).toNat)
        case atStart => exact ⟨0, Nat.zero_le _, rfl, HMX.out⟩
        case round =>
          clear HMX
          obtain ⟨k, hk, rfl, hM⟩ := hrel
          have HM := Lib.hid hM
          have hmok : MOk M.R (plM R k) := by rw [HMR.out]; exact plM_ok HRN.out k
          by_cases hkt : k < ticks
          · obtain ⟨SA, hSA⟩ : ∃ x, arrA R (k : Int) (plM R k) = x := ⟨_, rfl⟩
            have hko := plM_o HRN.out k
            have HARR : Hid (Calls Try.prog 77 #[.pointer (some ⟨M.p, 0, none⟩), .int .i64 (k : Int)] wr fun e w' => e = .returned (.tuple #[]) ∧ Mach M w' SA) := Lib.hid (by
              have := arrivals_any (t := k) hM HL.out HRM2.out HRNM.out hmok HMOF.out (fun x => by rw [HMR.out]; exact Nat.le_trans (rel_small HRN.out k x) (by omega)) (by omega) (by omega)
              rw [HMR.out, hSA] at this
              exact this)
            have hokA : MOk M.R SA := by rw [← hSA, HMR.out]; exact (plM_ok HRN.out k).arrA HRN.out _
            have hoA : SA.o.length ≤ 1000000 := by rw [← hSA]; have := arrA_o HRN.out (k : Int) (plM R k); omega
            have hqA : ∀ x, (SA.qa x).length ≤ 100 := fun x => by rw [← hSA]; exact Nat.le_trans (arr_small HRN.out k x) (by omega)
            have hdA : ∀ x, (SA.ja x).d ≤ 10000 := fun x => by rw [← hSA]; exact Nat.le_trans (arr_d HRN.out k x) (by omega)
            have hnx : plM R (k + 1) = tckB R (k : Int) SA := by rw [plM, tckA, hSA]
            have hf1 := HRN.out.f
            rw [HFR.out] at hf1
            obtain ⟨f, hf⟩ := Int.eq_ofNat_of_zero_le (show 0 ≤ fr by omega)
            obtain ⟨r, hr2⟩ : ∃ r, k % f = r := ⟨_, rfl⟩
            have hmod : (k : Int) % (f : Int) = (r : Int) := by rw [← hr2]; simp
            have hf0 : (0 : Int) < (f : Int) := by omega
            have hcond : tckB R (k : Int) SA = if (r : Int) < sl_ then SA.wr ⟨k, -1, 3, 0, 0⟩ else if 0 ≤ chM R.L SA then wkA R k (chM R.L SA).toNat SA else SA := by
              unfold tckB; rw [HFR.out, HSL.out, hf, hmod]
            have HOKA := Lib.hid hokA; have HOA := Lib.hid hoA; have HQA := Lib.hid hqA; have HDA := Lib.hid hdA
            have HNX := Lib.hid (hnx.trans hcond)
            have r1' : w1.cell? ⟨w.heap.size, 1, none⟩ = some (.int .i64 (f : Int)) := by rw [r1, hf]
            have HC1 : Hid (∀ wx, Below M.w0.heap.size M.w0 wx → wx.cell? ⟨w.heap.size, 1, none⟩ = some (.int .i64 (f : Int)) ∧ wx.cell? ⟨w.heap.size, 2, none⟩ = some (.int .i64 sl_)) := Lib.hid (fun wx h => by
              rw [HMW.out] at h
              exact ⟨(h.cell (p := ⟨w.heap.size, 1, none⟩) hq0).trans r1', (h.cell (p := ⟨w.heap.size, 2, none⟩) hq0).trans r2⟩)
            clear hM hmok hko hokA hoA hqA hdA hnx hf1 hf hr2 hcond hSA r1'
            by_cases hcol : (r : Int) < sl_
            · have hcol' : decide ((r : Int) < sl_) = true := by simpa using hcol
              have HNX2 : Hid (plM R (k + 1) = SA.wr ⟨k, -1, 3, 0, 0⟩) := Lib.hid (by rw [HNX.out, if_pos hcol])
              go_wp2_with (go_at_call 77; (with_reducible refine HARR.out.mono ?_); rintro e w4 ⟨rfl, hM4⟩; obtain ⟨d1, d2⟩ := HC1.out w4 hM4.lb; have HM4 := Lib.hid hM4; clear hM4)
              go_region
              all_goals
                have HM5 := Lib.hid (HM4.out.ext HL.out (Below.refl w4.heap.size w4).drew)
                go_wp2_with (go_at_call 78; (with_reducible refine (write_any HL.out HM5.out (by have := HOA.out; omega) _ _ _ _ _).mono ?_); rintro e w5 ⟨rfl, hM6⟩; have HM6 := Lib.hid hM6; clear hM6)
                go_roundw
                case rel => exact ⟨k + 1, hkt, by go_num, by rw [HNX2.out]; exact HM6.out⟩
                case measure => simp [intOf]; omega
            · have hcol' : decide ((r : Int) < sl_) = false := by simpa using hcol
              obtain ⟨c, hc⟩ : ∃ c, chM R.L SA = c := ⟨_, rfl⟩
              have HNX2 : Hid (plM R (k + 1) = if 0 ≤ c then wkA R k c.toNat SA else SA) := Lib.hid (by rw [HNX.out, if_neg hcol, hc])
              obtain ⟨g1, g2, g3, g4⟩ := chM_spec R.L SA
              rw [hc] at g1 g2 g3 g4
              have HCH : Hid (∀ wx, Mach M wx SA → Calls Try.prog 79 #[.pointer (some ⟨M.p, 0, none⟩)] wx fun e w' => e = .returned (.int .i64 c) ∧ Below wx.heap.size wx w') := Lib.hid (fun wx h => by
                have := choice_any h HL.out HRM2.out HRNM.out HOKA.out HMOF.out
                rw [HMR.out, hc] at this
                exact this)
              have G4 := Lib.hid g4
              clear g3 g4 hc
              by_cases hc0 : 0 ≤ c
              · obtain ⟨cn, rfl⟩ := Int.eq_ofNat_of_zero_le hc0
                rw [if_pos hc0, Int.toNat_natCast] at HNX2
                have hcL : cn < M.R.L.length := by rw [HMR.out]; omega
                have hne := G4.out hc0
                rw [Int.toNat_natCast] at hne
                have HNE := Lib.hid hne
                have hc0' : decide ((0 : Int) ≤ (cn : Int)) = true := by simp
                clear hne g1 g2
                go_wp2_with (go_at_call 77; (with_reducible refine HARR.out.mono ?_); rintro e w4 ⟨rfl, hM4⟩; obtain ⟨d1, d2⟩ := HC1.out w4 hM4.lb; have HM4 := Lib.hid hM4; clear hM4)
                go_region
                all_goals
                  have HM5 := Lib.hid (HM4.out.ext HL.out (Below.refl w4.heap.size w4).drew)
                  go_wp2_with (first
                    | (go_at_call 79; (with_reducible refine (HCH.out _ HM5.out).mono ?_); rintro e w5 ⟨rfl, hb5⟩; have HM6 := Lib.hid (HM5.out.ext HL.out hb5); clear hb5)
                    | (go_at_call 80; (with_reducible refine (work_any HM6.out HL.out HRM2.out HRNM.out HOKA.out hcL HNE.out (HQA.out cn) HOA.out (by omega) (HDA.out cn)).mono ?_); rintro e w6 ⟨rfl, hM7⟩; have HM7 := Lib.hid hM7; clear hM7))
                  go_roundw
                  case rel => exact ⟨k + 1, hkt, by go_num, by have := HM7.out; rw [HMR.out] at this; rw [HNX2.out]; exact this⟩
                  case measure => simp [intOf]; omega
              · rw [if_neg hc0] at HNX2
                have hcm : c = -1 := by omega
                subst hcm
                clear g1 g2 hc0
                go_wp2_with (go_at_call 77; (with_reducible refine HARR.out.mono ?_); rintro e w4 ⟨rfl, hM4⟩; obtain ⟨d1, d2⟩ := HC1.out w4 hM4.lb; have HM4 := Lib.hid hM4; clear hM4)
                go_region
                all_goals
                  have HM5 := Lib.hid (HM4.out.ext HL.out (Below.refl w4.heap.size w4).drew)
                  go_wp2_with (go_at_call 79; (with_reducible refine (HCH.out _ HM5.out).mono ?_); rintro e w5 ⟨rfl, hb5⟩; have HM6 := Lib.hid (HM5.out.ext HL.out hb5); clear hb5)
                  go_roundw
                  case rel => exact ⟨k + 1, hkt, by go_num, by rw [HNX2.out]; exact HM6.out⟩
                  case measure => simp [intOf]; omega
          · have hke : k = ticks := by omega
            obtain ⟨a9, m9, c9', g9, g10⟩ := hM.en
            have hlb : Below w.heap.size w wr := HB1.out.trans ((show Below w1.heap.size w1 wr by rw [← HMW.out]; exact hM.lb).mono HB1.out.size)
            have G10 : Hid (wr.ownsRow w.heap.size 43 5 (.slice a9 m9 c9') m9 ((plM R ticks).o.flatMap encE)) := Lib.hid (by rw [← hke]; exact owns_mono g10 (by rw [HKW.out]; exact Nat.le_of_lt hq1))
            have HLB := Lib.hid hlb
            clear hM g10 hke hlb hmok
            go_wp2
            go_ret
            exact ⟨_, _, _, rfl, G10.out, HLB.out⟩
end Go.Proofs.Ytlhnhmimhpcoaaa
