/- Contracts of the machine's small methods. The conditions: the machine reads as named. -/
import Derived.Test.YtlhnhmimhpcoaaaScMem
import Derived.Test.YtlhnhmimhpcoaaaPushM
import Derived.BigRegion
import Derived.Deep.RegionHeld3
import Derived.Deep.Cut
namespace Go.Proofs.Ytlhnhmimhpcoaaa
open Go.RowKit
set_option linter.unusedSimpArgs false
set_option linter.unusedVariables false
theorem Mach.int {M : MPar} {w : World} {s : Ms} (h : Mach M w s) {R : Rn} (hr : RdRun M.w0 M.H R) : RdRun w M.H R := hr.ext h.lb
set_option maxRecDepth 10000 in
set_option maxHeartbeats 1000000 in
theorem write_any {M : MPar} {w : World} {s : Ms} (hl : MLay M) (hM : Mach M w s) (ho : s.o.length ≤ 2000000) (m k wh a b : Int) :
    Calls Try.prog 78 #[.pointer (some ⟨M.p, 0, none⟩), .int .i64 m, .int .i64 k, .int .i64 wh, .int .i64 a, .int .i64 b] w fun e w' => e = .returned (.tuple #[]) ∧ Mach M w' (s.wr ⟨m, k, wh, a, b⟩) := by
  obtain ⟨ea, en, ec, h1, h2⟩ := hM.en
  have hlen : en = s.o.length := by
    have := (Rd.of_owns encE_len (by decide) h2).length; simpa using this.symm
  have H2 := Lib.hid h2; have H1 := Lib.hid h1; have HM := Lib.hid hM
  have e5 := EEn
  have hk := hM.kl
  have hpK := hl.p.2
  have hf := hM.fp 9
  have hen : en ≤ 2000000 := by omega
  clear hM h2 hlen
  go_enter Try.func78, Try.ntmps78
  go_wp2_with (at_builtin; refine wpList_pushM (N := w.heap.size) (v := .slice ea en ec) (by simp) rfl _ _ _ rfl e5 rfl H2.out rfl rfl (by intro u hu; simp at hu; rcases hu with rfl | rfl | rfl | rfl | rfl <;> rfl) (by omega) (by decide) hk ?_; intro a3 c3 w3 hown3 hg3; have hb3 : Below M.K w w3 := ((Below.refl M.K w).alloc hk _).trans (grown_below (H2.out.alloc _) hg3 (by rw [World.size_alloc]; omega)); have q9 := (hb3.cell (p := ⟨M.p, 9, none⟩) hpK).trans h1; have f9 := (hb3.frozen (p := ⟨M.p, 9, none⟩) hpK).trans hf; have HO3 := Lib.hid hown3; have HG3 := Lib.hid hg3; clear hown3 hg3 hb3)
  go_end0
  exact ⟨rfl, HM.out.entry hl H1.out H2.out HO3.out HG3.out⟩
def rdB (s : Ms) (i : Nat) : Bool := !(s.qa i).isEmpty
theorem rdB_iff {s : Ms} {i : Nat} : rdB s i = true ↔ s.qa i ≠ [] := by unfold rdB; simp
theorem rdB_no {s : Ms} {i : Nat} : rdB s i = false ↔ s.qa i = [] := by unfold rdB; simp
theorem ready_is {M : MPar} {w : World} {s : Ms} {i : Nat} {b : Bool} (hM : Mach M w s) (hi : i < M.R.L.length) (h : rdB s i = b) :
    Calls Try.prog 107 #[.pointer (some ⟨M.p, 0, none⟩), .int .i64 i] w fun e w' => e = .returned (.bool b) ∧ w = w' := by
  obtain ⟨g, g1, g2⟩ := hM.qu
  have c7 := hM.c7
  have c := g1 i hi
  have hlen := g2.len hi
  have hb : decide (0 < ((g i).n : Int)) = b := by
    rw [← h, ← hlen]; unfold rdB
    cases s.qa i <;> simp <;> omega
  have hb2 : decide (0 < (g i).n) = b := by rw [← hb]; simp
  clear hM g1 g2 hlen h
  unfold sl at c
  go_enter Try.func107, Try.ntmps107
  go_wp2
  go_ret
  exact ⟨rfl, rfl⟩
theorem event_any {M : MPar} {w : World} {s : Ms} {i : Nat} (hM : Mach M w s) (hi : i < M.R.L.length) (h : s.qa i ≠ []) :
    Calls Try.prog 111 #[.pointer (some ⟨M.p, 0, none⟩), .int .i64 i] w fun e w' => e = .returned (.int .i64 (s.hd i)) ∧ w = w' := by
  obtain ⟨g, g1, g2⟩ := hM.qu
  have c7 := hM.c7
  have c := g1 i hi
  have hlen := g2.len hi
  have hn : 0 < (g i).n := by
    rw [← hlen]
    exact List.length_pos_iff.2 h
  have hg := g2.own i hi
  unfold sl at hg c
  obtain ⟨x, b, off, e, hb, hc, hx⟩ := (ownsI_rd hg).idx 0 hn
  have hhd : s.hd i = x := by
    unfold Ms.hd
    rw [List.headD_eq_head?_getD, List.head?_eq_getElem?, hx]; rfl
  rw [hhd]
  rw [e] at c
  rw [Nat.add_zero] at hc
  have hn' : (0 : Int) < ((g i).n : Int) := by omega
  clear hM g1 g2 hlen hg hx hhd h e
  go_enter Try.func111, Try.ntmps111
  go_wp2
  go_ret
  exact ⟨rfl, rfl⟩
/-- the cells of a job, of its task -/
theorem Mach.jcells {M : MPar} {w : World} {s : Ms} (h : Mach M w s) {i : Nat} (hi : i < M.R.L.length) :
    w.cell? ⟨M.J, i * 4, none⟩ = some (.int .i64 ((s.ja i).p : Int)) ∧ w.cell? ⟨M.J, i * 4 + 1, none⟩ = some (.int .i64 ((s.ja i).t : Int)) ∧ w.cell? ⟨M.J, i * 4 + 2, none⟩ = some (.int .i64 ((s.ja i).d : Int)) ∧ w.cell? ⟨M.J, i * 4 + 3, none⟩ = some (.bool (s.ja i).s) :=
  ⟨h.jb i hi 0 (by decide), h.jb i hi 1 (by decide), h.jb i hi 2 (by decide), h.jb i hi 3 (by decide)⟩
theorem RdL.pcell {w : World} {a : Option Addr} {n : Nat} {L : List Ta} (h : RdL w a n L) {i p : Nat} (hi : i < L.length) (hp : p < (taAt L i).pcs.length) :
    ∃ (b off pb po pn pc : Nat), a = some ⟨b, off, none⟩ ∧ b < w.heap.size ∧ pb < w.heap.size ∧ p < pn ∧ pn = (taAt L i).pcs.length ∧ w.cell? ⟨b, off + i * 6 + 5, none⟩ = some (.slice (some ⟨pb, po, none⟩) pn pc) ∧
      w.cell? ⟨pb, po + p * 2, none⟩ = some (.int .i64 (tkA L i p)) ∧ w.cell? ⟨pb, po + p * 2 + 1, none⟩ = some (.int .i64 (lkA L i p)) := by
  obtain ⟨t, b, off, pa, pn, pc, rfl, hb, _, _, _, _, _, c5, hp2, _, hg, _⟩ := h.at_ i (by rw [← h.length]; exact hi)
  have e := taAt_of hg
  rw [e] at hp
  have hpn : pn = t.pcs.length := hp2.length.symm
  obtain ⟨v, b1, off1, rfl, hb1, e1, e2, hpg, _⟩ := hp2.piece p (by omega)
  refine ⟨b, off, b1, off1, pn, pc, rfl, hb, hb1, by omega, by rw [e]; exact hpn, c5, ?_, ?_⟩
  · rw [e1]; unfold tkA pcA; rw [e, hpg]; rfl
  · rw [e2]; unfold lkA pcA; rw [e, hpg]; rfl
set_option maxRecDepth 10000 in
set_option maxHeartbeats 1000000 in
theorem locked_is {M : MPar} {w : World} {s : Ms} {i : Nat} {B : Bool} (hM : Mach M w s) (hR : RdRun M.w0 M.H M.R) (hO : MOk M.R s) (hi : i < M.R.L.length) (h : insB M.R.L s i = B) :
    Calls Try.prog 108 #[.pointer (some ⟨M.p, 0, none⟩), .int .i64 i] w fun e w' => e = .returned (.bool B) ∧ Below w.heap.size w w' := by
  obtain ⟨b, off, pb, po, pn, pc, e1, hb, hpb, hpn, hpl, k5, k0, k1⟩ := (hM.int hR).t.pcell hi (hO.pc i hi)
  have htn := (hM.int hR).t.length
  obtain ⟨j0, j1, j2, j3⟩ := hM.jcells hi
  have c0 := hM.c0
  have c8 := hM.c8
  rw [e1] at c0
  have hpz := World.block_lt_of_cell? w _ c0
  simp only [] at hpz
  have hiN : i < M.H.tN := by omega
  have hB : (decide (0 < (s.ja i).t) && decide (0 ≤ lkA M.R.L i (s.ja i).p)) = B := h
  obtain ⟨jp, hjp⟩ : ∃ x, (s.ja i).p = x := ⟨_, rfl⟩
  obtain ⟨jt, hjt⟩ : ∃ x, (s.ja i).t = x := ⟨_, rfl⟩
  obtain ⟨jd, hjd⟩ : ∃ x, (s.ja i).d = x := ⟨_, rfl⟩
  obtain ⟨js, hjs⟩ : ∃ x, (s.ja i).s = x := ⟨_, rfl⟩
  rw [hjp] at j0 k1 hpn hB
  rw [hjt] at j1 hB
  rw [hjd] at j2
  rw [hjs] at j3
  obtain ⟨lk, hlk⟩ : ∃ x, lkA M.R.L i jp = x := ⟨_, rfl⟩
  rw [hlk] at k1 hB
  obtain ⟨nL, hnL⟩ : ∃ x, M.R.L.length = x := ⟨_, rfl⟩
  rw [hnL] at c8 hi
  clear hM hR hO htn h hjp hjt hjd hjs hlk hnL k0 hpl
  by_cases q1 : 0 < jt
  · have q1' : decide (0 < (jt : Int)) = true := by simpa using q1
    have q1'' : decide (0 < jt) = true := by simpa using q1
    have q2 : decide (0 ≤ lk) = B := by rw [q1''] at hB; simpa using hB
    clear hB
    go_enter Try.func108, Try.ntmps108
    go_wp2_with (refine wp_region_later_lit (by kernel_rfl) (by kernel_rfl) ?_; (repeat (go_big_quiet_step (fail))); refine wpQuiet_nil ?_; intro w1 hb1)
    go_ret
    exact ⟨rfl, Below.then (by (repeat' (first | (with_reducible exact Below.refl _ _) | (with_reducible assumption) | (with_reducible refine Below.alloc ?_ ?_ _) | (with_reducible refine Below.drew ?_) | (with_reducible refine Below.draws ?_ _) | (with_reducible refine Below.setCell ?_ ?_ _) | (refine Below.then ?_ (by with_reducible assumption)) | go_size))) hb1⟩
  · have q1' : decide (0 < (jt : Int)) = false := by simpa using q1
    have q1'' : decide (0 < jt) = false := by simpa using q1
    obtain rfl : B = false := by rw [q1''] at hB; simpa using hB.symm
    clear hB
    go_enter Try.func108, Try.ntmps108
    go_wp2_with (refine wp_region_later_lit (by kernel_rfl) (by kernel_rfl) ?_; (repeat (go_big_quiet_step (fail))); refine wpQuiet_nil ?_; intro w1 hb1)
    go_ret
    exact ⟨rfl, Below.then (by (repeat' (first | (with_reducible exact Below.refl _ _) | (with_reducible assumption) | (with_reducible refine Below.alloc ?_ ?_ _) | (with_reducible refine Below.drew ?_) | (with_reducible refine Below.draws ?_ _) | (with_reducible refine Below.setCell ?_ ?_ _) | (refine Below.then ?_ (by with_reducible assumption)) | go_size))) hb1⟩
end Go.Proofs.Ytlhnhmimhpcoaaa
