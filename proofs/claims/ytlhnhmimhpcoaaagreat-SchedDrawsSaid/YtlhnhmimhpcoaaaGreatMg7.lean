/- Contracts of the machine's small methods. The conditions: the machine reads as named. slices.Clone at ints; the rest of a row of ints. The conditions: the row reads as named. The contract of the machine's end. The conditions: the machine reads as named. The contracts of place, ahead, choice. The conditions: the machine reads as named. The contract of the machine's work. The conditions: the machine reads as named. -/
import Derived.Test.YtlhnhmimhpcoaaaGreatMg4
import Derived.Test.YtlhnhmimhpcoaaaGreatMg6
import Derived.BigRegion
import Derived.Deep.RegionHeld3
import Derived.Deep.Cut
import Derived.Test.YtlhnhmimhpcoaaaGreatMg3
import Derived.Test.YtlhnhmimhpcoaaaGreatMg1
import Derived.Lib.SliceRun
import Derived.Laws.OwnMore
import Derived.Deep.RegionWith
import Derived.Deep.DeepCutAuto
import Derived.IntWalk
namespace Go.Proofs.YtlhnhmimhpcoaaaGreat
open Go.RowKit
set_option linter.unusedSimpArgs false
set_option linter.unusedVariables false
theorem Mach.int {M : MPar} {w : World} {s : Ms} (h : Mach M w s) {R : Rn} (hr : RdRun M.w0 M.H R) : RdRun w M.H R := hr.ext h.lb
set_option maxRecDepth 10000 in
set_option maxHeartbeats 1000000 in
theorem write_any {M : MPar} {w : World} {s : Ms} (hl : MLay M) (hM : Mach M w s) (ho : s.o.length ≤ 2000000) (m k wh a b : Int) :
    Calls Tryz.prog 42 #[.pointer (some ⟨M.p, 0, none⟩), .int .i64 m, .int .i64 k, .int .i64 wh, .int .i64 a, .int .i64 b] w fun e w' => e = .returned (.tuple #[]) ∧ Mach M w' (s.wr ⟨m, k, wh, a, b⟩) := by
  obtain ⟨ea, en, ec, h1, h2⟩ := hM.en
  have hlen : en = s.o.length := by
    have := (Rd.of_owns encE_len (by decide) h2).length; simpa using this.symm
  have H2 := Lib.hid h2; have H1 := Lib.hid h1; have HM := Lib.hid hM
  have e5 := EEn
  have hk := hM.kl
  have hpK := hl.p.2
  have hf := hM.fp 9
  have hen : en ≤ 2000000 := by omega
  clear hM h2 hlen
  go_enter Tryz.func42, Tryz.ntmps42
  go_wp2_with (at_builtin; refine wpList_pushM (N := w.heap.size) (v := .slice ea en ec) (by simp) rfl _ _ _ rfl e5 rfl H2.out rfl rfl (by intro u hu; simp at hu; rcases hu with rfl | rfl | rfl | rfl | rfl <;> rfl) (by omega) (by decide) hk ?_; intro a3 c3 w3 hown3 hg3; have hb3 : Below M.K w w3 := ((Below.refl M.K w).alloc hk _).trans (grown_below (H2.out.alloc _) hg3 (by rw [World.size_alloc]; omega)); have q9 := (hb3.cell (p := ⟨M.p, 9, none⟩) hpK).trans h1; have f9 := (hb3.frozen (p := ⟨M.p, 9, none⟩) hpK).trans hf; have HO3 := Lib.hid hown3; have HG3 := Lib.hid hg3; clear hown3 hg3 hb3)
  go_end0
  exact ⟨rfl, HM.out.entry hl H1.out H2.out HO3.out HG3.out⟩
def rdB (s : Ms) (i : Nat) : Bool := !(s.qa i).isEmpty
theorem rdB_iff {s : Ms} {i : Nat} : rdB s i = true ↔ s.qa i ≠ [] := by unfold rdB; simp
theorem rdB_no {s : Ms} {i : Nat} : rdB s i = false ↔ s.qa i = [] := by unfold rdB; simp
theorem ready_is {M : MPar} {w : World} {s : Ms} {i : Nat} {b : Bool} (hM : Mach M w s) (hi : i < M.R.L.length) (h : rdB s i = b) :
    Calls Tryz.prog 79 #[.pointer (some ⟨M.p, 0, none⟩), .int .i64 i] w fun e w' => e = .returned (.bool b) ∧ w = w' := by
  obtain ⟨g, g1, g2⟩ := hM.qu
  have c7 := hM.c7
  have c := g1 i hi
  have hlen := g2.len hi
  have hb : decide (0 < ((g i).n : Int)) = b := by
    rw [← h, ← hlen]; unfold rdB
    cases s.qa i <;> simp <;> omega
  have hb2 : decide (0 < (g i).n) = b := by rw [← hb]; simp
  clear hM g1 g2 hlen h
  unfold sl at c
  go_enter Tryz.func79, Tryz.ntmps79
  go_wp2
  go_ret
  exact ⟨rfl, rfl⟩
theorem event_any {M : MPar} {w : World} {s : Ms} {i : Nat} (hM : Mach M w s) (hi : i < M.R.L.length) (h : s.qa i ≠ []) :
    Calls Tryz.prog 83 #[.pointer (some ⟨M.p, 0, none⟩), .int .i64 i] w fun e w' => e = .returned (.int .i64 (s.hd i)) ∧ w = w' := by
  obtain ⟨g, g1, g2⟩ := hM.qu
  have c7 := hM.c7
  have c := g1 i hi
  have hlen := g2.len hi
  have hn : 0 < (g i).n := by
    rw [← hlen]
    exact List.length_pos_iff.2 h
  have hg := g2.own i hi
  unfold sl at hg c
  obtain ⟨x, b, off, e, hb, hc, hx⟩ := (ownsI_rd hg).idx 0 hn
  have hhd : s.hd i = x := by
    unfold Ms.hd
    rw [List.headD_eq_head?_getD, List.head?_eq_getElem?, hx]; rfl
  rw [hhd]
  rw [e] at c
  rw [Nat.add_zero] at hc
  have hn' : (0 : Int) < ((g i).n : Int) := by omega
  clear hM g1 g2 hlen hg hx hhd h e
  go_enter Tryz.func83, Tryz.ntmps83
  go_wp2
  go_ret
  exact ⟨rfl, rfl⟩
/-- the cells of a job, of its task -/
theorem Mach.jcells {M : MPar} {w : World} {s : Ms} (h : Mach M w s) {i : Nat} (hi : i < M.R.L.length) :
    w.cell? ⟨M.J, i * 4, none⟩ = some (.int .i64 ((s.ja i).p : Int)) ∧ w.cell? ⟨M.J, i * 4 + 1, none⟩ = some (.int .i64 ((s.ja i).t : Int)) ∧ w.cell? ⟨M.J, i * 4 + 2, none⟩ = some (.int .i64 ((s.ja i).d : Int)) ∧ w.cell? ⟨M.J, i * 4 + 3, none⟩ = some (.bool (s.ja i).s) :=
  ⟨h.jb i hi 0 (by decide), h.jb i hi 1 (by decide), h.jb i hi 2 (by decide), h.jb i hi 3 (by decide)⟩
theorem RdL.pcell {w : World} {a : Option Addr} {n : Nat} {L : List Ta} (h : RdL w a n L) {i p : Nat} (hi : i < L.length) (hp : p < (taAt L i).pcs.length) :
    ∃ (b off pb po pn pc : Nat), a = some ⟨b, off, none⟩ ∧ b < w.heap.size ∧ pb < w.heap.size ∧ p < pn ∧ pn = (taAt L i).pcs.length ∧ w.cell? ⟨b, off + i * 6 + 5, none⟩ = some (.slice (some ⟨pb, po, none⟩) pn pc) ∧
      w.cell? ⟨pb, po + p * 2, none⟩ = some (.int .i64 (tkA L i p)) ∧ w.cell? ⟨pb, po + p * 2 + 1, none⟩ = some (.int .i64 (lkA L i p)) := by
  obtain ⟨t, b, off, pa, pn, pc, rfl, hb, _, _, _, _, _, c5, hp2, _, hg, _⟩ := h.at_ i (by rw [← h.length]; exact hi)
  have e := taAt_of hg
  rw [e] at hp
  have hpn : pn = t.pcs.length := hp2.length.symm
  obtain ⟨v, b1, off1, rfl, hb1, e1, e2, hpg, _⟩ := hp2.piece p (by omega)
  refine ⟨b, off, b1, off1, pn, pc, rfl, hb, hb1, by omega, by rw [e]; exact hpn, c5, ?_, ?_⟩
  · rw [e1]; unfold tkA pcA; rw [e, hpg]; rfl
  · rw [e2]; unfold lkA pcA; rw [e, hpg]; rfl
set_option maxRecDepth 10000 in
set_option maxHeartbeats 1000000 in
theorem locked_is {M : MPar} {w : World} {s : Ms} {i : Nat} {B : Bool} (hM : Mach M w s) (hR : RdRun M.w0 M.H M.R) (hO : MOk M.R s) (hi : i < M.R.L.length) (h : insB M.R.L s i = B) :
    Calls Tryz.prog 80 #[.pointer (some ⟨M.p, 0, none⟩), .int .i64 i] w fun e w' => e = .returned (.bool B) ∧ Below w.heap.size w w' := by
  obtain ⟨b, off, pb, po, pn, pc, e1, hb, hpb, hpn, hpl, k5, k0, k1⟩ := (hM.int hR).t.pcell hi (hO.pc i hi)
  have htn := (hM.int hR).t.length
  obtain ⟨j0, j1, j2, j3⟩ := hM.jcells hi
  have c0 := hM.c0
  have c8 := hM.c8
  rw [e1] at c0
  have hpz := World.block_lt_of_cell? w _ c0
  simp only [] at hpz
  have hiN : i < M.H.tN := by omega
  have hB : (decide (0 < (s.ja i).t) && decide (0 ≤ lkA M.R.L i (s.ja i).p)) = B := h
  obtain ⟨jp, hjp⟩ : ∃ x, (s.ja i).p = x := ⟨_, rfl⟩
  obtain ⟨jt, hjt⟩ : ∃ x, (s.ja i).t = x := ⟨_, rfl⟩
  obtain ⟨jd, hjd⟩ : ∃ x, (s.ja i).d = x := ⟨_, rfl⟩
  obtain ⟨js, hjs⟩ : ∃ x, (s.ja i).s = x := ⟨_, rfl⟩
  rw [hjp] at j0 k1 hpn hB
  rw [hjt] at j1 hB
  rw [hjd] at j2
  rw [hjs] at j3
  obtain ⟨lk, hlk⟩ : ∃ x, lkA M.R.L i jp = x := ⟨_, rfl⟩
  rw [hlk] at k1 hB
  obtain ⟨nL, hnL⟩ : ∃ x, M.R.L.length = x := ⟨_, rfl⟩
  rw [hnL] at c8 hi
  clear hM hR hO htn h hjp hjt hjd hjs hlk hnL k0 hpl
  by_cases q1 : 0 < jt
  · have q1' : decide (0 < (jt : Int)) = true := by simpa using q1
    have q1'' : decide (0 < jt) = true := by simpa using q1
    have q2 : decide (0 ≤ lk) = B := by rw [q1''] at hB; simpa using hB
    clear hB
    go_enter Tryz.func80, Tryz.ntmps80
    go_wp2_with (refine wp_region_later_lit (by kernel_rfl) (by kernel_rfl) ?_; (repeat (go_big_quiet_step (fail))); refine wpQuiet_nil ?_; intro w1 hb1)
    go_ret
    exact ⟨rfl, Below.then (by (repeat' (first | (with_reducible exact Below.refl _ _) | (with_reducible assumption) | (with_reducible refine Below.alloc ?_ ?_ _) | (with_reducible refine Below.drew ?_) | (with_reducible refine Below.draws ?_ _) | (with_reducible refine Below.setCell ?_ ?_ _) | (refine Below.then ?_ (by with_reducible assumption)) | go_size))) hb1⟩
  · have q1' : decide (0 < (jt : Int)) = false := by simpa using q1
    have q1'' : decide (0 < jt) = false := by simpa using q1
    obtain rfl : B = false := by rw [q1''] at hB; simpa using hB.symm
    clear hB
    go_enter Tryz.func80, Tryz.ntmps80
    go_wp2_with (refine wp_region_later_lit (by kernel_rfl) (by kernel_rfl) ?_; (repeat (go_big_quiet_step (fail))); refine wpQuiet_nil ?_; intro w1 hb1)
    go_ret
    exact ⟨rfl, Below.then (by (repeat' (first | (with_reducible exact Below.refl _ _) | (with_reducible assumption) | (with_reducible refine Below.alloc ?_ ?_ _) | (with_reducible refine Below.drew ?_) | (with_reducible refine Below.draws ?_ _) | (with_reducible refine Below.setCell ?_ ?_ _) | (refine Below.then ?_ (by with_reducible assumption)) | go_size))) hb1⟩
end Go.Proofs.YtlhnhmimhpcoaaaGreat
namespace Go.Proofs.YtlhnhmimhpcoaaaGreat
open Go.RowKit
set_option linter.unusedSimpArgs false
set_option linter.unusedVariables false
theorem cloneI_any (a : Option Addr) (n c : Nat) (xs : List Int) (w : World) (hn : n ≤ 1000) (hR : Rd w a n 1 (xs.map enc1)) (h0 : n = 0 → (a = none ∧ c = 0) ∨ ∃ ad, a = some ad) :
    Calls Tryz.prog 115 #[.slice a n c] w (OutN w.heap.size n 3 1 w (xs.flatMap enc1)) := by
  have hl := hR.length
  rcases a with _ | ad
  · obtain rfl : n = 0 := by
      rcases Nat.eq_zero_or_pos n with q | q
      · exact q
      · obtain ⟨b, off, q2, _⟩ := hR.at_ q; simp at q2
    rcases h0 rfl with ⟨_, rfl⟩ | ⟨ad, q⟩
    · obtain rfl : xs = [] := List.length_eq_zero_iff.1 hl
      have heq := Lib.run_eql_slice_nil (P := Tryz.prog) w 26 3 none 0 0 0 0 Tryz.underlying26
      go_enter Tryz.func115, Tryz.ntmps115
      go_wp2
      go_ret
      exact ⟨_, _, rfl, World.ownsRow_nil _ _ _ _, Below.refl _ _⟩
    · simp at q
  · have HR := Lib.hid hR
    have e1 := E1
    have HOW : Hid ((w.alloc (.cells #[] 3)).ownsRow w.heap.size 3 1 (.slice (some ⟨w.heap.size, 0, none⟩) 0 0) 0 []) := Lib.hid (World.ownsRow_lit w #[] 0 (Nat.le_refl _) (by decide) rfl)
    have heq := Lib.run_eql_slice_nil (P := Tryz.prog) w 26 3 (some ad) n c 0 0 Tryz.underlying26
    clear hR hl h0
    go_enter Tryz.func115, Tryz.ntmps115
    go_wp2_with (at_builtin; refine wpList_pushAll (B := w.heap.size) (n := 0) (xs := []) rfl _ _ _ rfl e1 enc1_len enc1_one rfl HOW.out rfl (HR.out.ext (by (repeat' (first | (with_reducible exact Below.refl _ _) | (with_reducible assumption) | (with_reducible refine Below.alloc ?_ ?_ _) | (with_reducible refine Below.drew ?_) | (with_reducible refine Below.draws ?_ _) | (with_reducible refine Below.setCell ?_ ?_ _) | (refine Below.then ?_ (by with_reducible assumption)) | go_size)))) (fun _ => .inr ⟨_, rfl⟩) (by omega) (by decide) (by simp) ?_; intro v2 w2 hown2 hv2 hb2)
    rw [Nat.zero_add, List.nil_append] at hown2
    obtain ⟨a', c', rfl⟩ := hv2
    rw [Nat.zero_add] at hown2 ⊢
    go_ret
    exact ⟨_, _, rfl, hown2, Below.trans (by (repeat' (first | (with_reducible exact Below.refl _ _) | (with_reducible assumption) | (with_reducible refine Below.alloc ?_ ?_ _) | (with_reducible refine Below.drew ?_) | (with_reducible refine Below.draws ?_ _) | (with_reducible refine Below.setCell ?_ ?_ _) | (refine Below.then ?_ (by with_reducible assumption)) | go_size))) hb2⟩
theorem Rd.dropK {w : World} {b off n k t : Nat} {α : Type} {f : α → List Value} {xs : List α} (h : Rd w (some ⟨b, off, none⟩) n k (xs.map f)) (ht : t ≤ n) : Rd w (some ⟨b, off + t * k, none⟩) (n - t) k ((xs.drop t).map f) := by
  have hl := h.length
  refine ⟨by simp; omega, Nat.le_trans (Nat.sub_le _ _) h.small, fun h0 => ?_⟩
  obtain ⟨b', off', e, hb, hc⟩ := h.at_ (by omega)
  simp at e
  obtain ⟨rfl, rfl⟩ := e
  refine ⟨b, off + t * k, rfl, hb, fun i hi j hj => ?_⟩
  have hi' : i < xs.length - t := by simpa using hi
  have := hc (t + i) (by simp; omega) j hj
  rw [show off + t * k + i * k + j = off + (t + i) * k + j by rw [Nat.add_mul]; omega, this]
  simp
/-- l[1:] -/
theorem slice_one {w : World} {b off n c : Nat} {xs : List Int} (h : Rd w (some ⟨b, off, none⟩) n 1 (xs.map enc1)) (hq : 1 ≤ n) (hnc : n ≤ c) :
    ∃ o m k, (∀ w', (Instr.slice 26 (.slice (some ⟨b, off, none⟩) n c) (some (.int .i64 1)) none none).run Tryz.prog w' = .ok (.slice (some ⟨b, o, none⟩) m k) w') ∧ Rd w (some ⟨b, o, none⟩) m 1 (xs.tail.map enc1) ∧ m + 1 = n := by
  have hl := h.length
  rw [← List.drop_one]
  by_cases hc : c = 1
  · refine ⟨off, n - 1, c - 1, fun w' => ?_, ?_, by omega⟩
    · rw [run_slice_l (P := Tryz.prog) w' 26 (some ⟨b, off, none⟩) n c (by kernel_rfl) .i64 1 (by omega) (by omega)]
      rw [show (Go.sizeOf (Tryz.prog.elem 26)).run Tryz.prog w' = .ok 1 w' by kernel_rfl]
      simp [Result.andThen, sliced, hc]
    · have : xs.drop 1 = [] := List.drop_of_length_le (by omega)
      rw [this, show n - 1 = 0 by omega]
      exact Rd.nil _ _ _
  · refine ⟨off + 1 * 1, n - 1, c - 1, fun w' => ?_, h.dropK hq, by omega⟩
    rw [run_slice_l (P := Tryz.prog) w' 26 (some ⟨b, off, none⟩) n c (by kernel_rfl) .i64 1 (by omega) (by omega)]
    rw [show (Go.sizeOf (Tryz.prog.elem 26)).run Tryz.prog w' = .ok 1 w' by kernel_rfl]
    simp [Result.andThen, sliced, Addr.add, hc]
theorem owns_cap {w : World} {B e k n c : Nat} {a : Option Addr} {xs : List Value} (h : w.ownsRow B e k (.slice a n c) n xs) : n ≤ c := by
  rcases h.2 with ⟨hv, h8⟩ | ⟨g, cap, cur, hv, _, _, h5, _⟩
  · omega
  · simp at hv; omega
/-- one row is laid anew in a new block -/
theorem IRows.fresh {B N : Nat} {w w' : World} {h X} (hR : IRows B w N h X) {i : Nat} (hi : i < N) (hb : Below w.heap.size w w') (hB : B ≤ w.heap.size) {d : Hdr} {q : List Int} (hown : w'.ownsRow w.heap.size 3 1 (sl d) d.n (q.flatMap enc1)) :
    IRows B w' N (updF h i d) (updF X i q) := by
  have hd : ∀ x, (sl d).ownBlock = some x → w.heap.size ≤ x := fun x hx => (hown.lt x hx).1
  have hlt : ∀ k, k < N → ∀ x, (sl (h k)).ownBlock = some x → x < w.heap.size := fun k hk x hx => ((hR.own k hk).lt x hx).2
  refine ⟨fun k hk => ?_, fun k j hk hj hkj => ?_⟩
  · by_cases e : k = i
    · subst e; rw [updF_same, updF_same]; exact owns_mono hown hB
    · rw [updF_other _ _ e, updF_other _ _ e]; exact owns_ext (hR.own k hk) hb
  · by_cases e : k = i
    · subst e
      rw [updF_same, updF_other _ _ (Ne.symm hkj)]
      cases ho : (sl d).ownBlock with
      | none => exact .inl rfl
      | some x =>
        right
        intro e2
        have h1 := hd x ho
        have h2 := hlt j hj x e2.symm
        omega
    · by_cases e2 : j = i
      · subst e2
        rw [updF_same, updF_other _ _ e]
        cases ho : (sl (h k)).ownBlock with
        | none => exact .inl rfl
        | some x =>
          right
          intro e3
          have h1 := hd x e3.symm
          have h2 := hlt k hk x ho
          omega
      · rw [updF_other _ _ e, updF_other _ _ e2]; exact hR.apart k j hk hj hkj
end Go.Proofs.YtlhnhmimhpcoaaaGreat
namespace Go.Proofs.YtlhnhmimhpcoaaaGreat
open Go.RowKit
set_option linter.unusedSimpArgs false
set_option linter.unusedVariables false
theorem encJ_p (j : Jb) (x : Nat) : encJ { j with p := x } = (encJ j).set 0 (.int .i64 x) := rfl
theorem encJ_t (j : Jb) (x : Nat) : encJ { j with t := x } = (encJ j).set 1 (.int .i64 x) := rfl
theorem encJ_d (j : Jb) (x : Nat) : encJ { j with d := x } = (encJ j).set 2 (.int .i64 x) := rfl
theorem encJ_s (j : Jb) (x : Bool) : encJ { j with s := x } = (encJ j).set 3 (.bool x) := rfl
theorem Mach.zero {M : MPar} {w : World} {s : Ms} (h : Mach M w s) (hl : MLay M) {i : Nat} (hi : i < M.R.L.length) :
    Mach M ((((w.setCell ⟨M.J, i * 4, none⟩ (.int .i64 0)).setCell ⟨M.J, i * 4 + 1, none⟩ (.int .i64 0)).setCell ⟨M.J, i * 4 + 2, none⟩ (.int .i64 0)).setCell ⟨M.J, i * 4 + 3, none⟩ (.bool false)) { s with j := s.j.set i Jb.zero } := by
  have hjl : i < s.j.length := by rw [h.jl]; exact hi
  have h0 := h.job hl hi (j := 0) (by decide) (encJ_p (s.ja i) 0)
  have h1 := h0.job hl hi (j := 1) (by decide) (encJ_t _ 0)
  have h2 := h1.job hl hi (j := 2) (by decide) (encJ_d _ 0)
  have h3 := h2.job hl hi (j := 3) (by decide) (encJ_s _ false)
  have e : ∀ (q : List (List Int)) (o : List En) (x : Jb), Ms.ja ⟨q, s.j.set i x, o⟩ i = x := fun q o x => by rw [ja_set hjl, if_pos rfl]
  simp only [List.set_set, e] at h3
  exact h3
set_option maxRecDepth 10000 in
set_option maxHeartbeats 2000000 in
theorem end_any {M : MPar} {w : World} {s : Ms} {i : Nat} (hl : MLay M) (hM : Mach M w s) (hi : i < M.R.L.length) (hq : s.qa i ≠ []) (hql : (s.qa i).length ≤ 100) (ho : s.o.length ≤ 2000000) (m how : Int) :
    Calls Tryz.prog 81 #[.pointer (some ⟨M.p, 0, none⟩), .int .i64 m, .int .i64 i, .int .i64 how] w fun e w' => e = .returned (.tuple #[]) ∧ Mach M w' (fin1 m i how s) := by
  have HM := Lib.hid hM; have HQ := Lib.hid hq
  clear hM hq
  go_enter Tryz.func81, Tryz.ntmps81
  go_wp2_with (first
    | (go_at_call 83; (with_reducible refine (event_any HM.out hi HQ.out).mono ?_); rintro e w1 ⟨rfl, rfl⟩)
    | (go_at_call 42; (with_reducible refine (write_any hl HM.out ho _ _ _ _ _).mono ?_); rintro e w2 ⟨rfl, hM2⟩; have HM2 := Lib.hid hM2; clear hM2))
  obtain ⟨s2, hs2⟩ : ∃ x, x = s.wr ⟨m, i, 5, s.hd i, how⟩ := ⟨_, rfl⟩
  rw [← hs2] at HM2
  have hqa : s2.qa i = s.qa i := by rw [hs2]; rfl
  obtain ⟨g, g1, g2⟩ := HM2.out.qu
  have c7 := HM2.out.c7
  have c := g1 i hi
  have hlen := g2.len hi
  have hown := g2.own i hi
  rw [hqa] at hlen hown
  have hn : 0 < (g i).n := by rw [← hlen]; exact List.length_pos_iff.2 HQ.out
  have hn100 : (g i).n ≤ 100 := by omega
  unfold sl at hown c
  obtain ⟨x, b, off, e, hb, _, _⟩ := (ownsI_rd hown).idx 0 hn
  have hRd := ownsI_rd hown
  have hcap := owns_cap hown
  rw [e] at c hRd
  obtain ⟨o1, m1, k1, hs1, hd1, hm1⟩ := slice_one (c := (g i).c) hRd hn hcap
  have hm100 : m1 ≤ 100 := by omega
  have HD := Lib.hid hd1
  have HD2 := Lib.hid (hd1.ext (Below.refl w2.heap.size w2).drew)
  have HG := Lib.hid g1
  have HGR := Lib.hid g2
  have HQA := Lib.hid hqa
  have hkl := HM2.out.kl
  have hWz : M.W < w2.heap.size := Nat.lt_of_lt_of_le hl.W.2 hkl
  have hpz : M.p < w2.heap.size := Nat.lt_of_lt_of_le hl.p.2 hkl
  have hfW := HM2.out.fw i
  obtain ⟨nL, hnL⟩ : ∃ x, M.R.L.length = x := ⟨_, rfl⟩
  have HNL := Lib.hid hnL
  rw [hnL] at c7 hi
  have HS2 := Lib.hid hs2
  clear hlen hown hRd g1 g2 hd1 hqa e hb hs2 hnL hn hcap
  go_cut [] (fun wx => ∃ (a2 : Option Addr) (c2 : Nat) (w3 : World), wx = w3.setCell ⟨M.W, i, none⟩ (.slice a2 m1 c2) ∧ w3.ownsRow w2.heap.size 3 1 (.slice a2 m1 c2) m1 ((s.qa i).tail.flatMap enc1) ∧ Below w2.heap.size w2 w3)
  case first =>
    go_region_with (go_at_call 115; (with_reducible refine (cloneI_any _ _ _ _ _ (by omega) HD2.out (fun _ => .inr ⟨_, rfl⟩)).mono ?_); rintro e w3 ⟨a2, c2, rfl, hown3, hb3⟩; have hb3' : Below w2.heap.size w2 w3 := Below.then (Below.refl w2.heap.size w2).drew hb3; have z7 := (hb3'.cell (p := ⟨M.p, 7, none⟩) hpz).trans c7; have zW := (hb3'.cell (p := ⟨M.W, i, none⟩) hWz).trans c; have zf := (hb3'.frozen (p := ⟨M.W, i, none⟩) hWz).trans hfW)
    all_goals
      go_wp2_with fail
      go_meet
      exact ⟨a2, c2, w3, rfl, by simpa using hown3, hb3'⟩
  case rest =>
    obtain ⟨a2, c2, w3, rfl, hown3, hb3⟩ := hcut
    have hM3 : Mach M (w3.setCell ⟨M.W, i, none⟩ (.slice a2 m1 c2)) { s2 with q := s2.q.set i (s.qa i).tail } := by
      refine HM2.out.queue hl (by rw [HNL.out]; exact hi) (hb3.mono hkl) (fun a m c hh => owns_ext hh hb3) HG.out (d := ⟨a2, m1, c2⟩) ?_
      exact HGR.out.fresh (by rw [HNL.out]; exact hi) hb3 hkl hown3
    obtain ⟨w4, hw4⟩ : ∃ x, x = w3.setCell ⟨M.W, i, none⟩ (.slice a2 m1 c2) := ⟨_, rfl⟩
    rw [← hw4] at hM3 ⊢
    have hin : i < M.R.L.length := by rw [HNL.out]; exact hi
    obtain ⟨j0, j1, j2, j3⟩ := hM3.jcells hin
    have c8 := hM3.c8
    rw [HNL.out] at c8
    have f0 := hM3.fj (i * 4)
    have f1 := hM3.fj (i * 4 + 1)
    have f2 := hM3.fj (i * 4 + 2)
    have f3 := hM3.fj (i * 4 + 3)
    have HM3 := Lib.hid hM3
    clear hM3 hw4 hown3 hb3 c c7 hs1 HD HD2 HG HGR hfW
    go_wp2
    go_end0
    refine ⟨rfl, ?_⟩
    have h9 := HM3.out.zero hl hin
    rw [HS2.out] at h9
    exact h9
end Go.Proofs.YtlhnhmimhpcoaaaGreat
namespace Go.Proofs.YtlhnhmimhpcoaaaGreat
open Go.RowKit
set_option linter.unusedSimpArgs false
set_option linter.unusedVariables false
theorem right_B {L : List Ta} (h : Right L) : rightB L = true := by
  unfold rightB
  simp only [Bool.and_eq_true, decide_eq_true_eq, List.all_eq_true]
  refine ⟨h.len, fun t ht => ?_⟩
  unfold taskB
  simp only [Bool.and_eq_true, List.all_eq_true, inB_iff]
  have h1 := h.pri t ht
  have h2 := h.pcs t ht
  refine ⟨⟨h1, by omega, by omega⟩, fun p hp => ?_⟩
  have h3 := h.piece t ht p hp
  unfold pieceB
  simp only [Bool.and_eq_true, inB_iff]
  exact h3
theorem raised_to {R : Rn} {s : Ms} (hr : RnOk R) (h : MOk R s) {i : Nat} (hi : i < R.L.length) (hc : insB R.L s i = true) : raisedR R.L i ((s.ja i).p : Nat) = (toI R.L s i, 0) := by
  have hp := h.pc i hi
  have hk := (insB_iff.1 hc).2
  unfold raisedR
  rw [if_pos (by rw [Bool.and_eq_true, isTk_iff, inB_iff]; exact ⟨⟨right_B hr.r, by omega, by omega⟩, by omega, by omega⟩), Int.toNat_natCast]
  have e : (((taAt R.L i).pcs)[(s.ja i).p]?).getD default = pcA R.L i (s.ja i).p := rfl
  rw [e]
  have hk' : ¬ (pcA R.L i (s.ja i).p).2 < 0 := by unfold lkA at hk; omega
  rw [if_neg hk']
  unfold toI; rw [hc]; rfl
theorem Raised_is {a : Option Addr} {n c : Nat} {L : List Ta} {t p x y : Int} {w : World} (hL : RdL w a n L) (h : raisedR L t p = (x, y)) :
    Calls Tryz.prog 127 #[.slice a n c, .int .i64 t, .int .i64 p] w fun e w' => e = rII x y ∧ Below w.heap.size w w' := by
  have := Raised_any a n c L t p w hL
  rw [h] at this; exact this
theorem keep_c {w w' : World} (hb : Below w.heap.size w w') {b o : Nat} {v : Value} (h : w.cell? ⟨b, o, none⟩ = some v) : w'.cell? ⟨b, o, none⟩ = some v := (hb.cell (p := ⟨b, o, none⟩) (World.block_lt_of_cell? w _ h)).trans h
set_option maxRecDepth 10000 in
set_option maxHeartbeats 1000000 in
theorem place_any {M : MPar} {w : World} {s : Ms} {i : Nat} (hM : Mach M w s) (hR : RdRun M.w0 M.H M.R) (hr : RnOk M.R) (hO : MOk M.R s) (hOf : M.O = ofL M.R.L) (hi : i < M.R.L.length) :
    Calls Tryz.prog 116 #[.pointer (some ⟨M.p, 0, none⟩), .int .i64 i] w fun e w' => e = rII (cnt M.R.L (toI M.R.L s i) : Nat) (ownI M.R.L s i : Nat) ∧ Below w.heap.size w w' := by
  have hrk : ∀ j : Nat, j < M.R.L.length → w.cell? ⟨M.rb, j, none⟩ = some (.int .i64 (cnt M.R.L j : Nat)) := fun j hj => by
    obtain ⟨x, h1, h2⟩ := hM.rk j hj
    rw [hOf, ofL_get hj] at h1
    rw [h2]; simp at h1; rw [h1]
  have c6 := hM.c6
  have hto := hO.to_ hi
  have rki := hrk i hi
  obtain ⟨B, hB⟩ : ∃ B, insB M.R.L s i = B := ⟨_, rfl⟩
  have HLK := Lib.hid (locked_is hM hR hO hi hB)
  cases B
  · have e1 : toI M.R.L s i = i := toI_no hB
    have e2 : ownI M.R.L s i = 1 := by unfold ownI; rw [if_pos e1]
    rw [e1, e2]
    obtain ⟨nL, hnL⟩ : ∃ x, M.R.L.length = x := ⟨_, rfl⟩
    obtain ⟨cn, hcn⟩ : ∃ x, cnt M.R.L (i : Int) = x := ⟨_, rfl⟩
    rw [hnL] at c6 hi
    rw [hcn] at rki ⊢
    clear hM hR hr hO hOf hrk hto e1 e2 hB
    go_enter Tryz.func116, Tryz.ntmps116
    go_wp2_with (go_at_call 80; (with_reducible refine HLK.out.mono ?_); rintro e w1 ⟨rfl, hb1⟩; have d6 := keep_c hb1 c6; have d7 := keep_c hb1 rki)
    go_ret2
    exact ⟨rII_eq rfl rfl, by (repeat' (first | (with_reducible exact Below.refl _ _) | (with_reducible assumption) | (with_reducible refine Below.alloc ?_ ?_ _) | (with_reducible refine Below.drew ?_) | (with_reducible refine Below.draws ?_ _) | (with_reducible refine Below.setCell ?_ ?_ _) | (refine Below.then ?_ (by with_reducible assumption)) | go_size))⟩
  · have hra := raised_to hr hO hi hB
    obtain ⟨tq, hte⟩ := Int.eq_ofNat_of_zero_le hto.1.1
    have htl : tq < M.R.L.length := by have := hto.1.2; omega
    have rkt := hrk tq htl
    have HT := Lib.hid (hM.int hR).t
    obtain ⟨j0, _⟩ := hM.jcells hi
    have c0 := hM.c0
    have c8 := hM.c8
    have HRA := Lib.hid hra
    have hown : ownI M.R.L s i = if (tq : Int) = (i : Int) then 1 else 0 := by unfold ownI; rw [hte]
    rw [hte] at HRA ⊢
    have HOWN := Lib.hid hown
    obtain ⟨jp, hjp⟩ : ∃ x, (s.ja i).p = x := ⟨_, rfl⟩
    rw [hjp] at j0 HRA
    obtain ⟨nL, hnL⟩ : ∃ x, M.R.L.length = x := ⟨_, rfl⟩
    rw [hnL] at c6 c8 hi htl
    obtain ⟨ci, hci⟩ : ∃ x, cnt M.R.L (i : Int) = x := ⟨_, rfl⟩
    obtain ⟨ct, hct⟩ : ∃ x, cnt M.R.L (tq : Int) = x := ⟨_, rfl⟩
    have HE : Hid (tq = i → ci = ct) := Lib.hid (fun h => by rw [← hci, ← hct, h])
    rw [hci] at rki
    rw [hct] at rkt ⊢
    obtain ⟨ow, how⟩ : ∃ x, ownI M.R.L s i = x := ⟨_, rfl⟩
    rw [how] at HOWN ⊢
    clear hM hR hr hO hOf hrk hto hB hra hown hte hjp hci hct how hnL
    go_enter Tryz.func116, Tryz.ntmps116
    go_upto_region 2 with (go_at_call 80; (with_reducible refine HLK.out.mono ?_); rintro e w1 ⟨rfl, hb1⟩; have d6 := keep_c hb1 c6; have d7 := keep_c hb1 rki; have d8 := keep_c hb1 rkt; have d0 := keep_c hb1 c0; have dj := keep_c hb1 j0; have d9 := keep_c hb1 c8; have HT1 := Lib.hid ((HT.out.ext hb1).ext (Below.refl w1.heap.size w1).drew); have B1 := Lib.hid hb1; clear hb1)
    go_region_held3 (fun w' => w'.cell? ⟨M.p, 0, none⟩ = some (.slice M.H.tA M.H.tN M.H.tC) ∧ w'.cell? ⟨M.p, 8, none⟩ = some (.slice (some ⟨M.J, 0, none⟩) nL nL) ∧ w'.cell? ⟨M.J, i * 4, none⟩ = some (.int .i64 (jp : Int)))
      (first | go_keep)
      (first
        | (go_at_call 127; (with_reducible refine (Raised_is HT1.out HRA.out).mono ?_); rintro e w2 ⟨rfl, hb2⟩; have hb3 : Below w1.heap.size w1 w2 := Below.then (Below.refl w1.heap.size w1).drew hb2; have B2 := Lib.hid hb3; have x0 := keep_c hb3 d0; have x8 := keep_c hb3 d9; have xj := keep_c hb3 dj; have x6 := keep_c hb3 d6; have x7 := keep_c hb3 d7; have y8 := keep_c hb3 d8; clear hb2 hb3))
    all_goals
      by_cases q : tq = i
      · subst q
        have e : ci = ct := HE.out rfl
        subst e
        obtain rfl : ow = 1 := by rw [HOWN.out]; simp
        go_wp2
        go_ret2
        exact ⟨rII_eq rfl rfl, Below.then B1.out B2.out⟩
      · obtain rfl : ow = 0 := by rw [HOWN.out]; rw [if_neg]; omega
        have q' : ((tq : Int) != (i : Int)) = true := by simp; omega
        have q'' : (tq != i) = true := by simpa using q
        go_wp2
        go_ret2
        exact ⟨rII_eq rfl rfl, Below.then B1.out B2.out⟩
def orI (x y : Int) : Int := if x = 0 then y else x
theorem or_any (b c : Nat) (x y : Int) (w : World) (h0 : w.cell? ⟨b, 0, none⟩ = some (.int .i64 x)) (h1 : w.cell? ⟨b, 1, none⟩ = some (.int .i64 y)) :
    Calls Tryz.prog 117 #[.slice (some ⟨b, 0, none⟩) 2 c] w fun e w' => e = .returned (.int .i64 (orI x y)) ∧ w = w' := by
  obtain ⟨R, hR⟩ : ∃ R, orI x y = R := ⟨_, rfl⟩
  rw [hR]
  have HR := Lib.hid hR
  clear hR
  go_enter Tryz.func117, Tryz.ntmps117
  go_wp2
  go_loopw [8] (fun i wr => wr = w ∧ (i = .int .i64 0 ∨ (i = .int .i64 1 ∧ x = 0) ∨ (i = .int .i64 2 ∧ x = 0 ∧ y = 0))) (fun i _ => 2 - (intOf i).toNat)
  case atStart => exact ⟨rfl, .inl rfl⟩
  case round =>
    obtain ⟨rfl, rfl | ⟨rfl, hx⟩ | ⟨rfl, hx, hy⟩⟩ := hrel
    · by_cases q : x = 0
      · have q' : (x != 0) = false := by simpa using q
        subst q
        go_wp2
        go_roundw
        case rel => simp
        case measure => simp [intOf]
      · have q' : (x != 0) = true := by simpa using q
        have hRx : R = x := by rw [← HR.out, orI, if_neg q]
        subst hRx
        go_wp2
        go_ret
        exact ⟨rfl, rfl⟩
    · subst hx
      by_cases q : y = 0
      · have q' : (y != 0) = false := by simpa using q
        subst q
        go_wp2
        go_roundw
        case rel => simp
        case measure => simp [intOf]
      · have q' : (y != 0) = true := by simpa using q
        have hRx : R = y := by rw [← HR.out, orI, if_pos rfl]
        subst hRx
        go_wp2
        go_ret
        exact ⟨rfl, rfl⟩
    · subst hx; subst hy
      have hRx : R = 0 := by rw [← HR.out, orI, if_pos rfl]
      subst hRx
      go_wp2
      go_ret
      exact ⟨rfl, rfl⟩
theorem key_or {L : List Ta} {s : Ms} {a b : Nat} : decide (orI (cmpI (cnt L (toI L s a) : Nat) (cnt L (toI L s b) : Nat)) (cmpI (ownI L s a : Nat) (ownI L s b : Nat)) < 0) = decide (keyI L s a < keyI L s b) := by
  have ha : ownI L s a ≤ 1 := by unfold ownI; split <;> omega
  have hb : ownI L s b ≤ 1 := by unfold ownI; split <;> omega
  rw [decide_eq_decide]
  unfold orI cmpI keyI
  (repeat' split) <;> omega
set_option maxRecDepth 10000 in
set_option maxHeartbeats 1000000 in
theorem ahead_is {M : MPar} {w : World} {s : Ms} {a b : Nat} {B : Bool} (hM : Mach M w s) (hl : MLay M) (hR : RdRun M.w0 M.H M.R) (hr : RnOk M.R) (hO : MOk M.R s) (hOf : M.O = ofL M.R.L) (ha : a < M.R.L.length) (hb : b < M.R.L.length) (h : decide (keyI M.R.L s a < keyI M.R.L s b) = B) :
    Calls Tryz.prog 82 #[.pointer (some ⟨M.p, 0, none⟩), .int .i64 a, .int .i64 b] w fun e w' => e = .returned (.bool B) ∧ Below w.heap.size w w' := by
  rw [← key_or] at h
  have HA := Lib.hid (place_any hM hR hr hO hOf ha)
  have HB : Hid (∀ w1, Below w.heap.size w w1 → Calls Tryz.prog 116 #[.pointer (some ⟨M.p, 0, none⟩), .int .i64 b] w1 fun e w' => e = rII (cnt M.R.L (toI M.R.L s b) : Nat) (ownI M.R.L s b : Nat) ∧ Below w1.heap.size w1 w') := Lib.hid (fun w1 h1 => place_any (hM.ext hl h1) hR hr hO hOf hb)
  obtain ⟨c1, e1⟩ : ∃ x, cnt M.R.L (toI M.R.L s a) = x := ⟨_, rfl⟩
  obtain ⟨c2, e2⟩ : ∃ x, cnt M.R.L (toI M.R.L s b) = x := ⟨_, rfl⟩
  obtain ⟨o1, e3⟩ : ∃ x, ownI M.R.L s a = x := ⟨_, rfl⟩
  obtain ⟨o2, e4⟩ : ∃ x, ownI M.R.L s b = x := ⟨_, rfl⟩
  rw [e1, e2, e3, e4] at h
  rw [e1, e3] at HA
  rw [e2, e4] at HB
  obtain ⟨x1, f1⟩ : ∃ x, cmpI (c1 : Nat) (c2 : Nat) = x := ⟨_, rfl⟩
  obtain ⟨x2, f2⟩ : ∃ x, cmpI (o1 : Nat) (o2 : Nat) = x := ⟨_, rfl⟩
  rw [f1, f2] at h
  have F1 := Lib.hid f1; have F2 := Lib.hid f2
  obtain ⟨y, hy⟩ : ∃ y, orI x1 x2 = y := ⟨_, rfl⟩
  rw [hy] at h
  have HY := Lib.hid hy
  clear hM hR hr hO hOf e1 e2 e3 e4 f1 f2 hy
  go_enter Tryz.func82, Tryz.ntmps82
  go_wp2_with (first
    | (go_at_call 116; (with_reducible refine HA.out.mono ?_); rintro e w1 ⟨rfl, hb1⟩; have B1 := Lib.hid hb1; clear hb1)
    | (go_at_call 116; (with_reducible refine (HB.out _ B1.out).mono ?_); rintro e w2 ⟨rfl, hb2⟩; have B2 := Lib.hid (Below.then B1.out hb2); clear hb2)
    | (go_at_call 114; (with_reducible refine (compare_any (c1 : Nat) (c2 : Nat) _).mono ?_); rintro e w3 ⟨rfl, rfl⟩; rw [F1.out])
    | (go_at_call 114; (with_reducible refine (compare_any (o1 : Nat) (o2 : Nat) _).mono ?_); rintro e w4 ⟨rfl, rfl⟩; rw [F2.out])
    | (go_at_call 117; (with_reducible refine (or_any _ _ x1 x2 _ (by simp [go_sem]) (by simp [go_sem])).mono ?_); rintro e w5 ⟨rfl, rfl⟩; rw [HY.out]))
  go_ret
  exact ⟨rfl, Below.then B2.out (by (repeat' (first | (with_reducible exact Below.refl _ _) | (with_reducible assumption) | (with_reducible refine Below.alloc ?_ ?_ _) | (with_reducible refine Below.drew ?_) | (with_reducible refine Below.draws ?_ _) | (with_reducible refine Below.setCell ?_ ?_ _) | (refine Below.then ?_ (by with_reducible assumption)) | go_size)))⟩
set_option maxRecDepth 10000 in
set_option maxHeartbeats 2000000 in
theorem choice_any {M : MPar} {w : World} {s : Ms} (hM : Mach M w s) (hl : MLay M) (hR : RdRun M.w0 M.H M.R) (hr : RnOk M.R) (hO : MOk M.R s) (hOf : M.O = ofL M.R.L) :
    Calls Tryz.prog 43 #[.pointer (some ⟨M.p, 0, none⟩)] w fun e w' => e = .returned (.int .i64 (chM M.R.L s)) ∧ Below w.heap.size w w' := by
  have c0 := hM.c0
  have htn := hR.t.length
  have hL5 := hr.r.len
  have HM := Lib.hid hM; have HR := Lib.hid hR; have HRN := Lib.hid hr; have HO := Lib.hid hO; have HOF := Lib.hid hOf
  obtain ⟨X, hX⟩ : ∃ X, chM M.R.L s = X := ⟨_, rfl⟩
  rw [hX]
  obtain ⟨nL, hnL⟩ : ∃ x, M.H.tN = x := ⟨_, rfl⟩
  have HN : Hid (M.R.L.length = nL) := Lib.hid (htn.trans hnL)
  have HX : Hid (chF M.R.L s (nL - 0) 0 (-1) = X) := Lib.hid (by rw [Nat.sub_zero, ← HN.out]; exact hX)
  have hn5 : nL ≤ 5 := by omega
  rw [hnL] at c0
  clear hM hR hr hO hOf hX hnL htn
  go_enter Tryz.func43, Tryz.ntmps43
  go_wp2
  go_loopw [3, 11] (fun b i wr => ∃ (k : Nat) (bb : Int), k ≤ nL ∧ b = .int .i64 bb ∧ i = .int .i64 k ∧ -1 ≤ bb ∧ bb < k ∧ chF M.R.L s (nL - k) k bb = X ∧ Below w.heap.size w wr) (fun _ i _ => nL - (intOf i).toNat)
  case atStart => exact ⟨0, -1, Nat.zero_le _, rfl, rfl, by omega, by omega, HX.out, Below.refl _ _⟩
  case round =>
    clear HX
    obtain ⟨k, bb, hk, rfl, rfl, hb1, hb2, hX, hB⟩ := hrel
    have HB := Lib.hid hB
    have hMx := HM.out.ext hl hB
    have HMX := Lib.hid hMx
    by_cases hkn : k < nL
    · have hkL : k < M.R.L.length := by rw [HN.out]; exact hkn
      rw [show nL - k = (nL - (k + 1)) + 1 by omega, chF] at hX
      cases hrd : rdB s k
      · have hq := rdB_no.1 hrd
        rw [if_neg (fun q => q.1 hq)] at hX
        have HX2 := Lib.hid hX; have HRD := Lib.hid hrd
        clear hX hq hrd hMx hB
        go_wp2_with (go_at_call 79; (with_reducible refine (ready_is HMX.out hkL HRD.out).mono ?_); rintro e w1 ⟨rfl, rfl⟩)
        go_roundw
        case rel => exact ⟨k + 1, bb, hkn, rfl, by go_num, hb1, by omega, HX2.out, HB.out⟩
        case measure => simp [intOf]; omega
      · have hq := rdB_iff.1 hrd
        have HRD := Lib.hid hrd
        by_cases h0 : bb < 0
        · rw [if_pos ⟨hq, .inl h0⟩] at hX
          have HX2 := Lib.hid hX
          clear hX hq hrd hMx hB
          go_wp2_with (go_at_call 79; (with_reducible refine (ready_is HMX.out hkL HRD.out).mono ?_); rintro e w1 ⟨rfl, rfl⟩)
          go_roundw
          case rel => exact ⟨k + 1, k, hkn, rfl, by go_num, by omega, by omega, HX2.out, HB.out⟩
          case measure => simp [intOf]; omega
        · have h0' : decide (bb < 0) = false := by simpa using h0
          obtain ⟨bn, rfl⟩ := Int.eq_ofNat_of_zero_le (show 0 ≤ bb by omega)
          rw [Int.toNat_natCast] at hX
          have hbL : bn < M.R.L.length := by rw [HN.out]; omega
          obtain ⟨A, hA⟩ : ∃ A, decide (keyI M.R.L s k < keyI M.R.L s bn) = A := ⟨_, rfl⟩
          have HA := Lib.hid hA
          cases A
          · have hA' : ¬ keyI M.R.L s k < keyI M.R.L s bn := by simpa using hA
            rw [if_neg (fun q => q.2.elim h0 hA')] at hX
            have HX2 := Lib.hid hX
            clear hX hq hrd hMx hB hA hA'
            go_wp2_with (first
              | (go_at_call 79; (with_reducible refine (ready_is HMX.out hkL HRD.out).mono ?_); rintro e w1 ⟨rfl, rfl⟩)
              | (go_at_call 82; (with_reducible refine (ahead_is HMX.out hl HR.out HRN.out HO.out HOF.out hkL hbL HA.out).mono ?_); rintro e w2 ⟨rfl, hb2⟩; have B2 := Lib.hid hb2; clear hb2))
            go_roundw
            case rel => exact ⟨k + 1, bn, hkn, rfl, by go_num, hb1, by omega, HX2.out, Below.then HB.out B2.out⟩
            case measure => simp [intOf]; omega
          · have hA' : keyI M.R.L s k < keyI M.R.L s bn := by simpa using hA
            rw [if_pos ⟨hq, .inr hA'⟩] at hX
            have HX2 := Lib.hid hX
            clear hX hq hrd hMx hB hA hA'
            go_wp2_with (first
              | (go_at_call 79; (with_reducible refine (ready_is HMX.out hkL HRD.out).mono ?_); rintro e w1 ⟨rfl, rfl⟩)
              | (go_at_call 82; (with_reducible refine (ahead_is HMX.out hl HR.out HRN.out HO.out HOF.out hkL hbL HA.out).mono ?_); rintro e w2 ⟨rfl, hb2⟩; have B2 := Lib.hid hb2; clear hb2))
            go_roundw
            case rel => exact ⟨k + 1, k, hkn, rfl, by go_num, by omega, by omega, HX2.out, Below.then HB.out B2.out⟩
            case measure => simp [intOf]; omega
    · have hbb : bb = X := by rw [show nL - k = 0 by omega] at hX; exact hX
      subst hbb
      clear hX hMx
      go_wp2
      go_ret
      exact ⟨rfl, HB.out⟩
end Go.Proofs.YtlhnhmimhpcoaaaGreat
namespace Go.Proofs.YtlhnhmimhpcoaaaGreat
open Go.RowKit
set_option linter.unusedSimpArgs false
set_option linter.unusedVariables false
theorem RdRun.bcell {w : World} {H : RunH} {R : Rn} (h : RdRun w H R) {i : Nat} (hi : i < R.bu.length) : ∃ b off, H.bA = some ⟨b, off, none⟩ ∧ i < H.bN ∧ b < w.heap.size ∧ w.cell? ⟨b, off + i, none⟩ = some (.int .i64 ((R.bu[i]?).getD 0)) := by
  have hn : i < H.bN := by rw [← h.b.length]; exact hi
  obtain ⟨x, b, off, e, hb, hc, hx⟩ := h.b.idx i hn
  exact ⟨b, off, e, hn, hb, by rw [hx]; exact hc⟩
theorem Mach.work2 {M : MPar} {w : World} {s : Ms} (h : Mach M w s) (hl : MLay M) {i : Nat} (hi : i < M.R.L.length) {jp jt jd : Nat} {js : Bool} (hj : s.ja i = ⟨jp, jt, jd, js⟩) :
    Mach M ((w.setCell ⟨M.J, i * 4 + 1, none⟩ (.int .i64 ((jt : Int) + 1))).setCell ⟨M.J, i * 4 + 2, none⟩ (.int .i64 ((jd : Int) + 1))) { s with j := s.j.set i ⟨jp, jt + 1, jd + 1, js⟩ } := by
  have hjl : i < s.j.length := by rw [h.jl]; exact hi
  have h0 := h.job hl hi (j := 1) (by decide) (encJ_t (s.ja i) (jt + 1))
  have h1 := h0.job hl hi (j := 2) (by decide) (encJ_d _ (jd + 1))
  have e : ∀ (q : List (List Int)) (o : List En) (x : Jb), Ms.ja ⟨q, s.j.set i x, o⟩ i = x := fun q o x => by rw [ja_set hjl, if_pos rfl]
  simp only [List.set_set, e, hj] at h1
  exact h1
theorem Mach.work3 {M : MPar} {w : World} {s : Ms} (h : Mach M w s) (hl : MLay M) {i : Nat} (hi : i < M.R.L.length) {jp jt jd : Nat} {js : Bool} (hj : s.ja i = ⟨jp, jt, jd, js⟩) :
    Mach M ((w.setCell ⟨M.J, i * 4, none⟩ (.int .i64 ((jp : Int) + 1))).setCell ⟨M.J, i * 4 + 1, none⟩ (.int .i64 0)) { s with j := s.j.set i ⟨jp + 1, 0, jd, js⟩ } := by
  have hjl : i < s.j.length := by rw [h.jl]; exact hi
  have h0 := h.job hl hi (j := 0) (by decide) (encJ_p (s.ja i) (jp + 1))
  have h1 := h0.job hl hi (j := 1) (by decide) (encJ_t _ 0)
  have e : ∀ (q : List (List Int)) (o : List En) (x : Jb), Ms.ja ⟨q, s.j.set i x, o⟩ i = x := fun q o x => by rw [ja_set hjl, if_pos rfl]
  simp only [List.set_set, e, hj] at h1
  exact h1
theorem Mach.work4 {M : MPar} {w : World} {s : Ms} (h : Mach M w s) (hl : MLay M) {i : Nat} (hi : i < M.R.L.length) :
    Mach M (w.setCell ⟨M.J, i * 4 + 3, none⟩ (.bool true)) { s with j := s.j.set i { s.ja i with s := true } } := h.job hl hi (j := 3) (by decide) (encJ_s (s.ja i) true)
theorem ja_at {s : Ms} {i : Nat} {x : Jb} {q : List (List Int)} {o : List En} (h : i < s.j.length) : Ms.ja ⟨q, s.j.set i x, o⟩ i = x := by rw [ja_set h, if_pos rfl]
set_option maxRecDepth 100000 in
set_option maxHeartbeats 4000000 in
theorem work_any {M : MPar} {w : World} {s : Ms} {i t : Nat} (hM : Mach M w s) (hl : MLay M) (hR : RdRun M.w0 M.H M.R) (hr : RnOk M.R) (hO : MOk M.R s) (hi : i < M.R.L.length) (hq : s.qa i ≠ []) (hql : (s.qa i).length ≤ 100) (ho : s.o.length ≤ 1000000) (ht : t ≤ 10000) (hd : (s.ja i).d ≤ 10000) :
    Calls Tryz.prog 44 #[.pointer (some ⟨M.p, 0, none⟩), .int .i64 t, .int .i64 i] w fun e w' => e = .returned (.tuple #[]) ∧ Mach M w' (wkA M.R t i s) := by
  obtain ⟨j0, j1, j2, j3⟩ := hM.jcells hi
  have c8 := hM.c8
  have hpc := hO.pc i hi
  have htk := hO.tk i hi
  have hlim := pc_lim hr.r hi hpc
  have hp8 := (pcs_pos hr.r hi).2
  have HM := Lib.hid hM; have HR := Lib.hid hR; have HQ := Lib.hid hq
  have HMD := Lib.hid (hM.ext hl (Below.refl w.heap.size w).drew)
  obtain ⟨jb, hjb⟩ : ∃ x, s.ja i = x := ⟨_, rfl⟩
  have HJB := Lib.hid hjb
  rw [hjb] at j0 j1 j2 j3 hpc htk hlim hd
  obtain ⟨jp, jt, jd, js⟩ := jb
  simp only [] at j0 j1 j2 j3 hpc htk hlim hd
  obtain ⟨nL, hnL⟩ : ∃ x, M.R.L.length = x := ⟨_, rfl⟩
  have HN := Lib.hid hnL
  rw [hnL] at c8
  have hin : i < nL := by omega
  obtain ⟨TK, hTK⟩ : ∃ x, tkA M.R.L i jp = x := ⟨_, rfl⟩
  have HTK := Lib.hid hTK
  rw [hTK] at htk hlim
  have hjt : jt ≤ 200 := by omega
  have hjp : jp ≤ 8 := by omega
  have wt : IntKind.i64.wrap ((jt : Int) + 1) = (jt : Int) + 1 := IntWalk.i64_in _ (by omega)
  have wd : IntKind.i64.wrap ((jd : Int) + 1) = (jd : Int) + 1 := IntWalk.i64_in _ (by omega)
  have wp : IntKind.i64.wrap ((jp : Int) + 1) = (jp : Int) + 1 := IntWalk.i64_in _ (by omega)
  have wm : IntKind.i64.wrap ((t : Int) + 1) = (t : Int) + 1 := IntWalk.i64_in _ (by omega)
  clear hM hR hq hjb hnL hTK
  go_enter Tryz.func44, Tryz.ntmps44
  go_wp2_with fail
  go_region_held3 (fun w' => w'.cell? ⟨M.J, i * 4, none⟩ = some (.int .i64 (jp : Int))) (first | go_keep)
    (first
      | (go_at_call 83; (with_reducible refine (event_any HMD.out hi HQ.out).mono ?_); rintro e w1 ⟨rfl, rfl⟩)
      | (go_at_call 42; (with_reducible refine (write_any hl HMD.out (by omega) _ _ _ _ _).mono ?_); rintro e w2 ⟨rfl, hM2⟩; have HM2 := Lib.hid hM2; have k0 := hM2.jb i hi 0 (by decide); rw [show (s.wr ⟨(t : Int), (i : Int), 4, (jp : Int), s.hd i⟩).ja i = ⟨jp, jt, jd, js⟩ from HJB.out] at k0; have y0 : w2.cell? ⟨M.J, i * 4, none⟩ = some (.int .i64 (jp : Int)) := k0; clear hM2 k0))
  have hw2 := HM2.out.work2 hl hi HJB.out
  obtain ⟨a0, a1, a2, a3⟩ := HM2.out.jcells hi
  rw [show (s.wr ⟨(t : Int), (i : Int), 4, (jp : Int), s.hd i⟩).ja i = ⟨jp, jt, jd, js⟩ from HJB.out] at a0 a1 a2 a3
  simp only [] at a0 a1 a2 a3
  have f1 := HM2.out.fj (i * 4 + 1)
  have f2 := HM2.out.fj (i * 4 + 2)
  have HW2 := Lib.hid hw2
  clear hw2 j0 j1 j2 j3 y0
  go_wp2_with fail
  have hw4 := HW2.out
  obtain ⟨w4, hw4e⟩ : ∃ x, x = (w2.setCell ⟨M.J, i * 4 + 1, none⟩ (.int .i64 ((jt : Int) + 1))).setCell ⟨M.J, i * 4 + 2, none⟩ (.int .i64 ((jd : Int) + 1)) := ⟨_, rfl⟩
  rw [← hw4e] at hw4 ⊢
  obtain ⟨S4, hS4⟩ : ∃ x : Ms, x = ⟨s.q, s.j.set i ⟨jp, jt + 1, jd + 1, js⟩, s.o ++ [⟨(t : Int), (i : Int), 4, (jp : Int), s.hd i⟩]⟩ := ⟨_, rfl⟩
  have hM4 : Mach M w4 S4 := by rw [hS4]; exact hw4
  have hjl : i < s.j.length := by rw [HM.out.jl]; exact hi
  obtain ⟨tb, toff, pb, po, pn, pc, hta, htb, hpb, hpn, hpl, k5, k6, _⟩ := HR.out.t.pcell hi hpc
  obtain ⟨bb, boff, hba, hbn, hbb, bc⟩ := HR.out.bcell (i := i) (by rw [hr.bu]; exact hi)
  have htn : i < M.H.tN := by rw [← HR.out.t.length]; exact hi
  obtain ⟨BU, hBU⟩ : ∃ x, (M.R.bu[i]?).getD 0 = x := ⟨_, rfl⟩
  rw [hBU] at bc
  rw [HTK.out] at k6
  have HBU := Lib.hid hBU
  have HTA := Lib.hid hta
  have HBA := Lib.hid hba
  have HPL := Lib.hid hpl
  have hpn8 : pn ≤ 8 := by omega
  have HK : Hid (∀ wx, Below M.w0.heap.size M.w0 wx → wx.cell? ⟨tb, toff + i * 6 + 5, none⟩ = some (.slice (some ⟨pb, po, none⟩) pn pc) ∧ wx.cell? ⟨pb, po + jp * 2, none⟩ = some (.int .i64 TK) ∧ wx.cell? ⟨bb, boff + i, none⟩ = some (.int .i64 BU)) := Lib.hid (fun wx h => ⟨(h.cell (p := ⟨tb, toff + i * 6 + 5, none⟩) htb).trans k5, (h.cell (p := ⟨pb, po + jp * 2, none⟩) hpb).trans k6, (h.cell (p := ⟨bb, boff + i, none⟩) hbb).trans bc⟩)
  have HM4 := Lib.hid hM4
  have HJ4 : Hid (S4.ja i = ⟨jp, jt + 1, jd + 1, js⟩) := Lib.hid (by rw [hS4]; exact ja_at hjl)
  have HQ4 : Hid (S4.qa i = s.qa i ∧ S4.o.length = s.o.length + 1) := Lib.hid (by rw [hS4]; exact ⟨rfl, by simp⟩)
  have HS4 := Lib.hid hS4
  obtain ⟨a0, a1, a2, a3⟩ := hM4.jcells hi
  rw [HJ4.out] at a0 a1 a2 a3
  simp only [] at a0 a1 a2 a3
  try simp only [Int.natCast_add, Int.cast_ofNat_Int] at a0 a1 a2 a3
  have b0 := hM4.c0
  rw [hta] at b0
  obtain ⟨k5', k6', bc'⟩ := HK.out w4 hM4.lb
  have g0 := hM4.fj (i * 4)
  have g1 := hM4.fj (i * 4 + 1)
  clear hw4 hw4e hM4 hS4 hta hba hpl k5 k6 bc hBU HW2 HM2
  by_cases qt : ((jt : Int) + 1) = TK
  · have qt' : (((jt : Int) + 1) == TK) = true := by simpa using qt
    go_region
    all_goals
      obtain ⟨w4d, hw4d⟩ : ∃ x, x = w4.drew := ⟨_, rfl⟩
      have hM4d : Mach M w4d S4 := by rw [hw4d]; exact HM4.out.ext hl (Below.refl w4.heap.size w4).drew
      rw [← hw4d]
      obtain ⟨z0, z1, z2, z3⟩ := hM4d.jcells hi
      rw [HJ4.out] at z0 z1 z2 z3
      simp only [] at z0 z1 z2 z3
      try simp only [Int.natCast_add, Int.cast_ofNat_Int] at z0 z1 z2 z3
      have y0 := hM4d.fj (i * 4)
      have y1 := hM4d.fj (i * 4 + 1)
      have hM5 := hM4d.work3 hl hi HJ4.out
      clear hw4d
      go_wp2_with fail
      obtain ⟨w5, hw5⟩ : ∃ x, x = (w4d.setCell ⟨M.J, i * 4, none⟩ (.int .i64 ((jp : Int) + 1))).setCell ⟨M.J, i * 4 + 1, none⟩ (.int .i64 0) := ⟨_, rfl⟩
      rw [← hw5] at hM5 ⊢
      obtain ⟨S5, hS5⟩ : ∃ x : Ms, x = ⟨s.q, s.j.set i ⟨jp + 1, 0, jd + 1, js⟩, s.o ++ [⟨(t : Int), (i : Int), 4, (jp : Int), s.hd i⟩]⟩ := ⟨_, rfl⟩
      have HM5 : Hid (Mach M w5 S5) := Lib.hid (by rw [hS5]; rw [HS4.out] at hM5; simp only [List.set_set] at hM5; exact hM5)
      have HJ5 : Hid (S5.ja i = ⟨jp + 1, 0, jd + 1, js⟩) := Lib.hid (by rw [hS5]; exact ja_at hjl)
      have HQ5 : Hid (S5.qa i = s.qa i ∧ S5.o.length = s.o.length + 1) := Lib.hid (by rw [hS5]; exact ⟨rfl, by simp⟩)
      have HS5 := Lib.hid hS5
      have HJN : Hid (jbN M.R.L i ⟨jp, jt, jd, js⟩ = ⟨jp + 1, 0, jd + 1, js⟩) := Lib.hid (by unfold jbN; simp only []; rw [if_pos (by rw [HTK.out]; exact qt)])
      clear hM4d hM5 hS5 hw5 z0 z1 z2 z3 y0 y1 a0 a1 a2 a3 b0 k5' k6' bc' g0 g1
    obtain ⟨a0, a1, a2, a3⟩ := HM5.out.jcells hi
    rw [HJ5.out] at a0 a1 a2 a3
    simp only [] at a0 a1 a2 a3
    try simp only [Int.natCast_add, Int.cast_ofNat_Int] at a0 a1 a2 a3
    have b0 := HM5.out.c0
    have b4 := HM5.out.c4
    rw [HTA.out] at b0
    rw [HBA.out] at b4
    have f3 := HM5.out.fj (i * 4 + 3)
    have k5' := (HK.out w5 HM5.out.lb).1
    have bc' := (HK.out w5 HM5.out.lb).2.2
    by_cases qc : jp + 1 = pn
    · have qc' : (((jp : Int) + 1) == (pn : Int)) = true := by simp; omega
      go_wp2_with fail
      go_region
      all_goals
        go_wp2_with (go_at_call 81; (with_reducible refine (end_any hl (HM5.out.ext hl (Below.refl w5.heap.size w5).drew) hi (by rw [HQ5.out.1]; exact HQ.out) (by rw [HQ5.out.1]; exact hql) (by have := HQ5.out.2; omega) _ _).mono ?_); rintro e w9 ⟨rfl, hM9⟩; have HM9 := Lib.hid hM9; clear hM9)
        go_end0
        refine ⟨rfl, ?_⟩
        have h9 := HM9.out
        rw [HS5.out] at h9
        unfold wkA
        rw [HJB.out, HJN.out, if_pos (by rw [← HPL.out]; exact qc)]
        exact h9
    · have qc' : (((jp : Int) + 1) == (pn : Int)) = false := by simp; omega
      have hne : ¬ (jp + 1) = (taAt M.R.L i).pcs.length := by rw [← HPL.out]; omega
      go_wp2_with fail
      go_region
      all_goals
        by_cases qd : ((jd : Int) + 1) = BU
        · have qd' : (((jd : Int) + 1) == BU) = true := by simpa using qd
          have g0 := a0
          go_wp2_with fail
          go_region
          all_goals
            obtain ⟨w6, hw6⟩ : ∃ x, x = w5.drew.drew := ⟨_, rfl⟩
            have hM6 : Mach M w6 S5 := by rw [hw6]; exact (HM5.out.ext hl (Below.refl w5.heap.size w5).drew).ext hl (Below.refl w5.drew.heap.size w5.drew).drew
            rw [← hw6]
            obtain ⟨z0, z1, z2, z3⟩ := hM6.jcells hi
            have f6 := hM6.fj (i * 4 + 3)
            obtain ⟨S7, hS7⟩ : ∃ x : Ms, x = { S5 with j := S5.j.set i { S5.ja i with s := true } } := ⟨_, rfl⟩
            have HM7 : Hid (Mach M (w6.setCell ⟨M.J, i * 4 + 3, none⟩ (.bool true)) S7) := Lib.hid (by rw [hS7]; exact hM6.work4 hl hi)
            have HQ7 : Hid (S7.qa i ≠ []) := Lib.hid (by rw [hS7]; show S5.qa i ≠ []; rw [HQ5.out.1]; exact HQ.out)
            have HO7 : Hid (S7.o.length ≤ 2000000) := Lib.hid (by rw [hS7]; have := HQ5.out.2; show S5.o.length ≤ 2000000; omega)
            have HS7 := Lib.hid hS7
            clear hw6 hS7
            go_wp2_with (first
              | (go_at_call 83; (with_reducible refine (event_any HM7.out hi HQ7.out).mono ?_); rintro e w8 ⟨rfl, rfl⟩)
              | (go_at_call 42; (with_reducible refine (write_any hl HM7.out HO7.out _ _ _ _ _).mono ?_); rintro e w9 ⟨rfl, hM9⟩; have HM9 := Lib.hid hM9; clear hM9))
            go_end0
            refine ⟨rfl, ?_⟩
            have h9 := HM9.out
            rw [HS7.out, HJ5.out, HS5.out] at h9
            unfold wkA
            rw [HJB.out, HJN.out, if_neg hne, if_pos (by rw [HBU.out, ← qd]; rfl)]
            simp only [Ms.wr, List.set_set] at h9
            exact h9
        · have qd' : (((jd : Int) + 1) == BU) = false := by simpa using qd
          go_wp2_with fail
          go_region
          all_goals
            go_wp2_with fail
            go_end0
            refine ⟨rfl, ?_⟩
            have h9 := (HM5.out.ext hl (Below.refl w5.heap.size w5).drew).ext hl (Below.refl w5.drew.heap.size w5.drew).drew
            unfold wkA
            rw [HJB.out, HJN.out, if_neg hne, if_neg (by rw [HBU.out]; intro e; exact qd (by rw [← e]; rfl))]
            rw [HS5.out] at h9
            exact h9
  · have qt' : (((jt : Int) + 1) == TK) = false := by simpa using qt
    go_region
    all_goals
      obtain ⟨w5, hw5⟩ : ∃ x, x = w4.drew := ⟨_, rfl⟩
      obtain ⟨S5, hS5⟩ : ∃ x : Ms, x = S4 := ⟨_, rfl⟩
      have HM5 : Hid (Mach M w5 S5) := Lib.hid (by rw [hw5, hS5]; exact HM4.out.ext hl (Below.refl w4.heap.size w4).drew)
      rw [← hw5]
      have HJ5 : Hid (S5.ja i = ⟨jp, jt + 1, jd + 1, js⟩) := Lib.hid (by rw [hS5]; exact HJ4.out)
      have HQ5 : Hid (S5.qa i = s.qa i ∧ S5.o.length = s.o.length + 1) := Lib.hid (by rw [hS5]; exact HQ4.out)
      have HS5 := Lib.hid (hS5.trans HS4.out)
      have HJN : Hid (jbN M.R.L i ⟨jp, jt, jd, js⟩ = ⟨jp, jt + 1, jd + 1, js⟩) := Lib.hid (by unfold jbN; simp only []; rw [if_neg (by rw [HTK.out]; exact qt)])
      clear hS5 hw5 a0 a1 a2 a3 b0 k5' k6' bc' g0 g1
    obtain ⟨a0, a1, a2, a3⟩ := HM5.out.jcells hi
    rw [HJ5.out] at a0 a1 a2 a3
    simp only [] at a0 a1 a2 a3
    try simp only [Int.natCast_add, Int.cast_ofNat_Int] at a0 a1 a2 a3
    have b0 := HM5.out.c0
    have b4 := HM5.out.c4
    rw [HTA.out] at b0
    rw [HBA.out] at b4
    have f3 := HM5.out.fj (i * 4 + 3)
    have k5' := (HK.out w5 HM5.out.lb).1
    have bc' := (HK.out w5 HM5.out.lb).2.2
    have qc' : ((jp : Int) == (pn : Int)) = false := by simp; omega
    have hne : ¬ (jp) = (taAt M.R.L i).pcs.length := by rw [← HPL.out]; omega
    go_wp2_with fail
    go_region
    all_goals
      by_cases qd : ((jd : Int) + 1) = BU
      · have qd' : (((jd : Int) + 1) == BU) = true := by simpa using qd
        have g0 := a0
        go_wp2_with fail
        go_region
        all_goals
          obtain ⟨w6, hw6⟩ : ∃ x, x = w5.drew.drew := ⟨_, rfl⟩
          have hM6 : Mach M w6 S5 := by rw [hw6]; exact (HM5.out.ext hl (Below.refl w5.heap.size w5).drew).ext hl (Below.refl w5.drew.heap.size w5.drew).drew
          rw [← hw6]
          obtain ⟨z0, z1, z2, z3⟩ := hM6.jcells hi
          have f6 := hM6.fj (i * 4 + 3)
          obtain ⟨S7, hS7⟩ : ∃ x : Ms, x = { S5 with j := S5.j.set i { S5.ja i with s := true } } := ⟨_, rfl⟩
          have HM7 : Hid (Mach M (w6.setCell ⟨M.J, i * 4 + 3, none⟩ (.bool true)) S7) := Lib.hid (by rw [hS7]; exact hM6.work4 hl hi)
          have HQ7 : Hid (S7.qa i ≠ []) := Lib.hid (by rw [hS7]; show S5.qa i ≠ []; rw [HQ5.out.1]; exact HQ.out)
          have HO7 : Hid (S7.o.length ≤ 2000000) := Lib.hid (by rw [hS7]; have := HQ5.out.2; show S5.o.length ≤ 2000000; omega)
          have HS7 := Lib.hid hS7
          clear hw6 hS7
          go_wp2_with (first
            | (go_at_call 83; (with_reducible refine (event_any HM7.out hi HQ7.out).mono ?_); rintro e w8 ⟨rfl, rfl⟩)
            | (go_at_call 42; (with_reducible refine (write_any hl HM7.out HO7.out _ _ _ _ _).mono ?_); rintro e w9 ⟨rfl, hM9⟩; have HM9 := Lib.hid hM9; clear hM9))
          go_end0
          refine ⟨rfl, ?_⟩
          have h9 := HM9.out
          rw [HS7.out, HJ5.out, HS5.out] at h9
          unfold wkA
          rw [HJB.out, HJN.out, if_neg hne, if_pos (by rw [HBU.out, ← qd]; rfl)]
          simp only [Ms.wr, List.set_set] at h9
          exact h9
      · have qd' : (((jd : Int) + 1) == BU) = false := by simpa using qd
        go_wp2_with fail
        go_region
        all_goals
          go_wp2_with fail
          go_end0
          refine ⟨rfl, ?_⟩
          have h9 := (HM5.out.ext hl (Below.refl w5.heap.size w5).drew).ext hl (Below.refl w5.drew.heap.size w5.drew).drew
          unfold wkA
          rw [HJB.out, HJN.out, if_neg hne, if_neg (by rw [HBU.out]; intro e; exact qd (by rw [← e]; rfl))]
          rw [HS5.out] at h9
          exact h9
end Go.Proofs.YtlhnhmimhpcoaaaGreat
