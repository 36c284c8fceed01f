/- Contracts of the machine's small methods. The conditions: the machine reads as named. slices.Clone at ints; the rest of a row of ints. The conditions: the row reads as named. The contract of the machine's end. The conditions: the machine reads as named. The contract of ranksOf of the program. The conditions: the tasks read as named. The contracts of isTask, Ranks, Ceilings, Raised of the program. The conditions: the tasks read as named. The contracts of place, ahead, choice. The conditions: the machine reads as named. The contract of the machine's work. The conditions: the machine reads as named. -/
import Derived.Test.YtmahagcghpoekaaMg3
import Derived.BigRegion
import Derived.Deep.RegionHeld3
import Derived.Deep.Cut
import Derived.Test.YtmahagcghpoekaaMg2
import Derived.Lib.SliceRun
import Derived.Laws.OwnMore
import Derived.Deep.RegionWith
import Derived.Deep.DeepCutAuto
import Derived.IntWalk
namespace Go.Proofs.Ytmahagcghpoekaa
open Go.RowKit
set_option linter.unusedSimpArgs false
set_option linter.unusedVariables false
theorem Mach.int {M : MPar} {w : World} {s : Ms} (h : Mach M w s) {R : Rn} (hr : RdRun M.w0 M.H R) : RdRun w M.H R := hr.ext h.lb
set_option maxRecDepth 10000 in
set_option maxHeartbeats 1000000 in
theorem write_any {M : MPar} {w : World} {s : Ms} (hl : MLay M) (hM : Mach M w s) (ho : s.o.length ≤ 2000000) (m k wh a b : Int) :
    Calls Try.prog 62 #[.pointer (some ⟨M.p, 0, none⟩), .int .i64 m, .int .i64 k, .int .i64 wh, .int .i64 a, .int .i64 b] w fun e w' => e = .returned (.tuple #[]) ∧ Mach M w' (s.wr ⟨m, k, wh, a, b⟩) := by
  obtain ⟨ea, en, ec, h1, h2⟩ := hM.en
  have hlen : en = s.o.length := by
    have := (Rd.of_owns encE_len (by decide) h2).length; simpa using this.symm
  have H2 := Lib.hid h2; have H1 := Lib.hid h1; have HM := Lib.hid hM
  have e5 := EEn
  have hk := hM.kl
  have hpK := hl.p.2
  have hf := hM.fp 9
  have hen : en ≤ 2000000 := by omega
  clear hM h2 hlen
  go_enter Try.func62, Try.ntmps62
  go_wp2_with (at_builtin; refine wpList_pushM (N := w.heap.size) (v := .slice ea en ec) (by simp) rfl _ _ _ rfl e5 rfl H2.out rfl rfl (by intro u hu; simp at hu; rcases hu with rfl | rfl | rfl | rfl | rfl <;> rfl) (by omega) (by decide) hk ?_; intro a3 c3 w3 hown3 hg3; have hb3 : Below M.K w w3 := ((Below.refl M.K w).alloc hk _).trans (grown_below (H2.out.alloc _) hg3 (by rw [World.size_alloc]; omega)); have q9 := (hb3.cell (p := ⟨M.p, 9, none⟩) hpK).trans h1; have f9 := (hb3.frozen (p := ⟨M.p, 9, none⟩) hpK).trans hf; have HO3 := Lib.hid hown3; have HG3 := Lib.hid hg3; clear hown3 hg3 hb3)
  go_end0
  exact ⟨rfl, HM.out.entry hl H1.out H2.out HO3.out HG3.out⟩
def rdB (s : Ms) (i : Nat) : Bool := !(s.qa i).isEmpty
theorem rdB_iff {s : Ms} {i : Nat} : rdB s i = true ↔ s.qa i ≠ [] := by unfold rdB; simp
theorem rdB_no {s : Ms} {i : Nat} : rdB s i = false ↔ s.qa i = [] := by unfold rdB; simp
theorem ready_is {M : MPar} {w : World} {s : Ms} {i : Nat} {b : Bool} (hM : Mach M w s) (hi : i < M.R.L.length) (h : rdB s i = b) :
    Calls Try.prog 91 #[.pointer (some ⟨M.p, 0, none⟩), .int .i64 i] w fun e w' => e = .returned (.bool b) ∧ w = w' := by
  obtain ⟨g, g1, g2⟩ := hM.qu
  have c7 := hM.c7
  have c := g1 i hi
  have hlen := g2.len hi
  have hb : decide (0 < ((g i).n : Int)) = b := by
    rw [← h, ← hlen]; unfold rdB
    cases s.qa i <;> simp <;> omega
  have hb2 : decide (0 < (g i).n) = b := by rw [← hb]; simp
  clear hM g1 g2 hlen h
  unfold sl at c
  go_enter Try.func91, Try.ntmps91
  go_wp2
  go_ret
  exact ⟨rfl, rfl⟩
theorem event_any {M : MPar} {w : World} {s : Ms} {i : Nat} (hM : Mach M w s) (hi : i < M.R.L.length) (h : s.qa i ≠ []) :
    Calls Try.prog 95 #[.pointer (some ⟨M.p, 0, none⟩), .int .i64 i] w fun e w' => e = .returned (.int .i64 (s.hd i)) ∧ w = w' := by
  obtain ⟨g, g1, g2⟩ := hM.qu
  have c7 := hM.c7
  have c := g1 i hi
  have hlen := g2.len hi
  have hn : 0 < (g i).n := by
    rw [← hlen]
    exact List.length_pos_iff.2 h
  have hg := g2.own i hi
  unfold sl at hg c
  obtain ⟨x, b, off, e, hb, hc, hx⟩ := (ownsI_rd hg).idx 0 hn
  have hhd : s.hd i = x := by
    unfold Ms.hd
    rw [List.headD_eq_head?_getD, List.head?_eq_getElem?, hx]; rfl
  rw [hhd]
  rw [e] at c
  rw [Nat.add_zero] at hc
  have hn' : (0 : Int) < ((g i).n : Int) := by omega
  clear hM g1 g2 hlen hg hx hhd h e
  go_enter Try.func95, Try.ntmps95
  go_wp2
  go_ret
  exact ⟨rfl, rfl⟩
/-- the cells of a job, of its task -/
theorem Mach.jcells {M : MPar} {w : World} {s : Ms} (h : Mach M w s) {i : Nat} (hi : i < M.R.L.length) :
    w.cell? ⟨M.J, i * 4, none⟩ = some (.int .i64 ((s.ja i).p : Int)) ∧ w.cell? ⟨M.J, i * 4 + 1, none⟩ = some (.int .i64 ((s.ja i).t : Int)) ∧ w.cell? ⟨M.J, i * 4 + 2, none⟩ = some (.int .i64 ((s.ja i).d : Int)) ∧ w.cell? ⟨M.J, i * 4 + 3, none⟩ = some (.bool (s.ja i).s) :=
  ⟨h.jb i hi 0 (by decide), h.jb i hi 1 (by decide), h.jb i hi 2 (by decide), h.jb i hi 3 (by decide)⟩
theorem RdL.pcell {w : World} {a : Option Addr} {n : Nat} {L : List Ta} (h : RdL w a n L) {i p : Nat} (hi : i < L.length) (hp : p < (taAt L i).pcs.length) :
    ∃ (b off pb po pn pc : Nat), a = some ⟨b, off, none⟩ ∧ b < w.heap.size ∧ pb < w.heap.size ∧ p < pn ∧ pn = (taAt L i).pcs.length ∧ w.cell? ⟨b, off + i * 6 + 5, none⟩ = some (.slice (some ⟨pb, po, none⟩) pn pc) ∧
      w.cell? ⟨pb, po + p * 2, none⟩ = some (.int .i64 (tkA L i p)) ∧ w.cell? ⟨pb, po + p * 2 + 1, none⟩ = some (.int .i64 (lkA L i p)) := by
  obtain ⟨t, b, off, pa, pn, pc, rfl, hb, _, _, _, _, _, c5, hp2, _, hg, _⟩ := h.at_ i (by rw [← h.length]; exact hi)
  have e := taAt_of hg
  rw [e] at hp
  have hpn : pn = t.pcs.length := hp2.length.symm
  obtain ⟨v, b1, off1, rfl, hb1, e1, e2, hpg, _⟩ := hp2.piece p (by omega)
  refine ⟨b, off, b1, off1, pn, pc, rfl, hb, hb1, by omega, by rw [e]; exact hpn, c5, ?_, ?_⟩
  · rw [e1]; unfold tkA pcA; rw [e, hpg]; rfl
  · rw [e2]; unfold lkA pcA; rw [e, hpg]; rfl
set_option maxRecDepth 10000 in
set_option maxHeartbeats 1000000 in
theorem locked_is {M : MPar} {w : World} {s : Ms} {i : Nat} {B : Bool} (hM : Mach M w s) (hR : RdRun M.w0 M.H M.R) (hO : MOk M.R s) (hi : i < M.R.L.length) (h : insB M.R.L s i = B) :
    Calls Try.prog 92 #[.pointer (some ⟨M.p, 0, none⟩), .int .i64 i] w fun e w' => e = .returned (.bool B) ∧ Below w.heap.size w w' := by
  obtain ⟨b, off, pb, po, pn, pc, e1, hb, hpb, hpn, hpl, k5, k0, k1⟩ := (hM.int hR).t.pcell hi (hO.pc i hi)
  have htn := (hM.int hR).t.length
  obtain ⟨j0, j1, j2, j3⟩ := hM.jcells hi
  have c0 := hM.c0
  have c8 := hM.c8
  rw [e1] at c0
  have hpz := World.block_lt_of_cell? w _ c0
  simp only [] at hpz
  have hiN : i < M.H.tN := by omega
  have hB : (decide (0 < (s.ja i).t) && decide (0 ≤ lkA M.R.L i (s.ja i).p)) = B := h
  obtain ⟨jp, hjp⟩ : ∃ x, (s.ja i).p = x := ⟨_, rfl⟩
  obtain ⟨jt, hjt⟩ : ∃ x, (s.ja i).t = x := ⟨_, rfl⟩
  obtain ⟨jd, hjd⟩ : ∃ x, (s.ja i).d = x := ⟨_, rfl⟩
  obtain ⟨js, hjs⟩ : ∃ x, (s.ja i).s = x := ⟨_, rfl⟩
  rw [hjp] at j0 k1 hpn hB
  rw [hjt] at j1 hB
  rw [hjd] at j2
  rw [hjs] at j3
  obtain ⟨lk, hlk⟩ : ∃ x, lkA M.R.L i jp = x := ⟨_, rfl⟩
  rw [hlk] at k1 hB
  obtain ⟨nL, hnL⟩ : ∃ x, M.R.L.length = x := ⟨_, rfl⟩
  rw [hnL] at c8 hi
  clear hM hR hO htn h hjp hjt hjd hjs hlk hnL k0 hpl
  by_cases q1 : 0 < jt
  · have q1' : decide (0 < (jt : Int)) = true := by simpa using q1
    have q1'' : decide (0 < jt) = true := by simpa using q1
    have q2 : decide (0 ≤ lk) = B := by rw [q1''] at hB; simpa using hB
    clear hB
    go_enter Try.func92, Try.ntmps92
    go_wp2_with (refine wp_region_later_lit (by kernel_rfl) (by kernel_rfl) ?_; (repeat (go_big_quiet_step (fail))); refine wpQuiet_nil ?_; intro w1 hb1)
    go_ret
    exact ⟨rfl, Below.then (by (repeat' (first | (with_reducible exact Below.refl _ _) | (with_reducible assumption) | (with_reducible refine Below.alloc ?_ ?_ _) | (with_reducible refine Below.drew ?_) | (with_reducible refine Below.draws ?_ _) | (with_reducible refine Below.setCell ?_ ?_ _) | (refine Below.then ?_ (by with_reducible assumption)) | go_size))) hb1⟩
  · have q1' : decide (0 < (jt : Int)) = false := by simpa using q1
    have q1'' : decide (0 < jt) = false := by simpa using q1
    obtain rfl : B = false := by rw [q1''] at hB; simpa using hB.symm
    clear hB
    go_enter Try.func92, Try.ntmps92
    go_wp2_with (refine wp_region_later_lit (by kernel_rfl) (by kernel_rfl) ?_; (repeat (go_big_quiet_step (fail))); refine wpQuiet_nil ?_; intro w1 hb1)
    go_ret
    exact ⟨rfl, Below.then (by (repeat' (first | (with_reducible exact Below.refl _ _) | (with_reducible assumption) | (with_reducible refine Below.alloc ?_ ?_ _) | (with_reducible refine Below.drew ?_) | (with_reducible refine Below.draws ?_ _) | (with_reducible refine Below.setCell ?_ ?_ _) | (refine Below.then ?_ (by with_reducible assumption)) | go_size))) hb1⟩
end Go.Proofs.Ytmahagcghpoekaa
namespace Go.Proofs.Ytmahagcghpoekaa
open Go.RowKit
set_option linter.unusedSimpArgs false
set_option linter.unusedVariables false
theorem cloneI_any (a : Option Addr) (n c : Nat) (xs : List Int) (w : World) (hn : n ≤ 1000) (hR : Rd w a n 1 (xs.map enc1)) (h0 : n = 0 → (a = none ∧ c = 0) ∨ ∃ ad, a = some ad) :
    Calls Try.prog 106 #[.slice a n c] w (OutN w.heap.size n 3 1 w (xs.flatMap enc1)) := by
  have hl := hR.length
  rcases a with _ | ad
  · obtain rfl : n = 0 := by
      rcases Nat.eq_zero_or_pos n with q | q
      · exact q
      · obtain ⟨b, off, q2, _⟩ := hR.at_ q; simp at q2
    rcases h0 rfl with ⟨_, rfl⟩ | ⟨ad, q⟩
    · obtain rfl : xs = [] := List.length_eq_zero_iff.1 hl
      have heq := Lib.run_eql_slice_nil (P := Try.prog) w 29 3 none 0 0 0 0 Try.underlying29
      go_enter Try.func106, Try.ntmps106
      go_wp2
      go_ret
      exact ⟨_, _, rfl, World.ownsRow_nil _ _ _ _, Below.refl _ _⟩
    · simp at q
  · have HR := Lib.hid hR
    have e1 := E1
    have HOW : Hid ((w.alloc (.cells #[] 3)).ownsRow w.heap.size 3 1 (.slice (some ⟨w.heap.size, 0, none⟩) 0 0) 0 []) := Lib.hid (World.ownsRow_lit w #[] 0 (Nat.le_refl _) (by decide) rfl)
    have heq := Lib.run_eql_slice_nil (P := Try.prog) w 29 3 (some ad) n c 0 0 Try.underlying29
    clear hR hl h0
    go_enter Try.func106, Try.ntmps106
    go_wp2_with (at_builtin; refine wpList_pushAll (B := w.heap.size) (n := 0) (xs := []) rfl _ _ _ rfl e1 enc1_len enc1_one rfl HOW.out rfl (HR.out.ext (by (repeat' (first | (with_reducible exact Below.refl _ _) | (with_reducible assumption) | (with_reducible refine Below.alloc ?_ ?_ _) | (with_reducible refine Below.drew ?_) | (with_reducible refine Below.draws ?_ _) | (with_reducible refine Below.setCell ?_ ?_ _) | (refine Below.then ?_ (by with_reducible assumption)) | go_size)))) (fun _ => .inr ⟨_, rfl⟩) (by omega) (by decide) (by simp) ?_; intro v2 w2 hown2 hv2 hb2)
    rw [Nat.zero_add, List.nil_append] at hown2
    obtain ⟨a', c', rfl⟩ := hv2
    rw [Nat.zero_add] at hown2 ⊢
    go_ret
    exact ⟨_, _, rfl, hown2, Below.trans (by (repeat' (first | (with_reducible exact Below.refl _ _) | (with_reducible assumption) | (with_reducible refine Below.alloc ?_ ?_ _) | (with_reducible refine Below.drew ?_) | (with_reducible refine Below.draws ?_ _) | (with_reducible refine Below.setCell ?_ ?_ _) | (refine Below.then ?_ (by with_reducible assumption)) | go_size))) hb2⟩
theorem Rd.dropK {w : World} {b off n k t : Nat} {α : Type} {f : α → List Value} {xs : List α} (h : Rd w (some ⟨b, off, none⟩) n k (xs.map f)) (ht : t ≤ n) : Rd w (some ⟨b, off + t * k, none⟩) (n - t) k ((xs.drop t).map f) := by
  have hl := h.length
  refine ⟨by simp; omega, Nat.le_trans (Nat.sub_le _ _) h.small, fun h0 => ?_⟩
  obtain ⟨b', off', e, hb, hc⟩ := h.at_ (by omega)
  simp at e
  obtain ⟨rfl, rfl⟩ := e
  refine ⟨b, off + t * k, rfl, hb, fun i hi j hj => ?_⟩
  have hi' : i < xs.length - t := by simpa using hi
  have := hc (t + i) (by simp; omega) j hj
  rw [show off + t * k + i * k + j = off + (t + i) * k + j by rw [Nat.add_mul]; omega, this]
  simp
/-- l[1:] -/
theorem slice_one {w : World} {b off n c : Nat} {xs : List Int} (h : Rd w (some ⟨b, off, none⟩) n 1 (xs.map enc1)) (hq : 1 ≤ n) (hnc : n ≤ c) :
    ∃ o m k, (∀ w', (Instr.slice 29 (.slice (some ⟨b, off, none⟩) n c) (some (.int .i64 1)) none none).run Try.prog w' = .ok (.slice (some ⟨b, o, none⟩) m k) w') ∧ Rd w (some ⟨b, o, none⟩) m 1 (xs.tail.map enc1) ∧ m + 1 = n := by
  have hl := h.length
  rw [← List.drop_one]
  by_cases hc : c = 1
  · refine ⟨off, n - 1, c - 1, fun w' => ?_, ?_, by omega⟩
    · rw [run_slice_l (P := Try.prog) w' 29 (some ⟨b, off, none⟩) n c (by kernel_rfl) .i64 1 (by omega) (by omega)]
      rw [show (Go.sizeOf (Try.prog.elem 29)).run Try.prog w' = .ok 1 w' by kernel_rfl]
      simp [Result.andThen, sliced, hc]
    · have : xs.drop 1 = [] := List.drop_of_length_le (by omega)
      rw [this, show n - 1 = 0 by omega]
      exact Rd.nil _ _ _
  · refine ⟨off + 1 * 1, n - 1, c - 1, fun w' => ?_, h.dropK hq, by omega⟩
    rw [run_slice_l (P := Try.prog) w' 29 (some ⟨b, off, none⟩) n c (by kernel_rfl) .i64 1 (by omega) (by omega)]
    rw [show (Go.sizeOf (Try.prog.elem 29)).run Try.prog w' = .ok 1 w' by kernel_rfl]
    simp [Result.andThen, sliced, Addr.add, hc]
theorem owns_cap {w : World} {B e k n c : Nat} {a : Option Addr} {xs : List Value} (h : w.ownsRow B e k (.slice a n c) n xs) : n ≤ c := by
  rcases h.2 with ⟨hv, h8⟩ | ⟨g, cap, cur, hv, _, _, h5, _⟩
  · omega
  · simp at hv; omega
/-- one row is laid anew in a new block -/
theorem IRows.fresh {B N : Nat} {w w' : World} {h X} (hR : IRows B w N h X) {i : Nat} (hi : i < N) (hb : Below w.heap.size w w') (hB : B ≤ w.heap.size) {d : Hdr} {q : List Int} (hown : w'.ownsRow w.heap.size 3 1 (sl d) d.n (q.flatMap enc1)) :
    IRows B w' N (updF h i d) (updF X i q) := by
  have hd : ∀ x, (sl d).ownBlock = some x → w.heap.size ≤ x := fun x hx => (hown.lt x hx).1
  have hlt : ∀ k, k < N → ∀ x, (sl (h k)).ownBlock = some x → x < w.heap.size := fun k hk x hx => ((hR.own k hk).lt x hx).2
  refine ⟨fun k hk => ?_, fun k j hk hj hkj => ?_⟩
  · by_cases e : k = i
    · subst e; rw [updF_same, updF_same]; exact owns_mono hown hB
    · rw [updF_other _ _ e, updF_other _ _ e]; exact owns_ext (hR.own k hk) hb
  · by_cases e : k = i
    · subst e
      rw [updF_same, updF_other _ _ (Ne.symm hkj)]
      cases ho : (sl d).ownBlock with
      | none => exact .inl rfl
      | some x =>
        right
        intro e2
        have h1 := hd x ho
        have h2 := hlt j hj x e2.symm
        omega
    · by_cases e2 : j = i
      · subst e2
        rw [updF_same, updF_other _ _ e]
        cases ho : (sl (h k)).ownBlock with
        | none => exact .inl rfl
        | some x =>
          right
          intro e3
          have h1 := hd x e3.symm
          have h2 := hlt k hk x ho
          omega
      · rw [updF_other _ _ e, updF_other _ _ e2]; exact hR.apart k j hk hj hkj
end Go.Proofs.Ytmahagcghpoekaa
namespace Go.Proofs.Ytmahagcghpoekaa
open Go.RowKit
set_option linter.unusedSimpArgs false
set_option linter.unusedVariables false
theorem encJ_p (j : Jb) (x : Nat) : encJ { j with p := x } = (encJ j).set 0 (.int .i64 x) := rfl
theorem encJ_t (j : Jb) (x : Nat) : encJ { j with t := x } = (encJ j).set 1 (.int .i64 x) := rfl
theorem encJ_d (j : Jb) (x : Nat) : encJ { j with d := x } = (encJ j).set 2 (.int .i64 x) := rfl
theorem encJ_s (j : Jb) (x : Bool) : encJ { j with s := x } = (encJ j).set 3 (.bool x) := rfl
theorem Mach.zero {M : MPar} {w : World} {s : Ms} (h : Mach M w s) (hl : MLay M) {i : Nat} (hi : i < M.R.L.length) :
    Mach M ((((w.setCell ⟨M.J, i * 4, none⟩ (.int .i64 0)).setCell ⟨M.J, i * 4 + 1, none⟩ (.int .i64 0)).setCell ⟨M.J, i * 4 + 2, none⟩ (.int .i64 0)).setCell ⟨M.J, i * 4 + 3, none⟩ (.bool false)) { s with j := s.j.set i Jb.zero } := by
  have hjl : i < s.j.length := by rw [h.jl]; exact hi
  have h0 := h.job hl hi (j := 0) (by decide) (encJ_p (s.ja i) 0)
  have h1 := h0.job hl hi (j := 1) (by decide) (encJ_t _ 0)
  have h2 := h1.job hl hi (j := 2) (by decide) (encJ_d _ 0)
  have h3 := h2.job hl hi (j := 3) (by decide) (encJ_s _ false)
  have e : ∀ (q : List (List Int)) (o : List En) (x : Jb), Ms.ja ⟨q, s.j.set i x, o⟩ i = x := fun q o x => by rw [ja_set hjl, if_pos rfl]
  simp only [List.set_set, e] at h3
  exact h3
set_option maxRecDepth 10000 in
set_option maxHeartbeats 2000000 in
theorem end_any {M : MPar} {w : World} {s : Ms} {i : Nat} (hl : MLay M) (hM : Mach M w s) (hi : i < M.R.L.length) (hq : s.qa i ≠ []) (hql : (s.qa i).length ≤ 100) (ho : s.o.length ≤ 2000000) (m how : Int) :
    Calls Try.prog 93 #[.pointer (some ⟨M.p, 0, none⟩), .int .i64 m, .int .i64 i, .int .i64 how] w fun e w' => e = .returned (.tuple #[]) ∧ Mach M w' (fin1 m i how s) := by
  have HM := Lib.hid hM; have HQ := Lib.hid hq
  clear hM hq
  go_enter Try.func93, Try.ntmps93
  go_wp2_with (first
    | (go_at_call 95; (with_reducible refine (event_any HM.out hi HQ.out).mono ?_); rintro e w1 ⟨rfl, rfl⟩)
    | (go_at_call 62; (with_reducible refine (write_any hl HM.out ho _ _ _ _ _).mono ?_); rintro e w2 ⟨rfl, hM2⟩; have HM2 := Lib.hid hM2; clear hM2))
  obtain ⟨s2, hs2⟩ : ∃ x, x = s.wr ⟨m, i, 5, s.hd i, how⟩ := ⟨_, rfl⟩
  rw [← hs2] at HM2
  have hqa : s2.qa i = s.qa i := by rw [hs2]; rfl
  obtain ⟨g, g1, g2⟩ := HM2.out.qu
  have c7 := HM2.out.c7
  have c := g1 i hi
  have hlen := g2.len hi
  have hown := g2.own i hi
  rw [hqa] at hlen hown
  have hn : 0 < (g i).n := by rw [← hlen]; exact List.length_pos_iff.2 HQ.out
  have hn100 : (g i).n ≤ 100 := by omega
  unfold sl at hown c
  obtain ⟨x, b, off, e, hb, _, _⟩ := (ownsI_rd hown).idx 0 hn
  have hRd := ownsI_rd hown
  have hcap := owns_cap hown
  rw [e] at c hRd
  obtain ⟨o1, m1, k1, hs1, hd1, hm1⟩ := slice_one (c := (g i).c) hRd hn hcap
  have hm100 : m1 ≤ 100 := by omega
  have HD := Lib.hid hd1
  have HD2 := Lib.hid (hd1.ext (Below.refl w2.heap.size w2).drew)
  have HG := Lib.hid g1
  have HGR := Lib.hid g2
  have HQA := Lib.hid hqa
  have hkl := HM2.out.kl
  have hWz : M.W < w2.heap.size := Nat.lt_of_lt_of_le hl.W.2 hkl
  have hpz : M.p < w2.heap.size := Nat.lt_of_lt_of_le hl.p.2 hkl
  have hfW := HM2.out.fw i
  obtain ⟨nL, hnL⟩ : ∃ x, M.R.L.length = x := ⟨_, rfl⟩
  have HNL := Lib.hid hnL
  rw [hnL] at c7 hi
  have HS2 := Lib.hid hs2
  clear hlen hown hRd g1 g2 hd1 hqa e hb hs2 hnL hn hcap
  go_cut [] (fun wx => ∃ (a2 : Option Addr) (c2 : Nat) (w3 : World), wx = w3.setCell ⟨M.W, i, none⟩ (.slice a2 m1 c2) ∧ w3.ownsRow w2.heap.size 3 1 (.slice a2 m1 c2) m1 ((s.qa i).tail.flatMap enc1) ∧ Below w2.heap.size w2 w3)
  case first =>
    go_region_with (go_at_call 106; (with_reducible refine (cloneI_any _ _ _ _ _ (by omega) HD2.out (fun _ => .inr ⟨_, rfl⟩)).mono ?_); rintro e w3 ⟨a2, c2, rfl, hown3, hb3⟩; have hb3' : Below w2.heap.size w2 w3 := Below.then (Below.refl w2.heap.size w2).drew hb3; have z7 := (hb3'.cell (p := ⟨M.p, 7, none⟩) hpz).trans c7; have zW := (hb3'.cell (p := ⟨M.W, i, none⟩) hWz).trans c; have zf := (hb3'.frozen (p := ⟨M.W, i, none⟩) hWz).trans hfW)
    all_goals
      go_wp2_with fail
      go_meet
      exact ⟨a2, c2, w3, rfl, by simpa using hown3, hb3'⟩
  case rest =>
    obtain ⟨a2, c2, w3, rfl, hown3, hb3⟩ := hcut
    have hM3 : Mach M (w3.setCell ⟨M.W, i, none⟩ (.slice a2 m1 c2)) { s2 with q := s2.q.set i (s.qa i).tail } := by
      refine HM2.out.queue hl (by rw [HNL.out]; exact hi) (hb3.mono hkl) (fun a m c hh => owns_ext hh hb3) HG.out (d := ⟨a2, m1, c2⟩) ?_
      exact HGR.out.fresh (by rw [HNL.out]; exact hi) hb3 hkl hown3
    obtain ⟨w4, hw4⟩ : ∃ x, x = w3.setCell ⟨M.W, i, none⟩ (.slice a2 m1 c2) := ⟨_, rfl⟩
    rw [← hw4] at hM3 ⊢
    have hin : i < M.R.L.length := by rw [HNL.out]; exact hi
    obtain ⟨j0, j1, j2, j3⟩ := hM3.jcells hin
    have c8 := hM3.c8
    rw [HNL.out] at c8
    have f0 := hM3.fj (i * 4)
    have f1 := hM3.fj (i * 4 + 1)
    have f2 := hM3.fj (i * 4 + 2)
    have f3 := hM3.fj (i * 4 + 3)
    have HM3 := Lib.hid hM3
    clear hM3 hw4 hown3 hb3 c c7 hs1 HD HD2 HG HGR hfW
    go_wp2
    go_end0
    refine ⟨rfl, ?_⟩
    have h9 := HM3.out.zero hl hin
    rw [HS2.out] at h9
    exact h9
end Go.Proofs.Ytmahagcghpoekaa
namespace Go.Proofs.Ytmahagcghpoekaa
open Go.RowKit
set_option linter.unusedSimpArgs false
set_option linter.unusedVariables false
/-- the ranks as the program lays them -/
def ofSet : Nat → List Int → List Int → List Int
  | _, O, [] => O
  | p, O, k :: ks => ofSet (p + 1) (O.set k.toNat (p : Int)) ks
theorem ofSet_len : ∀ (ks : List Int) (p : Nat) (O : List Int), (ofSet p O ks).length = O.length
  | [], _, _ => rfl
  | k :: ks, p, O => by rw [ofSet, ofSet_len ks]; simp
theorem ofSet_get {n : Nat} : ∀ (ks : List Int) (p : Nat) (O : List Int), O.length = n → ks.Nodup → (∀ k ∈ ks, 0 ≤ k ∧ k < n) → ∀ x : Nat, x < n → (ofSet p O ks)[x]? = if (x : Int) ∈ ks then some ((p + ks.idxOf (x : Int) : Nat) : Int) else O[x]?
  | [], p, O, _, _, _, x, _ => by simp [ofSet]
  | k :: ks, p, O, hO, hn, hk, x, hx => by
    obtain ⟨hn1, hn2⟩ := List.nodup_cons.1 hn
    rw [ofSet, ofSet_get ks (p + 1) _ (by simpa using hO) hn2 (fun j hj => hk j (by simp [hj])) x hx]
    obtain ⟨k0, k1⟩ := hk k (by simp)
    by_cases e : (x : Int) = k
    · subst e
      rw [if_neg hn1, if_pos (by simp)]
      rw [List.getElem?_set, if_pos (by simp), if_pos (by rw [hO]; exact hx)]
      simp
    · have e2 : k.toNat ≠ x := by omega
      rw [List.getElem?_set, if_neg e2]
      by_cases hm : (x : Int) ∈ ks
      · rw [if_pos hm, if_pos (by simp [hm]), List.idxOf_cons, show (k == (x : Int)) = false from by simpa using (fun (q : k = (x : Int)) => e q.symm)]
        simp; omega
      · rw [if_neg hm, if_neg (by simp [hm, e])]
theorem rank_nodup (L : List Ta) : (rankL L).Nodup := ((rank_perm L).nodup_iff).2 (idxs_nodup _)
theorem ofSet_eq (L : List Ta) : ofSet 0 (List.replicate L.length 0) (rankL L) = ofL L := by
  apply List.ext_getElem?
  intro x
  by_cases hx : x < L.length
  · have hm : (x : Int) ∈ rankL L := rank_mem.2 ⟨by omega, by omega⟩
    rw [ofSet_get (rankL L) 0 _ (by simp) (rank_nodup L) (fun k hk => rank_mem.1 hk) x hx, if_pos hm, ofL_get hx]
    have h1 : (rankL L).idxOf (x : Int) < (rankL L).length := List.idxOf_lt_length_iff.2 hm
    have h2 : (rankL L)[(rankL L).idxOf (x : Int)]? = some (x : Int) := by rw [List.getElem?_eq_getElem h1, List.getElem_idxOf]
    rw [rank_cnt h2, Nat.zero_add]
  · rw [List.getElem?_eq_none (by rw [ofSet_len]; simp; omega), List.getElem?_eq_none (by unfold ofL; simp [idxs_len]; omega)]
theorem ofSet_step {p : Nat} {O R ks : List Int} {k : Int} (h : ofSet p O (k :: ks) = R) : ofSet (p + 1) (O.set k.toNat p) ks = R := h
theorem layC_step {L : List Ta} {C R ks : List Int} {k : Int} (h : layC L C (k :: ks) = R) : layC L (layP k C (taAt L k).pcs) ks = R := h
theorem Rd.pc_at' {w : World} {a : Option Addr} {n : Nat} {ps : List P2} (h : Rd w a n 2 (ps.map enc2)) (k : Nat) (hk : k < n) : ∃ (x y : Int) (b off : Nat), a = some ⟨b, off, none⟩ ∧ b < w.heap.size ∧
    w.cell? ⟨b, off + k * 2, none⟩ = some (.int .i64 x) ∧ w.cell? ⟨b, off + k * 2 + 1, none⟩ = some (.int .i64 y) ∧ ps[k]? = some (x, y) ∧ Hid (ps.drop k = (x, y) :: ps.drop (k + 1)) := by
  obtain ⟨hl, b, off, rfl, hb, h1, h2⟩ := h.two k hk
  exact ⟨_, _, b, off, rfl, hb, h1, h2, List.getElem?_eq_getElem hl, List.drop_eq_getElem_cons hl⟩
abbrev rkV (a : Option Addr) (n c : Nat) (f : Nat → Int) : Value := .agg #[.slice a n c, .int .i64 (f 0), .int .i64 (f 1), .int .i64 (f 2), .int .i64 (f 3), .int .i64 (f 4), .int .i64 (f 5)]
/-- the boxes of the walk: the row of ranks, the struct's box q, the result's cell -/
structure RkW (w wr : World) (n q : Nat) (O C : List Int) : Prop where
  own : wr.ownsRow (w.heap.size + 1) 3 1 (.slice (some ⟨w.heap.size + 1, 0, none⟩) n n) n (O.flatMap enc1)
  q0 : w.heap.size + 1 < q
  q1 : q < wr.heap.size
  s0 : wr.cell? ⟨q, 0, none⟩ = some (.slice (some ⟨w.heap.size + 1, 0, none⟩) n n)
  cs : ∀ j, j < 6 → wr.cell? ⟨q, 1 + j, none⟩ = some (.int .i64 (cAt C j))
  fz : ∀ j, wr.frozen? ⟨q, j, none⟩ = false
  r0 : wr.cell? ⟨w.heap.size, 0, none⟩ = some (.slice none 0 0)
  rs : ∀ j, j < 6 → wr.cell? ⟨w.heap.size, 1 + j, none⟩ = some (.int .i64 0)
  rf : ∀ j, wr.frozen? ⟨w.heap.size, j, none⟩ = false
  cl : C.length = 6
theorem RkW.ext {w wr w' : World} {n q : Nat} {O C : List Int} (h : RkW w wr n q O C) (hb : Below wr.heap.size wr w') : RkW w w' n q O C :=
  have hq := h.q0
  have hq1 := h.q1
  ⟨owns_ext h.own hb, h.q0, Nat.lt_of_lt_of_le h.q1 hb.size, (hb.cell (p := ⟨q, 0, none⟩) hq1).trans h.s0, fun j hj => (hb.cell (p := ⟨q, 1 + j, none⟩) hq1).trans (h.cs j hj), fun j => (hb.frozen (p := ⟨q, j, none⟩) hq1).trans (h.fz j),
    (hb.cell (p := ⟨w.heap.size, 0, none⟩) (by simp only []; omega)).trans h.r0, fun j hj => (hb.cell (p := ⟨w.heap.size, 1 + j, none⟩) (by simp only []; omega)).trans (h.rs j hj), fun j => (hb.frozen (p := ⟨w.heap.size, j, none⟩) (by simp only []; omega)).trans (h.rf j), h.cl⟩
theorem addr_ne {b b' i j : Nat} (h : b ≠ b' ∨ i ≠ j) : (⟨b, i, none⟩ : Addr) ≠ ⟨b', j, none⟩ := by
  intro q; rcases h with h | h
  · exact h (congrArg Addr.block q)
  · exact h (congrArg Addr.off q)
theorem owns_setBox {w : World} {B e k m n c q j : Nat} {v : Value} {xs : List Value} (h : w.ownsRow B e k (.slice (some ⟨m, 0, none⟩) n c) n xs) (hq : m ≠ q) : (w.setCell ⟨q, j, none⟩ v).ownsRow B e k (.slice (some ⟨m, 0, none⟩) n c) n xs :=
  h.kept (row := some q) ⟨rfl, rfl, rfl, by simp [World.setCell], fun k _ hk => Below.heap_setCell _ _ _ _ (fun e => hk (by simp [e]))⟩ (Or.inr (by simpa [Value.ownBlock] using hq))
theorem RkW.setC {w wr : World} {n q : Nat} {O C : List Int} (h : RkW w wr n q O C) (m : Nat) (hm : m < 6) (x : Int) : RkW w (wr.setCell ⟨q, 1 + m, none⟩ (.int .i64 x)) n q O (C.set m x) := by
  have hq := h.q0
  have hcl := h.cl
  refine ⟨owns_setBox h.own (by omega), h.q0, by simpa using h.q1, (World.cell?_setCell_other _ _ _ _ (addr_ne (.inr (by omega)))).trans h.s0, fun j hj => ?_, fun j => by rw [World.frozen?_setCell]; exact h.fz j,
    (World.cell?_setCell_other _ _ _ _ (addr_ne (.inl (by omega)))).trans h.r0, fun j hj => (World.cell?_setCell_other _ _ _ _ (addr_ne (.inl (by omega)))).trans (h.rs j hj), fun j => by rw [World.frozen?_setCell]; exact h.rf j, by simpa using h.cl⟩
  by_cases e : j = m
  · subst e
    have h1 := h.cs j hj
    have h2 : cAt (C.set j x) j = x := by simp [cAt, List.getElem?_set, hcl, hj]
    rw [h2]
    exact World.cell?_setCell_same _ _ _ (by rw [h1])
  · have h2 : cAt (C.set m x) j = cAt C j := by
      unfold cAt; rw [List.getElem?_set, if_neg (fun q => e q.symm)]
    rw [h2]
    exact (World.cell?_setCell_other _ _ _ _ (addr_ne (.inr (by omega)))).trans (h.cs j hj)
theorem RkW.setO {w wr : World} {n q : Nat} {O C : List Int} (h : RkW w wr n q O C) (k : Nat) (x : Int) : RkW w (wr.setCell ⟨w.heap.size + 1, k, none⟩ (.int .i64 x)) n q (O.set k x) C := by
  have hq := h.q0
  exact ⟨ownsI_set h.own k x, h.q0, by simpa using h.q1, (World.cell?_setCell_other _ _ _ _ (addr_ne (.inl (by omega)))).trans h.s0, fun j hj => (World.cell?_setCell_other _ _ _ _ (addr_ne (.inl (by omega)))).trans (h.cs j hj), fun j => by rw [World.frozen?_setCell]; exact h.fz j,
    (World.cell?_setCell_other _ _ _ _ (addr_ne (.inl (by omega)))).trans h.r0, fun j hj => (World.cell?_setCell_other _ _ _ _ (addr_ne (.inl (by omega)))).trans (h.rs j hj), fun j => by rw [World.frozen?_setCell]; exact h.rf j, h.cl⟩
theorem RkW.alloc {w wr : World} {n q : Nat} {O C : List Int} (h : RkW w wr n q O C) (o : Obj) : RkW w (wr.alloc o) n q O C := h.ext (Below.alloc (Below.refl _ _) (Nat.le_refl _) o)
theorem rep_set {k : Nat} (hk : k < 6) : (List.replicate k (-1) ++ List.replicate (6 - k) (0 : Int)).set k (-1) = List.replicate (k + 1) (-1) ++ List.replicate (6 - (k + 1)) 0 := by
  match k, hk with
  | 0, _ => rfl
  | 1, _ => rfl
  | 2, _ => rfl
  | 3, _ => rfl
  | 4, _ => rfl
  | 5, _ => rfl
theorem cAt_six (j : Nat) (hj : j < 6) : cAt (List.replicate 0 (-1) ++ List.replicate (6 - 0) (0 : Int)) j = 0 := by
  match j, hj with
  | 0, _ => rfl
  | 1, _ => rfl
  | 2, _ => rfl
  | 3, _ => rfl
  | 4, _ => rfl
  | 5, _ => rfl
def OutK (w : World) (n : Nat) (L : List Ta) (e : Ending) (w' : World) : Prop :=
  ∃ a c, e = .returned (rkV a n c (fun k => ceilG L (k : Int))) ∧ w'.ownsRow w.heap.size 3 1 (.slice a n c) n ((ofL L).flatMap enc1) ∧ Below w.heap.size w w'
theorem six_cases {j : Nat} (h : j < 6) : j = 0 ∨ j = 1 ∨ j = 2 ∨ j = 3 ∨ j = 4 ∨ j = 5 := by omega
set_option maxRecDepth 10000 in
set_option maxHeartbeats 4000000 in
theorem ranksOf_any (a : Option Addr) (n c : Nat) (L : List Ta) (w : World) (hL : RdL w a n L) (hv : Right L) :
    Calls Try.prog 76 #[.slice a n c] w (OutK w n L) := by
  have hll := hL.length
  have hs := hL.small
  have h5 := hv.len
  rw [hll] at h5
  have HR := Lib.hid hL
  have HLL := Lib.hid hll
  have HV := Lib.hid hv
  obtain ⟨RO, hRO⟩ : ∃ R, ofL L = R := ⟨_, rfl⟩
  obtain ⟨RC, hRC⟩ : ∃ R, layC L (List.replicate 6 (-1)) (rankL L) = R := ⟨_, rfl⟩
  obtain ⟨rk, hrk⟩ : ∃ R, rankL L = R := ⟨_, rfl⟩
  have HOS : Hid (ofSet 0 (List.replicate n 0) (rk.drop 0) = RO) := Lib.hid (by rw [← hRO, ← ofSet_eq, hll, hrk]; rfl)
  have HCS : Hid (layC L (List.replicate 6 (-1)) (rk.drop 0) = RC) := Lib.hid (by rw [← hRC, hrk]; rfl)
  have HCE : Hid (∀ j, j < 6 → cAt RC j = ceilG L (j : Int)) := Lib.hid (fun j hj => by rw [← hRC]; exact layC_ceil hj)
  have HRM : Hid (∀ k ∈ rk, 0 ≤ k ∧ k < n) := Lib.hid (fun k hk => by rw [← hrk] at hk; have := rank_mem.1 hk; rw [hll] at this; exact this)
  have HRL : Hid (rk.length = n) := Lib.hid (by rw [← hrk, rank_len, hll])
  have HRK := Lib.hid hrk
  have HRO := Lib.hid hRO
  clear hL hll hv hrk hRO hRC
  go_enter Try.func76, Try.ntmps76
  go_wp2_with (at_make; refine wpList_mkI rfl _ _ rfl n rfl rfl rfl rfl (by omega) (Nat.le_refl _) ?_; intro w1 hown1 hb1 hlt1; have HO1 := Lib.hid hown1; have HB1 := Lib.hid hb1; have r0 : w1.cell? ⟨w.heap.size, 0, none⟩ = some (.slice none 0 0) := (hb1.cell (p := ⟨w.heap.size, 0, none⟩) (by simp)).trans (by simp [go_sem]); have rs : ∀ j, j < 6 → w1.cell? ⟨w.heap.size, 1 + j, none⟩ = some (.int .i64 0) := (fun j hj => (hb1.cell (p := ⟨w.heap.size, 1 + j, none⟩) (by simp)).trans (by rcases six_cases hj with rfl | rfl | rfl | rfl | rfl | rfl <;> simp [go_sem])); have rf : ∀ j, w1.frozen? ⟨w.heap.size, j, none⟩ = false := (fun j => (hb1.frozen (p := ⟨w.heap.size, j, none⟩) (by simp)).trans (by simp [go_sem])); have R0 := Lib.hid r0; have RS := Lib.hid rs; have RF := Lib.hid rf; clear hown1 hb1 r0 rs rf)
  simp only [World.size_alloc] at HO1 HB1 hlt1
  have hb0 : Below w.heap.size w w1 := Below.trans (by (repeat' (first | (with_reducible exact Below.refl _ _) | (with_reducible assumption) | (with_reducible refine Below.alloc ?_ ?_ _) | (with_reducible refine Below.drew ?_) | (with_reducible refine Below.draws ?_ _) | (with_reducible refine Below.setCell ?_ ?_ _) | (refine Below.then ?_ (by with_reducible assumption)) | go_size))) (HB1.out.mono (by simp))
  have HB0 := Lib.hid hb0
  have HW : Hid (RkW w (w1.alloc (.cells #[.slice (some ⟨w.heap.size + 1, 0, none⟩) n n, .int .i64 0, .int .i64 0, .int .i64 0, .int .i64 0, .int .i64 0, .int .i64 0] 127)) n w1.heap.size (List.replicate n 0) (List.replicate 0 (-1) ++ List.replicate (6 - 0) 0)) := by
    have hba : Below w1.heap.size w1 (w1.alloc (.cells #[.slice (some ⟨w.heap.size + 1, 0, none⟩) n n, .int .i64 0, .int .i64 0, .int .i64 0, .int .i64 0, .int .i64 0, .int .i64 0] 127)) := Below.alloc (Below.refl _ _) (Nat.le_refl _) _
    refine Lib.hid ⟨owns_ext HO1.out hba, hlt1, by simp, by simp [go_sem], fun j hj => ?_, fun j => by simp [go_sem], (hba.cell (p := ⟨w.heap.size, 0, none⟩) (by simp only []; omega)).trans R0.out, fun j hj => (hba.cell (p := ⟨w.heap.size, 1 + j, none⟩) (by simp only []; omega)).trans (RS.out j hj), fun j => (hba.frozen (p := ⟨w.heap.size, j, none⟩) (by simp only []; omega)).trans (RF.out j), rfl⟩
    rw [cAt_six j hj]
    rcases six_cases hj with rfl | rfl | rfl | rfl | rfl | rfl <;> simp [go_sem]
  clear hb0 R0 RS RF HO1
  obtain ⟨q, hq⟩ : ∃ q, q = w1.heap.size := ⟨_, rfl⟩
  rw [← hq] at HW ⊢
  clear hq
  go_loopw [13] (fun i wr => ∃ k : Nat, k ≤ 6 ∧ i = .int .i64 k ∧ RkW w wr n q (List.replicate n 0) (List.replicate k (-1) ++ List.replicate (6 - k) 0) ∧ Below w.heap.size w wr) (fun i _ => 6 - (intOf i).toNat)
  case atStart => exact ⟨0, Nat.zero_le _, rfl, HW.out, Below.alloc HB0.out (by omega) _⟩
  case round =>
    clear HW
    obtain ⟨k, hk, rfl, hW, hB⟩ := hrel
    have HW := Lib.hid hW; have HB := Lib.hid hB
    have hq0 := hW.q0
    clear hW hB
    by_cases hlt : k < 6
    · have c0 := HW.out.cs k hlt
      have f0 := HW.out.fz (1 + k)
      go_wp2_with (first | go_region)
      go_roundw
      case rel => exact ⟨k + 1, by omega, by go_num, by have := HW.out.setC k hlt (-1); rw [rep_set hlt] at this; exact this, HB.out.setCell (p := ⟨q, 1 + k, none⟩) (by simp only []; omega) _⟩
      case measure => simp [intOf]; omega
    · obtain rfl : k = 6 := by omega
      have HW2 : Hid (RkW w wr n q (List.replicate n 0) (List.replicate 6 (-1))) := Lib.hid (by have := HW.out; simpa using this)
      clear HW
      go_wp2_with (go_at_call 43; (with_reducible refine (ranked_any _ _ _ L _ (HR.out.ext HB.out) (by omega)).mono ?_); rw [HRK.out]; rintro e w2 ⟨a2, c2, rfl, ho2, hb2⟩; have HO2 := Lib.hid ho2; have B2 := Lib.hid hb2; clear ho2 hb2)
      have hB2 : Below w.heap.size w w2 := Below.then HB.out B2.out
      have HB2 := Lib.hid hB2
      have HWW := Lib.hid (HW2.out.ext B2.out)
      obtain ⟨bk, hbk⟩ : ∃ b, b = wr.heap.size := ⟨_, rfl⟩
      rw [← hbk] at HO2
      have hqb : q < bk := by rw [hbk]; exact HW2.out.q1
      clear hB2 hbk B2 HB HW2
      go_loopw [23] (fun i wr => ∃ (p : Nat) (O C : List Int), p ≤ n ∧ i = .int .i64 p ∧ RkW w wr n q O C ∧ wr.ownsRow bk 3 1 (.slice a2 n c2) n (rk.flatMap enc1) ∧ ofSet p O (rk.drop p) = RO ∧ layC L C (rk.drop p) = RC ∧ Below w.heap.size w wr) (fun i _ => n - (intOf i).toNat)
      case atStart => exact ⟨0, _, _, Nat.zero_le _, rfl, HWW.out, HO2.out, HOS.out, HCS.out, HB2.out⟩
      case round =>
        clear HWW HO2 HB2 HOS HCS
        obtain ⟨p, O, C, hp, rfl, hW, ho, he1, he2, hB⟩ := hrel
        have HW := Lib.hid hW; have HO := Lib.hid ho; have HE1 := Lib.hid he1; have HE2 := Lib.hid he2; have HB := Lib.hid hB
        have hol := (ownsI_rd hW.own).length
        have hq1 := hW.q1
        clear hW ho he1 he2 hB
        by_cases hlt : p < n
        · obtain ⟨x, b2, o2, rfl, hb2, hc2, hx2⟩ := (ownsI_rd HO.out).idx p hlt
          have hxm := HRM.out x (List.mem_of_getElem? hx2)
          obtain ⟨k, rfl⟩ := Int.eq_ofNat_of_zero_le hxm.1
          have hkn : k < n := by omega
          have hrd : rk.drop p = (k : Int) :: rk.drop (p + 1) := by obtain ⟨h1, h2⟩ := List.getElem?_eq_some_iff.1 hx2; rw [List.drop_eq_getElem_cons h1, h2]
          obtain ⟨u, b, off, pa, pn, pc, rfl, hb, _, _, _, _, _, c5, hpc, _, hg, _⟩ := HR.out.at_ k hkn
          have d5 : ∀ wx : World, Below w.heap.size w wx → wx.cell? ⟨b, off + k * 6 + 5, none⟩ = some (.slice pa pn pc) := fun wx h => (h.cell (p := ⟨b, off + k * 6 + 5, none⟩) hb).trans c5
          have D5 := Lib.hid d5
          have hE1 := HE1.out
          rw [hrd] at hE1
          have hE2 := HE2.out
          rw [hrd] at hE2
          have hE1' := ofSet_step hE1
          have hE2' := layC_step hE2
          rw [taAt_of hg] at hE2'
          rw [Int.toNat_natCast] at hE1'
          have HE3 := Lib.hid hE1'
          have HE4 := Lib.hid hE2'
          have hps := hpc.small
          have HPL := Lib.hid hpc.length
          have HP := Lib.hid hpc
          have HPV : Hid (∀ v ∈ u.pcs, -1 ≤ v.2 ∧ v.2 ≤ 5) := Lib.hid (fun v hv => (HV.out.piece u (List.mem_of_getElem? hg) v hv).2)
          obtain ⟨y0, _, hcy, hfy, _⟩ := ownsI_at HW.out.own k hkn
          have s0 := HW.out.s0
          obtain ⟨CE, hCE⟩ : ∃ CE, layP k C u.pcs = CE := ⟨_, rfl⟩
          rw [hCE] at HE4
          have HLP : Hid (layP k C (u.pcs.drop 0) = CE) := Lib.hid hCE
          have HW3 := Lib.hid (HW.out.setO k p)
          have HO3 := Lib.hid (owns_far (q := w.heap.size + 1) (j := k) HO.out (Nat.lt_trans HW.out.q0 hqb) (.int .i64 p))
          have HB3 := Lib.hid (HB.out.setCell (p := ⟨w.heap.size + 1, k, none⟩) (by simp) (.int .i64 p))
          have c5' := d5 _ HB3.out
          clear hx2 hrd hg hE1 hE2 hE1' hE2' hpc c5 HE1 HE2 hCE HW HO HB d5
          go_wp2_with (first | go_region)
          go_loopw [39] (fun i wr => ∃ (j : Nat) (C : List Int), j ≤ pn ∧ i = .int .i64 j ∧ RkW w wr n q (O.set k p) C ∧ wr.ownsRow bk 3 1 (.slice (some ⟨b2, o2, none⟩) n c2) n (rk.flatMap enc1) ∧ layP k C (u.pcs.drop j) = CE ∧ Below w.heap.size w wr) (fun i _ => pn - (intOf i).toNat)
          case atStart => exact ⟨0, C, Nat.zero_le _, rfl, HW3.out, HO3.out, HLP.out, HB3.out⟩
          case round =>
            clear HW3 HO3 HB3 HLP
            obtain ⟨j, C, hj, rfl, hW, ho, he, hB⟩ := hrel
            have HW := Lib.hid hW; have HO := Lib.hid ho; have HE := Lib.hid he; have HB := Lib.hid hB
            have hq1 := hW.q1
            have hq0 := hW.q0
            clear hW ho he hB
            by_cases hjt : j < pn
            · obtain ⟨x, y, b1, off1, rfl, hbb, e1, e2, hpg, HD⟩ := (HP.out.ext HB.out).pc_at' j hjt
              have hE := HE.out
              rw [HD.out, layP] at hE
              simp only [] at hE
              have hyv := HPV.out (x, y) (List.mem_of_getElem? hpg)
              simp only [] at hyv
              clear hpg HD
              by_cases p1 : 0 ≤ y
              · obtain ⟨m, rfl⟩ := Int.eq_ofNat_of_zero_le p1
                have hm6 : m < 6 := by omega
                rw [Int.toNat_natCast] at hE
                have cm := HW.out.cs m hm6
                have fm := HW.out.fz (1 + m)
                obtain ⟨z, hz⟩ : ∃ z, cAt C m = z := ⟨_, rfl⟩
                have hz' : (C[m]?).getD 0 = z := hz
                rw [hz'] at hE
                rw [hz] at cm
                clear hz hz'
                by_cases p2 : z < 0
                · rw [if_pos ⟨p1, p2⟩] at hE
                  have HE5 := Lib.hid hE
                  clear hE HE
                  go_wp2_with (first | go_region)
                  go_roundw
                  case rel => exact ⟨j + 1, C.set m k, by omega, by go_num, (HW.out.setC m hm6 k).alloc _, owns_ext (owns_far HO.out hqb _) (Below.alloc (Below.refl _ _) (Nat.le_refl _) _), HE5.out, Below.alloc (HB.out.setCell (p := ⟨q, 1 + m, none⟩) (by simp only []; omega) _) (by simpa using HB.out.size) _⟩
                  case measure => simp [intOf]; omega
                · have p2' : decide (z < 0) = false := by simpa using p2
                  rw [if_neg (fun q => p2 q.2)] at hE
                  have HE5 := Lib.hid hE
                  clear hE HE
                  go_wp2_with (first | go_region)
                  go_roundw
                  case rel => exact ⟨j + 1, C, by omega, by go_num, HW.out.alloc _, owns_ext HO.out (Below.alloc (Below.refl _ _) (Nat.le_refl _) _), HE5.out, Below.alloc HB.out HB.out.size _⟩
                  case measure => simp [intOf]; omega
              · have p1' : decide (0 ≤ y) = false := by simpa using p1
                rw [if_neg (fun q => p1 q.1)] at hE
                have HE5 := Lib.hid hE
                clear hE HE
                go_wp2_with (first | go_region)
                go_roundw
                case rel => exact ⟨j + 1, C, by omega, by go_num, HW.out.alloc _, owns_ext HO.out (Below.alloc (Below.refl _ _) (Nat.le_refl _) _), HE5.out, Below.alloc HB.out HB.out.size _⟩
                case measure => simp [intOf]; omega
            · have hE := HE.out
              rw [drop_end HPL.out (by omega), layP] at hE
              subst hE
              go_wp2
              go_roundw
              case rel => exact ⟨p + 1, _, _, by omega, by go_num, HW.out, HO.out, HE3.out, HE4.out, HB.out⟩
              case measure => simp [intOf]; omega
        · have hE1 := HE1.out
          have hE2 := HE2.out
          rw [List.drop_of_length_le (by have := HRL.out; omega)] at hE1 hE2
          have e1 : O = RO := hE1
          have e2 : C = RC := hE2
          subst e1 e2
          have c0 := HW.out.s0
          have d0 := HW.out.r0
          have c1 := HW.out.cs 0 (by omega)
          have c2 := HW.out.cs 1 (by omega)
          have c3 := HW.out.cs 2 (by omega)
          have c4 := HW.out.cs 3 (by omega)
          have c5 := HW.out.cs 4 (by omega)
          have c6 := HW.out.cs 5 (by omega)
          have d1 := HW.out.rs 0 (by omega)
          have d2 := HW.out.rs 1 (by omega)
          have d3 := HW.out.rs 2 (by omega)
          have d4 := HW.out.rs 3 (by omega)
          have d5 := HW.out.rs 4 (by omega)
          have d6 := HW.out.rs 5 (by omega)
          have f0 := HW.out.rf 0
          have f1 := HW.out.rf 1
          have f2 := HW.out.rf 2
          have f3 := HW.out.rf 3
          have f4 := HW.out.rf 4
          have f5 := HW.out.rf 5
          have f6 := HW.out.rf 6
          simp only [Nat.reduceAdd] at c1 c2 c3 c4 c5 c6 d1 d2 d3 d4 d5 d6
          rw [HCE.out 0 (by omega)] at c1
          rw [HCE.out 1 (by omega)] at c2
          rw [HCE.out 2 (by omega)] at c3
          rw [HCE.out 3 (by omega)] at c4
          rw [HCE.out 4 (by omega)] at c5
          rw [HCE.out 5 (by omega)] at c6
          go_wp2
          refine bodyPost_ret (v := rkV (some ⟨w.heap.size + 1, 0, none⟩) n n (fun k => ceilG L (k : Int))) (by simp [results, Try.results76, go_sem, d0, d1, d2, d3, d4, d5, d6]) rfl ⟨_, _, rfl, ?_, ?_⟩
          · rw [HRO.out]
            have hne : w.heap.size + 1 ≠ w.heap.size := by omega
            exact owns_mono (owns_setBox (owns_setBox (owns_setBox (owns_setBox (owns_setBox (owns_setBox (owns_setBox HW.out.own hne) hne) hne) hne) hne) hne) hne) (Nat.le_succ _)
          · exact ((((((HB.out.setCell (Nat.le_refl _) _).setCell (Nat.le_refl _) _).setCell (Nat.le_refl _) _).setCell (Nat.le_refl _) _).setCell (Nat.le_refl _) _).setCell (Nat.le_refl _) _).setCell (Nat.le_refl _) _
end Go.Proofs.Ytmahagcghpoekaa
namespace Go.Proofs.Ytmahagcghpoekaa
open Go.RowKit
set_option linter.unusedSimpArgs false
set_option linter.unusedVariables false
theorem below_al {w w' : World} (h : Below w.heap.size w w') (o : Obj) : Below w.heap.size w (w'.alloc o) := Below.alloc h h.size o
theorem ranked_is {a : Option Addr} {n c : Nat} {L : List Ta} {w : World} {rk : List Int} (hL : RdL w a n L) (hn : n < 20) (h : rankL L = rk) : Calls Try.prog 43 #[.slice a n c] w (OutN w.heap.size n 3 1 w (rk.flatMap enc1)) := by subst h; exact ranked_any a n c L w hL hn
theorem isTask_any (a : Option Addr) (n c : Nat) (L : List Ta) (t : Int) (w : World) (hL : RdL w a n L) :
    Calls Try.prog 44 #[.slice a n c, .int .i64 t] w fun e w' => e = .returned (.bool (isTk L t)) ∧ Below w.heap.size w w' := by
  have hll := hL.length
  have hs := hL.small
  have HR := Lib.hid hL
  unfold isTk
  rw [hll]
  cases hv : rightB L
  all_goals
    have HV := Lib.hid hv
    have q2 : inB t 0 ((n : Int) - 1) = (decide (0 ≤ t) && decide (t < n)) := by rw [inB_eq]; congr 1; rw [decide_eq_decide]; omega
    rw [q2]
    clear hL hv hll q2
    go_enter Try.func44, Try.ntmps44
    go_wp2_with (go_at_call 42; (with_reducible refine (right_is HR.out HV.out).mono ?_); rintro e w1 ⟨rfl, hb1⟩)
    all_goals
      go_ret
      exact ⟨ret_bool (by simp [*] <;> (first | omega | (intros; omega))), by (repeat' (first | (with_reducible exact Below.refl _ _) | (with_reducible assumption) | (with_reducible refine Below.alloc ?_ ?_ _) | (with_reducible refine Below.drew ?_) | (with_reducible refine Below.draws ?_ _) | (with_reducible refine Below.setCell ?_ ?_ _) | (refine Below.then ?_ (by with_reducible assumption)) | go_size))⟩
theorem isTask_is {a : Option Addr} {n c : Nat} {L : List Ta} {t : Int} {w : World} {b : Bool} (hL : RdL w a n L) (h : isTk L t = b) :
    Calls Try.prog 44 #[.slice a n c, .int .i64 t] w fun e w' => e = .returned (.bool b) ∧ Below w.heap.size w w' := by subst h; exact isTask_any a n c L t w hL
theorem Ranks_any (a : Option Addr) (n c : Nat) (L : List Ta) (w : World) (hL : RdL w a n L) :
    Calls Try.prog 15 #[.slice a n c] w (OutTE w.heap.size w (ranksR L).1 (ranksR L).2) := by
  have hll := hL.length
  have HR := Lib.hid hL
  unfold ranksR
  cases hv : rightB L
  · have HV := Lib.hid hv
    clear hL hv hll
    go_enter Try.func15, Try.ntmps15
    go_wp2_with (go_at_call 42; (with_reducible refine (right_is HR.out HV.out).mono ?_); rintro e w1 ⟨rfl, hb1⟩)
    go_ret2
    exact .none (by (repeat' (first | (with_reducible exact Below.refl _ _) | (with_reducible assumption) | (with_reducible refine Below.alloc ?_ ?_ _) | (with_reducible refine Below.drew ?_) | (with_reducible refine Below.draws ?_ _) | (with_reducible refine Below.setCell ?_ ?_ _) | (refine Below.then ?_ (by with_reducible assumption)) | go_size)))
  · have HV := Lib.hid hv
    have h5 := (right_of hv).len
    rw [hll] at h5
    rw [if_pos rfl]
    obtain ⟨rk, hrk⟩ : ∃ R, rankL L = R := ⟨_, rfl⟩
    have HRK := Lib.hid hrk
    simp only []
    rw [hrk]
    clear hL hv hll hrk
    go_enter Try.func15, Try.ntmps15
    go_wp2_with (first
      | (go_at_call 42; (with_reducible refine (right_is HR.out HV.out).mono ?_); rintro e w1 ⟨rfl, hb1⟩; have B1 := Lib.hid hb1; clear hb1)
      | (go_at_call 43; (with_reducible refine (ranked_is (HR.out.ext B1.out) (by omega) HRK.out).mono ?_); rintro e w2 ⟨a2, c2, rfl, ho2, hb2⟩; have HO2 := Lib.hid ho2; have B2 := Lib.hid hb2; clear ho2 hb2))
    go_ret2
    exact ⟨_, _, _, rfl, owns_mono HO2.out B1.out.size, (by repeat (first | (with_reducible exact Below.refl _ _) | (refine Below.then ?_ (Hid.out (by with_reducible assumption)))))⟩
theorem OutK_eq {w : World} {n : Nat} {L : List Ta} {f : Nat → Int} (hf : f = fun (k : Nat) => ceilG L (k : Int)) : OutK w n L = fun e w' => ∃ a c, e = .returned (.agg #[.slice a n c, .int .i64 (f 0), .int .i64 (f 1), .int .i64 (f 2), .int .i64 (f 3), .int .i64 (f 4), .int .i64 (f 5)]) ∧ w'.ownsRow w.heap.size 3 1 (.slice a n c) n ((ofL L).flatMap enc1) ∧ Below w.heap.size w w' := by subst hf; rfl
def OutRE (w : World) (xs : List Int) (er : Int) (e : Ending) (w' : World) : Prop :=
  ∃ a n c, e = .returned (.tuple #[.slice a n c, .int .i64 er]) ∧ Rd w' a n 1 (xs.map enc1) ∧ Below w.heap.size w w'
theorem rd_six {w : World} {q : Nat} {xs : List Int} (hl : xs.length = 6) (hq : q < w.heap.size) (hc : ∀ j, j < 6 → ∃ x, xs[j]? = some x ∧ w.cell? ⟨q, 1 + j, none⟩ = some (.int .i64 x)) : Rd w (some ⟨q, 1, none⟩) 6 1 (xs.map enc1) := by
  refine ⟨by simp [hl], by omega, fun _ => ⟨q, 1, rfl, hq, ?_⟩⟩
  intro k hk i hi
  have h6 : k < 6 := by simpa [hl] using hk
  obtain ⟨x, hx, h⟩ := hc k h6
  obtain ⟨h1, h2⟩ := List.getElem?_eq_some_iff.1 hx
  obtain rfl : i = 0 := by simp [enc1] at hi; exact hi
  simp [enc1, h, h2]
theorem rk_field (a : Option Addr) (n c : Nat) (x0 x1 x2 x3 x4 x5 : Int) (w : World) :
    (Instr.field 127 (.agg #[.slice a n c, .int .i64 x0, .int .i64 x1, .int .i64 x2, .int .i64 x3, .int .i64 x4, .int .i64 x5]) 1).run Try.prog w = .ok (.agg #[.int .i64 x0, .int .i64 x1, .int .i64 x2, .int .i64 x3, .int .i64 x4, .int .i64 x5]) w := by
  kernel_rfl
theorem rk_index (f : Nat → Int) (m : Nat) (hm : m < 6) (w : World) :
    (Instr.index 125 (.agg #[.int .i64 (f 0), .int .i64 (f 1), .int .i64 (f 2), .int .i64 (f 3), .int .i64 (f 4), .int .i64 (f 5)]) (.int .i64 (m : Int))).run Try.prog w = .ok (.int .i64 (f m)) w := by
  rcases six_cases hm with rfl | rfl | rfl | rfl | rfl | rfl <;> kernel_rfl
set_option maxRecDepth 10000 in
set_option maxHeartbeats 1000000 in
theorem Raised_any (a : Option Addr) (n c : Nat) (L : List Ta) (t p : Int) (w : World) (hL : RdL w a n L) :
    Calls Try.prog 116 #[.slice a n c, .int .i64 t, .int .i64 p] w fun e w' => e = rII (raisedR L t p).1 (raisedR L t p).2 ∧ Below w.heap.size w w' := by
  have hll := hL.length
  have hs := hL.small
  have HR := Lib.hid hL
  unfold raisedR
  cases hv : isTk L t
  · have HV := Lib.hid hv
    rw [Bool.false_and]
    clear hL hv hll
    go_enter Try.func116, Try.ntmps116
    go_wp2_with (go_at_call 44; (with_reducible refine (isTask_is HR.out HV.out).mono ?_); rintro e w1 ⟨rfl, hb1⟩; have B1 := Lib.hid hb1; clear hb1)
    go_ret2
    exact ⟨rII_eq rfl rfl, B1.out⟩
  · have HV := Lib.hid hv
    rw [Bool.true_and]
    obtain ⟨hr, h0, h1⟩ := isTk_iff.1 hv
    have HVR := Lib.hid (right_of hr)
    rw [hll] at h1
    obtain ⟨q, rfl⟩ := Int.eq_ofNat_of_zero_le h0
    have hqn : q < n := by omega
    obtain ⟨u, b, off, pa, pn, pc, rfl, hb, _, _, _, _, _, c5, hp, _, hg, _⟩ := hL.at_ q hqn
    rw [taAt_of hg, hp.length]
    have hps := hp.small
    have C5 : Hid (∀ w1 : World, Below w.heap.size w w1 → w1.cell? ⟨b, off + q * 6 + 5, none⟩ = some (.slice pa pn pc)) := Lib.hid (fun w1 h => (h.cell (p := ⟨b, off + q * 6 + 5, none⟩) hb).trans c5)
    by_cases h2 : p < 0
    · rw [if_neg (by rw [inB_iff]; omega)]
      clear hL hv hll hg hp c5
      go_enter Try.func116, Try.ntmps116
      go_wp2_with (go_at_call 44; (with_reducible refine (isTask_is HR.out HV.out).mono ?_); rintro e w1 ⟨rfl, hb1⟩; have B1 := Lib.hid hb1; have c5 := C5.out _ hb1; clear hb1)
      go_ret2
      exact ⟨rII_eq rfl rfl, B1.out⟩
    · have h2' : decide (p < 0) = false := by simpa using h2
      by_cases h3 : (pn : Int) ≤ p
      · rw [if_neg (by rw [inB_iff]; omega)]
        clear hL hv hll hg hp c5
        go_enter Try.func116, Try.ntmps116
        go_wp2_with (go_at_call 44; (with_reducible refine (isTask_is HR.out HV.out).mono ?_); rintro e w1 ⟨rfl, hb1⟩; have B1 := Lib.hid hb1; have c5 := C5.out _ hb1; clear hb1)
        go_ret2
        exact ⟨rII_eq rfl rfl, B1.out⟩
      · obtain ⟨j, rfl⟩ := Int.eq_ofNat_of_zero_le (Int.not_lt.1 h2)
        have hjn : j < pn := by omega
        have h3' : decide ((pn : Int) ≤ (j : Int)) = false := by simpa using h3
        have h3'' : decide (pn ≤ j) = false := by simp; omega
        obtain ⟨v, b1, off1, rfl, hb1, e1, e2, hpg, _⟩ := hp.piece j hjn
        have hyv := (HVR.out.piece u (List.mem_of_getElem? hg) v (List.mem_of_getElem? hpg)).2
        rw [if_pos (by rw [inB_iff]; omega), Int.toNat_natCast, hpg]
        obtain ⟨x, y⟩ := v
        have E2 : Hid (∀ w1 : World, Below w.heap.size w w1 → w1.cell? ⟨b1, off1 + j * 2 + 1, none⟩ = some (.int .i64 y)) := Lib.hid (fun w1 h => (h.cell (p := ⟨b1, off1 + j * 2 + 1, none⟩) hb1).trans e2)
        have E1 : Hid (∀ w1 : World, Below w.heap.size w w1 → w1.cell? ⟨b1, off1 + j * 2, none⟩ = some (.int .i64 x)) := Lib.hid (fun w1 h => (h.cell (p := ⟨b1, off1 + j * 2, none⟩) hb1).trans e1)
        simp only [Option.getD_some] at hyv ⊢
        clear hL hv hll hg hp c5 e1 e2 hpg
        by_cases h4 : y < 0
        · rw [if_pos h4]
          have h4' : decide (0 ≤ y) = false := by simpa using h4
          go_enter Try.func116, Try.ntmps116
          go_wp2_with (go_at_call 44; (with_reducible refine (isTask_is HR.out HV.out).mono ?_); rintro e w1 ⟨rfl, hb1⟩; have B1 := Lib.hid hb1; have c5 := C5.out _ hb1; have c6 := E2.out _ hb1; have c7 := E1.out _ hb1; clear hb1)
          go_ret2
          exact ⟨rII_eq rfl rfl, below_al (by repeat (first | (with_reducible exact Below.refl _ _) | (refine Below.then ?_ (Hid.out (by with_reducible assumption))))) _⟩
        · rw [if_neg h4]
          obtain ⟨m, rfl⟩ := Int.eq_ofNat_of_zero_le (show 0 ≤ y by omega)
          have hm6 : m < 6 := by omega
          obtain ⟨f, hf⟩ : ∃ f : Nat → Int, f = fun (k : Nat) => ceilG L (k : Int) := ⟨_, rfl⟩
          have HF := Lib.hid hf
          have hfm : ceilG L (m : Int) = f m := by rw [hf]
          rw [hfm]
          clear hfm hf
          go_enter Try.func116, Try.ntmps116
          have hfl := rk_field
          have hix := rk_index f m hm6
          go_upto_region 5 with (go_at_call 44; (with_reducible refine (isTask_is HR.out HV.out).mono ?_); rintro e w1 ⟨rfl, hb1⟩; have B1 := Lib.hid hb1; have c5 := C5.out _ hb1; have c6 := E2.out _ hb1; have c7 := E1.out _ hb1; clear hb1)
          go_region_with (go_at_call 76; refine (ranksOf_any _ _ _ L _ ?_ HVR.out).mono ?_; exact (HR.out.ext (below_al (by repeat (first | (with_reducible exact Below.refl _ _) | (refine Below.then ?_ (Hid.out (by with_reducible assumption))))) _).drew); rw [OutK_eq HF.out]; rintro e w2 ⟨a2, c2, rfl, ho2, hb2⟩; have B2 := Lib.hid hb2; have z2 := (hb2.cell (p := ⟨w1.heap.size, 1, none⟩) (by simp)).trans (by simp [go_sem]; rfl); clear ho2 hb2)
          all_goals
            go_wp2_with fail
            go_ret2
            exact ⟨rII_eq rfl rfl, Below.then (below_al B1.out _).drew B2.out⟩
end Go.Proofs.Ytmahagcghpoekaa
namespace Go.Proofs.Ytmahagcghpoekaa
open Go.RowKit
set_option linter.unusedSimpArgs false
set_option linter.unusedVariables false
theorem right_B {L : List Ta} (h : Right L) : rightB L = true := by
  unfold rightB
  simp only [Bool.and_eq_true, decide_eq_true_eq, List.all_eq_true]
  refine ⟨h.len, fun t ht => ?_⟩
  unfold taskB
  simp only [Bool.and_eq_true, List.all_eq_true, inB_iff]
  have h1 := h.pri t ht
  have h2 := h.pcs t ht
  refine ⟨⟨h1, by omega, by omega⟩, fun p hp => ?_⟩
  have h3 := h.piece t ht p hp
  unfold pieceB
  simp only [Bool.and_eq_true, inB_iff]
  exact h3
theorem raised_to {R : Rn} {s : Ms} (hr : RnOk R) (h : MOk R s) {i : Nat} (hi : i < R.L.length) (hc : insB R.L s i = true) : raisedR R.L i ((s.ja i).p : Nat) = (toI R.L s i, 0) := by
  have hp := h.pc i hi
  have hk := (insB_iff.1 hc).2
  unfold raisedR
  rw [if_pos (by rw [Bool.and_eq_true, isTk_iff, inB_iff]; exact ⟨⟨right_B hr.r, by omega, by omega⟩, by omega, by omega⟩), Int.toNat_natCast]
  have e : (((taAt R.L i).pcs)[(s.ja i).p]?).getD default = pcA R.L i (s.ja i).p := rfl
  rw [e]
  have hk' : ¬ (pcA R.L i (s.ja i).p).2 < 0 := by unfold lkA at hk; omega
  rw [if_neg hk']
  unfold toI; rw [hc]; rfl
theorem Raised_is {a : Option Addr} {n c : Nat} {L : List Ta} {t p x y : Int} {w : World} (hL : RdL w a n L) (h : raisedR L t p = (x, y)) :
    Calls Try.prog 116 #[.slice a n c, .int .i64 t, .int .i64 p] w fun e w' => e = rII x y ∧ Below w.heap.size w w' := by
  have := Raised_any a n c L t p w hL
  rw [h] at this; exact this
theorem keep_c {w w' : World} (hb : Below w.heap.size w w') {b o : Nat} {v : Value} (h : w.cell? ⟨b, o, none⟩ = some v) : w'.cell? ⟨b, o, none⟩ = some v := (hb.cell (p := ⟨b, o, none⟩) (World.block_lt_of_cell? w _ h)).trans h
set_option maxRecDepth 10000 in
set_option maxHeartbeats 1000000 in
theorem place_any {M : MPar} {w : World} {s : Ms} {i : Nat} (hM : Mach M w s) (hR : RdRun M.w0 M.H M.R) (hr : RnOk M.R) (hO : MOk M.R s) (hOf : M.O = ofL M.R.L) (hi : i < M.R.L.length) :
    Calls Try.prog 107 #[.pointer (some ⟨M.p, 0, none⟩), .int .i64 i] w fun e w' => e = rII (cnt M.R.L (toI M.R.L s i) : Nat) (ownI M.R.L s i : Nat) ∧ Below w.heap.size w w' := by
  have hrk : ∀ j : Nat, j < M.R.L.length → w.cell? ⟨M.rb, j, none⟩ = some (.int .i64 (cnt M.R.L j : Nat)) := fun j hj => by
    obtain ⟨x, h1, h2⟩ := hM.rk j hj
    rw [hOf, ofL_get hj] at h1
    rw [h2]; simp at h1; rw [h1]
  have c6 := hM.c6
  have hto := hO.to_ hi
  have rki := hrk i hi
  obtain ⟨B, hB⟩ : ∃ B, insB M.R.L s i = B := ⟨_, rfl⟩
  have HLK := Lib.hid (locked_is hM hR hO hi hB)
  cases B
  · have e1 : toI M.R.L s i = i := toI_no hB
    have e2 : ownI M.R.L s i = 1 := by unfold ownI; rw [if_pos e1]
    rw [e1, e2]
    obtain ⟨nL, hnL⟩ : ∃ x, M.R.L.length = x := ⟨_, rfl⟩
    obtain ⟨cn, hcn⟩ : ∃ x, cnt M.R.L (i : Int) = x := ⟨_, rfl⟩
    rw [hnL] at c6 hi
    rw [hcn] at rki ⊢
    clear hM hR hr hO hOf hrk hto e1 e2 hB
    go_enter Try.func107, Try.ntmps107
    go_wp2_with (go_at_call 92; (with_reducible refine HLK.out.mono ?_); rintro e w1 ⟨rfl, hb1⟩; have d6 := keep_c hb1 c6; have d7 := keep_c hb1 rki)
    go_ret2
    exact ⟨rII_eq rfl rfl, by (repeat' (first | (with_reducible exact Below.refl _ _) | (with_reducible assumption) | (with_reducible refine Below.alloc ?_ ?_ _) | (with_reducible refine Below.drew ?_) | (with_reducible refine Below.draws ?_ _) | (with_reducible refine Below.setCell ?_ ?_ _) | (refine Below.then ?_ (by with_reducible assumption)) | go_size))⟩
  · have hra := raised_to hr hO hi hB
    obtain ⟨tq, hte⟩ := Int.eq_ofNat_of_zero_le hto.1.1
    have htl : tq < M.R.L.length := by have := hto.1.2; omega
    have rkt := hrk tq htl
    have HT := Lib.hid (hM.int hR).t
    obtain ⟨j0, _⟩ := hM.jcells hi
    have c0 := hM.c0
    have c8 := hM.c8
    have HRA := Lib.hid hra
    have hown : ownI M.R.L s i = if (tq : Int) = (i : Int) then 1 else 0 := by unfold ownI; rw [hte]
    rw [hte] at HRA ⊢
    have HOWN := Lib.hid hown
    obtain ⟨jp, hjp⟩ : ∃ x, (s.ja i).p = x := ⟨_, rfl⟩
    rw [hjp] at j0 HRA
    obtain ⟨nL, hnL⟩ : ∃ x, M.R.L.length = x := ⟨_, rfl⟩
    rw [hnL] at c6 c8 hi htl
    obtain ⟨ci, hci⟩ : ∃ x, cnt M.R.L (i : Int) = x := ⟨_, rfl⟩
    obtain ⟨ct, hct⟩ : ∃ x, cnt M.R.L (tq : Int) = x := ⟨_, rfl⟩
    have HE : Hid (tq = i → ci = ct) := Lib.hid (fun h => by rw [← hci, ← hct, h])
    rw [hci] at rki
    rw [hct] at rkt ⊢
    obtain ⟨ow, how⟩ : ∃ x, ownI M.R.L s i = x := ⟨_, rfl⟩
    rw [how] at HOWN ⊢
    clear hM hR hr hO hOf hrk hto hB hra hown hte hjp hci hct how hnL
    go_enter Try.func107, Try.ntmps107
    go_upto_region 2 with (go_at_call 92; (with_reducible refine HLK.out.mono ?_); rintro e w1 ⟨rfl, hb1⟩; have d6 := keep_c hb1 c6; have d7 := keep_c hb1 rki; have d8 := keep_c hb1 rkt; have d0 := keep_c hb1 c0; have dj := keep_c hb1 j0; have d9 := keep_c hb1 c8; have HT1 := Lib.hid ((HT.out.ext hb1).ext (Below.refl w1.heap.size w1).drew); have B1 := Lib.hid hb1; clear hb1)
    go_region_held3 (fun w' => w'.cell? ⟨M.p, 0, none⟩ = some (.slice M.H.tA M.H.tN M.H.tC) ∧ w'.cell? ⟨M.p, 8, none⟩ = some (.slice (some ⟨M.J, 0, none⟩) nL nL) ∧ w'.cell? ⟨M.J, i * 4, none⟩ = some (.int .i64 (jp : Int)))
      (first | go_keep)
      (first
        | (go_at_call 116; (with_reducible refine (Raised_is HT1.out HRA.out).mono ?_); rintro e w2 ⟨rfl, hb2⟩; have hb3 : Below w1.heap.size w1 w2 := Below.then (Below.refl w1.heap.size w1).drew hb2; have B2 := Lib.hid hb3; have x0 := keep_c hb3 d0; have x8 := keep_c hb3 d9; have xj := keep_c hb3 dj; have x6 := keep_c hb3 d6; have x7 := keep_c hb3 d7; have y8 := keep_c hb3 d8; clear hb2 hb3))
    all_goals
      by_cases q : tq = i
      · subst q
        have e : ci = ct := HE.out rfl
        subst e
        obtain rfl : ow = 1 := by rw [HOWN.out]; simp
        go_wp2
        go_ret2
        exact ⟨rII_eq rfl rfl, Below.then B1.out B2.out⟩
      · obtain rfl : ow = 0 := by rw [HOWN.out]; rw [if_neg]; omega
        have q' : ((tq : Int) != (i : Int)) = true := by simp; omega
        have q'' : (tq != i) = true := by simpa using q
        go_wp2
        go_ret2
        exact ⟨rII_eq rfl rfl, Below.then B1.out B2.out⟩
def orI (x y : Int) : Int := if x = 0 then y else x
theorem or_any (b c : Nat) (x y : Int) (w : World) (h0 : w.cell? ⟨b, 0, none⟩ = some (.int .i64 x)) (h1 : w.cell? ⟨b, 1, none⟩ = some (.int .i64 y)) :
    Calls Try.prog 108 #[.slice (some ⟨b, 0, none⟩) 2 c] w fun e w' => e = .returned (.int .i64 (orI x y)) ∧ w = w' := by
  obtain ⟨R, hR⟩ : ∃ R, orI x y = R := ⟨_, rfl⟩
  rw [hR]
  have HR := Lib.hid hR
  clear hR
  go_enter Try.func108, Try.ntmps108
  go_wp2
  go_loopw [8] (fun i wr => wr = w ∧ (i = .int .i64 0 ∨ (i = .int .i64 1 ∧ x = 0) ∨ (i = .int .i64 2 ∧ x = 0 ∧ y = 0))) (fun i _ => 2 - (intOf i).toNat)
  case atStart => exact ⟨rfl, .inl rfl⟩
  case round =>
    obtain ⟨rfl, rfl | ⟨rfl, hx⟩ | ⟨rfl, hx, hy⟩⟩ := hrel
    · by_cases q : x = 0
      · have q' : (x != 0) = false := by simpa using q
        subst q
        go_wp2
        go_roundw
        case rel => simp
        case measure => simp [intOf]
      · have q' : (x != 0) = true := by simpa using q
        have hRx : R = x := by rw [← HR.out, orI, if_neg q]
        subst hRx
        go_wp2
        go_ret
        exact ⟨rfl, rfl⟩
    · subst hx
      by_cases q : y = 0
      · have q' : (y != 0) = false := by simpa using q
        subst q
        go_wp2
        go_roundw
        case rel => simp
        case measure => simp [intOf]
      · have q' : (y != 0) = true := by simpa using q
        have hRx : R = y := by rw [← HR.out, orI, if_pos rfl]
        subst hRx
        go_wp2
        go_ret
        exact ⟨rfl, rfl⟩
    · subst hx; subst hy
      have hRx : R = 0 := by rw [← HR.out, orI, if_pos rfl]
      subst hRx
      go_wp2
      go_ret
      exact ⟨rfl, rfl⟩
theorem key_or {L : List Ta} {s : Ms} {a b : Nat} : decide (orI (cmpI (cnt L (toI L s a) : Nat) (cnt L (toI L s b) : Nat)) (cmpI (ownI L s a : Nat) (ownI L s b : Nat)) < 0) = decide (keyI L s a < keyI L s b) := by
  have ha : ownI L s a ≤ 1 := by unfold ownI; split <;> omega
  have hb : ownI L s b ≤ 1 := by unfold ownI; split <;> omega
  rw [decide_eq_decide]
  unfold orI cmpI keyI
  (repeat' split) <;> omega
set_option maxRecDepth 10000 in
set_option maxHeartbeats 1000000 in
theorem ahead_is {M : MPar} {w : World} {s : Ms} {a b : Nat} {B : Bool} (hM : Mach M w s) (hl : MLay M) (hR : RdRun M.w0 M.H M.R) (hr : RnOk M.R) (hO : MOk M.R s) (hOf : M.O = ofL M.R.L) (ha : a < M.R.L.length) (hb : b < M.R.L.length) (h : decide (keyI M.R.L s a < keyI M.R.L s b) = B) :
    Calls Try.prog 94 #[.pointer (some ⟨M.p, 0, none⟩), .int .i64 a, .int .i64 b] w fun e w' => e = .returned (.bool B) ∧ Below w.heap.size w w' := by
  rw [← key_or] at h
  have HA := Lib.hid (place_any hM hR hr hO hOf ha)
  have HB : Hid (∀ w1, Below w.heap.size w w1 → Calls Try.prog 107 #[.pointer (some ⟨M.p, 0, none⟩), .int .i64 b] w1 fun e w' => e = rII (cnt M.R.L (toI M.R.L s b) : Nat) (ownI M.R.L s b : Nat) ∧ Below w1.heap.size w1 w') := Lib.hid (fun w1 h1 => place_any (hM.ext hl h1) hR hr hO hOf hb)
  obtain ⟨c1, e1⟩ : ∃ x, cnt M.R.L (toI M.R.L s a) = x := ⟨_, rfl⟩
  obtain ⟨c2, e2⟩ : ∃ x, cnt M.R.L (toI M.R.L s b) = x := ⟨_, rfl⟩
  obtain ⟨o1, e3⟩ : ∃ x, ownI M.R.L s a = x := ⟨_, rfl⟩
  obtain ⟨o2, e4⟩ : ∃ x, ownI M.R.L s b = x := ⟨_, rfl⟩
  rw [e1, e2, e3, e4] at h
  rw [e1, e3] at HA
  rw [e2, e4] at HB
  obtain ⟨x1, f1⟩ : ∃ x, cmpI (c1 : Nat) (c2 : Nat) = x := ⟨_, rfl⟩
  obtain ⟨x2, f2⟩ : ∃ x, cmpI (o1 : Nat) (o2 : Nat) = x := ⟨_, rfl⟩
  rw [f1, f2] at h
  have F1 := Lib.hid f1; have F2 := Lib.hid f2
  obtain ⟨y, hy⟩ : ∃ y, orI x1 x2 = y := ⟨_, rfl⟩
  rw [hy] at h
  have HY := Lib.hid hy
  clear hM hR hr hO hOf e1 e2 e3 e4 f1 f2 hy
  go_enter Try.func94, Try.ntmps94
  go_wp2_with (first
    | (go_at_call 107; (with_reducible refine HA.out.mono ?_); rintro e w1 ⟨rfl, hb1⟩; have B1 := Lib.hid hb1; clear hb1)
    | (go_at_call 107; (with_reducible refine (HB.out _ B1.out).mono ?_); rintro e w2 ⟨rfl, hb2⟩; have B2 := Lib.hid (Below.then B1.out hb2); clear hb2)
    | (go_at_call 75; (with_reducible refine (compare_any (c1 : Nat) (c2 : Nat) _).mono ?_); rintro e w3 ⟨rfl, rfl⟩; rw [F1.out])
    | (go_at_call 75; (with_reducible refine (compare_any (o1 : Nat) (o2 : Nat) _).mono ?_); rintro e w4 ⟨rfl, rfl⟩; rw [F2.out])
    | (go_at_call 108; (with_reducible refine (or_any _ _ x1 x2 _ (by simp [go_sem]) (by simp [go_sem])).mono ?_); rintro e w5 ⟨rfl, rfl⟩; rw [HY.out]))
  go_ret
  exact ⟨rfl, Below.then B2.out (by (repeat' (first | (with_reducible exact Below.refl _ _) | (with_reducible assumption) | (with_reducible refine Below.alloc ?_ ?_ _) | (with_reducible refine Below.drew ?_) | (with_reducible refine Below.draws ?_ _) | (with_reducible refine Below.setCell ?_ ?_ _) | (refine Below.then ?_ (by with_reducible assumption)) | go_size)))⟩
set_option maxRecDepth 10000 in
set_option maxHeartbeats 2000000 in
theorem choice_any {M : MPar} {w : World} {s : Ms} (hM : Mach M w s) (hl : MLay M) (hR : RdRun M.w0 M.H M.R) (hr : RnOk M.R) (hO : MOk M.R s) (hOf : M.O = ofL M.R.L) :
    Calls Try.prog 63 #[.pointer (some ⟨M.p, 0, none⟩)] w fun e w' => e = .returned (.int .i64 (chM M.R.L s)) ∧ Below w.heap.size w w' := by
  have c0 := hM.c0
  have htn := hR.t.length
  have hL5 := hr.r.len
  have HM := Lib.hid hM; have HR := Lib.hid hR; have HRN := Lib.hid hr; have HO := Lib.hid hO; have HOF := Lib.hid hOf
  obtain ⟨X, hX⟩ : ∃ X, chM M.R.L s = X := ⟨_, rfl⟩
  rw [hX]
  obtain ⟨nL, hnL⟩ : ∃ x, M.H.tN = x := ⟨_, rfl⟩
  have HN : Hid (M.R.L.length = nL) := Lib.hid (htn.trans hnL)
  have HX : Hid (chF M.R.L s (nL - 0) 0 (-1) = X) := Lib.hid (by rw [Nat.sub_zero, ← HN.out]; exact hX)
  have hn5 : nL ≤ 5 := by omega
  rw [hnL] at c0
  clear hM hR hr hO hOf hX hnL htn
  go_enter Try.func63, Try.ntmps63
  go_wp2
  go_loopw [3, 11] (fun b i wr => ∃ (k : Nat) (bb : Int), k ≤ nL ∧ b = .int .i64 bb ∧ i = .int .i64 k ∧ -1 ≤ bb ∧ bb < k ∧ chF M.R.L s (nL - k) k bb = X ∧ Below w.heap.size w wr) (fun _ i _ => nL - (intOf i).toNat)
  case atStart => exact ⟨0, -1, Nat.zero_le _, rfl, rfl, by omega, by omega, HX.out, Below.refl _ _⟩
  case round =>
    clear HX
    obtain ⟨k, bb, hk, rfl, rfl, hb1, hb2, hX, hB⟩ := hrel
    have HB := Lib.hid hB
    have hMx := HM.out.ext hl hB
    have HMX := Lib.hid hMx
    by_cases hkn : k < nL
    · have hkL : k < M.R.L.length := by rw [HN.out]; exact hkn
      rw [show nL - k = (nL - (k + 1)) + 1 by omega, chF] at hX
      cases hrd : rdB s k
      · have hq := rdB_no.1 hrd
        rw [if_neg (fun q => q.1 hq)] at hX
        have HX2 := Lib.hid hX; have HRD := Lib.hid hrd
        clear hX hq hrd hMx hB
        go_wp2_with (go_at_call 91; (with_reducible refine (ready_is HMX.out hkL HRD.out).mono ?_); rintro e w1 ⟨rfl, rfl⟩)
        go_roundw
        case rel => exact ⟨k + 1, bb, hkn, rfl, by go_num, hb1, by omega, HX2.out, HB.out⟩
        case measure => simp [intOf]; omega
      · have hq := rdB_iff.1 hrd
        have HRD := Lib.hid hrd
        by_cases h0 : bb < 0
        · rw [if_pos ⟨hq, .inl h0⟩] at hX
          have HX2 := Lib.hid hX
          clear hX hq hrd hMx hB
          go_wp2_with (go_at_call 91; (with_reducible refine (ready_is HMX.out hkL HRD.out).mono ?_); rintro e w1 ⟨rfl, rfl⟩)
          go_roundw
          case rel => exact ⟨k + 1, k, hkn, rfl, by go_num, by omega, by omega, HX2.out, HB.out⟩
          case measure => simp [intOf]; omega
        · have h0' : decide (bb < 0) = false := by simpa using h0
          obtain ⟨bn, rfl⟩ := Int.eq_ofNat_of_zero_le (show 0 ≤ bb by omega)
          rw [Int.toNat_natCast] at hX
          have hbL : bn < M.R.L.length := by rw [HN.out]; omega
          obtain ⟨A, hA⟩ : ∃ A, decide (keyI M.R.L s k < keyI M.R.L s bn) = A := ⟨_, rfl⟩
          have HA := Lib.hid hA
          cases A
          · have hA' : ¬ keyI M.R.L s k < keyI M.R.L s bn := by simpa using hA
            rw [if_neg (fun q => q.2.elim h0 hA')] at hX
            have HX2 := Lib.hid hX
            clear hX hq hrd hMx hB hA hA'
            go_wp2_with (first
              | (go_at_call 91; (with_reducible refine (ready_is HMX.out hkL HRD.out).mono ?_); rintro e w1 ⟨rfl, rfl⟩)
              | (go_at_call 94; (with_reducible refine (ahead_is HMX.out hl HR.out HRN.out HO.out HOF.out hkL hbL HA.out).mono ?_); rintro e w2 ⟨rfl, hb2⟩; have B2 := Lib.hid hb2; clear hb2))
            go_roundw
            case rel => exact ⟨k + 1, bn, hkn, rfl, by go_num, hb1, by omega, HX2.out, Below.then HB.out B2.out⟩
            case measure => simp [intOf]; omega
          · have hA' : keyI M.R.L s k < keyI M.R.L s bn := by simpa using hA
            rw [if_pos ⟨hq, .inr hA'⟩] at hX
            have HX2 := Lib.hid hX
            clear hX hq hrd hMx hB hA hA'
            go_wp2_with (first
              | (go_at_call 91; (with_reducible refine (ready_is HMX.out hkL HRD.out).mono ?_); rintro e w1 ⟨rfl, rfl⟩)
              | (go_at_call 94; (with_reducible refine (ahead_is HMX.out hl HR.out HRN.out HO.out HOF.out hkL hbL HA.out).mono ?_); rintro e w2 ⟨rfl, hb2⟩; have B2 := Lib.hid hb2; clear hb2))
            go_roundw
            case rel => exact ⟨k + 1, k, hkn, rfl, by go_num, by omega, by omega, HX2.out, Below.then HB.out B2.out⟩
            case measure => simp [intOf]; omega
    · have hbb : bb = X := by rw [show nL - k = 0 by omega] at hX; exact hX
      subst hbb
      clear hX hMx
      go_wp2
      go_ret
      exact ⟨rfl, HB.out⟩
end Go.Proofs.Ytmahagcghpoekaa
namespace Go.Proofs.Ytmahagcghpoekaa
open Go.RowKit
set_option linter.unusedSimpArgs false
set_option linter.unusedVariables false
theorem RdRun.bcell {w : World} {H : RunH} {R : Rn} (h : RdRun w H R) {i : Nat} (hi : i < R.bu.length) : ∃ b off, H.bA = some ⟨b, off, none⟩ ∧ i < H.bN ∧ b < w.heap.size ∧ w.cell? ⟨b, off + i, none⟩ = some (.int .i64 ((R.bu[i]?).getD 0)) := by
  have hn : i < H.bN := by rw [← h.b.length]; exact hi
  obtain ⟨x, b, off, e, hb, hc, hx⟩ := h.b.idx i hn
  exact ⟨b, off, e, hn, hb, by rw [hx]; exact hc⟩
theorem Mach.work2 {M : MPar} {w : World} {s : Ms} (h : Mach M w s) (hl : MLay M) {i : Nat} (hi : i < M.R.L.length) {jp jt jd : Nat} {js : Bool} (hj : s.ja i = ⟨jp, jt, jd, js⟩) :
    Mach M ((w.setCell ⟨M.J, i * 4 + 1, none⟩ (.int .i64 ((jt : Int) + 1))).setCell ⟨M.J, i * 4 + 2, none⟩ (.int .i64 ((jd : Int) + 1))) { s with j := s.j.set i ⟨jp, jt + 1, jd + 1, js⟩ } := by
  have hjl : i < s.j.length := by rw [h.jl]; exact hi
  have h0 := h.job hl hi (j := 1) (by decide) (encJ_t (s.ja i) (jt + 1))
  have h1 := h0.job hl hi (j := 2) (by decide) (encJ_d _ (jd + 1))
  have e : ∀ (q : List (List Int)) (o : List En) (x : Jb), Ms.ja ⟨q, s.j.set i x, o⟩ i = x := fun q o x => by rw [ja_set hjl, if_pos rfl]
  simp only [List.set_set, e, hj] at h1
  exact h1
theorem Mach.work3 {M : MPar} {w : World} {s : Ms} (h : Mach M w s) (hl : MLay M) {i : Nat} (hi : i < M.R.L.length) {jp jt jd : Nat} {js : Bool} (hj : s.ja i = ⟨jp, jt, jd, js⟩) :
    Mach M ((w.setCell ⟨M.J, i * 4, none⟩ (.int .i64 ((jp : Int) + 1))).setCell ⟨M.J, i * 4 + 1, none⟩ (.int .i64 0)) { s with j := s.j.set i ⟨jp + 1, 0, jd, js⟩ } := by
  have hjl : i < s.j.length := by rw [h.jl]; exact hi
  have h0 := h.job hl hi (j := 0) (by decide) (encJ_p (s.ja i) (jp + 1))
  have h1 := h0.job hl hi (j := 1) (by decide) (encJ_t _ 0)
  have e : ∀ (q : List (List Int)) (o : List En) (x : Jb), Ms.ja ⟨q, s.j.set i x, o⟩ i = x := fun q o x => by rw [ja_set hjl, if_pos rfl]
  simp only [List.set_set, e, hj] at h1
  exact h1
theorem Mach.work4 {M : MPar} {w : World} {s : Ms} (h : Mach M w s) (hl : MLay M) {i : Nat} (hi : i < M.R.L.length) :
    Mach M (w.setCell ⟨M.J, i * 4 + 3, none⟩ (.bool true)) { s with j := s.j.set i { s.ja i with s := true } } := h.job hl hi (j := 3) (by decide) (encJ_s (s.ja i) true)
theorem ja_at {s : Ms} {i : Nat} {x : Jb} {q : List (List Int)} {o : List En} (h : i < s.j.length) : Ms.ja ⟨q, s.j.set i x, o⟩ i = x := by rw [ja_set h, if_pos rfl]
set_option maxRecDepth 100000 in
set_option maxHeartbeats 4000000 in
theorem work_any {M : MPar} {w : World} {s : Ms} {i t : Nat} (hM : Mach M w s) (hl : MLay M) (hR : RdRun M.w0 M.H M.R) (hr : RnOk M.R) (hO : MOk M.R s) (hi : i < M.R.L.length) (hq : s.qa i ≠ []) (hql : (s.qa i).length ≤ 100) (ho : s.o.length ≤ 1000000) (ht : t ≤ 10000) (hd : (s.ja i).d ≤ 10000) :
    Calls Try.prog 64 #[.pointer (some ⟨M.p, 0, none⟩), .int .i64 t, .int .i64 i] w fun e w' => e = .returned (.tuple #[]) ∧ Mach M w' (wkA M.R t i s) := by
  obtain ⟨j0, j1, j2, j3⟩ := hM.jcells hi
  have c8 := hM.c8
  have hpc := hO.pc i hi
  have htk := hO.tk i hi
  have hlim := pc_lim hr.r hi hpc
  have hp8 := (pcs_pos hr.r hi).2
  have HM := Lib.hid hM; have HR := Lib.hid hR; have HQ := Lib.hid hq
  have HMD := Lib.hid (hM.ext hl (Below.refl w.heap.size w).drew)
  obtain ⟨jb, hjb⟩ : ∃ x, s.ja i = x := ⟨_, rfl⟩
  have HJB := Lib.hid hjb
  rw [hjb] at j0 j1 j2 j3 hpc htk hlim hd
  obtain ⟨jp, jt, jd, js⟩ := jb
  simp only [] at j0 j1 j2 j3 hpc htk hlim hd
  obtain ⟨nL, hnL⟩ : ∃ x, M.R.L.length = x := ⟨_, rfl⟩
  have HN := Lib.hid hnL
  rw [hnL] at c8
  have hin : i < nL := by omega
  obtain ⟨TK, hTK⟩ : ∃ x, tkA M.R.L i jp = x := ⟨_, rfl⟩
  have HTK := Lib.hid hTK
  rw [hTK] at htk hlim
  have hjt : jt ≤ 200 := by omega
  have hjp : jp ≤ 8 := by omega
  have wt : IntKind.i64.wrap ((jt : Int) + 1) = (jt : Int) + 1 := IntWalk.i64_in _ (by omega)
  have wd : IntKind.i64.wrap ((jd : Int) + 1) = (jd : Int) + 1 := IntWalk.i64_in _ (by omega)
  have wp : IntKind.i64.wrap ((jp : Int) + 1) = (jp : Int) + 1 := IntWalk.i64_in _ (by omega)
  have wm : IntKind.i64.wrap ((t : Int) + 1) = (t : Int) + 1 := IntWalk.i64_in _ (by omega)
  clear hM hR hq hjb hnL hTK
  go_enter Try.func64, Try.ntmps64
  go_wp2_with fail
  go_region_held3 (fun w' => w'.cell? ⟨M.J, i * 4, none⟩ = some (.int .i64 (jp : Int))) (first | go_keep)
    (first
      | (go_at_call 95; (with_reducible refine (event_any HMD.out hi HQ.out).mono ?_); rintro e w1 ⟨rfl, rfl⟩)
      | (go_at_call 62; (with_reducible refine (write_any hl HMD.out (by omega) _ _ _ _ _).mono ?_); rintro e w2 ⟨rfl, hM2⟩; have HM2 := Lib.hid hM2; have k0 := hM2.jb i hi 0 (by decide); rw [show (s.wr ⟨(t : Int), (i : Int), 4, (jp : Int), s.hd i⟩).ja i = ⟨jp, jt, jd, js⟩ from HJB.out] at k0; have y0 : w2.cell? ⟨M.J, i * 4, none⟩ = some (.int .i64 (jp : Int)) := k0; clear hM2 k0))
  have hw2 := HM2.out.work2 hl hi HJB.out
  obtain ⟨a0, a1, a2, a3⟩ := HM2.out.jcells hi
  rw [show (s.wr ⟨(t : Int), (i : Int), 4, (jp : Int), s.hd i⟩).ja i = ⟨jp, jt, jd, js⟩ from HJB.out] at a0 a1 a2 a3
  simp only [] at a0 a1 a2 a3
  have f1 := HM2.out.fj (i * 4 + 1)
  have f2 := HM2.out.fj (i * 4 + 2)
  have HW2 := Lib.hid hw2
  clear hw2 j0 j1 j2 j3 y0
  go_wp2_with fail
  have hw4 := HW2.out
  obtain ⟨w4, hw4e⟩ : ∃ x, x = (w2.setCell ⟨M.J, i * 4 + 1, none⟩ (.int .i64 ((jt : Int) + 1))).setCell ⟨M.J, i * 4 + 2, none⟩ (.int .i64 ((jd : Int) + 1)) := ⟨_, rfl⟩
  rw [← hw4e] at hw4 ⊢
  obtain ⟨S4, hS4⟩ : ∃ x : Ms, x = ⟨s.q, s.j.set i ⟨jp, jt + 1, jd + 1, js⟩, s.o ++ [⟨(t : Int), (i : Int), 4, (jp : Int), s.hd i⟩]⟩ := ⟨_, rfl⟩
  have hM4 : Mach M w4 S4 := by rw [hS4]; exact hw4
  have hjl : i < s.j.length := by rw [HM.out.jl]; exact hi
  obtain ⟨tb, toff, pb, po, pn, pc, hta, htb, hpb, hpn, hpl, k5, k6, _⟩ := HR.out.t.pcell hi hpc
  obtain ⟨bb, boff, hba, hbn, hbb, bc⟩ := HR.out.bcell (i := i) (by rw [hr.bu]; exact hi)
  have htn : i < M.H.tN := by rw [← HR.out.t.length]; exact hi
  obtain ⟨BU, hBU⟩ : ∃ x, (M.R.bu[i]?).getD 0 = x := ⟨_, rfl⟩
  rw [hBU] at bc
  rw [HTK.out] at k6
  have HBU := Lib.hid hBU
  have HTA := Lib.hid hta
  have HBA := Lib.hid hba
  have HPL := Lib.hid hpl
  have hpn8 : pn ≤ 8 := by omega
  have HK : Hid (∀ wx, Below M.w0.heap.size M.w0 wx → wx.cell? ⟨tb, toff + i * 6 + 5, none⟩ = some (.slice (some ⟨pb, po, none⟩) pn pc) ∧ wx.cell? ⟨pb, po + jp * 2, none⟩ = some (.int .i64 TK) ∧ wx.cell? ⟨bb, boff + i, none⟩ = some (.int .i64 BU)) := Lib.hid (fun wx h => ⟨(h.cell (p := ⟨tb, toff + i * 6 + 5, none⟩) htb).trans k5, (h.cell (p := ⟨pb, po + jp * 2, none⟩) hpb).trans k6, (h.cell (p := ⟨bb, boff + i, none⟩) hbb).trans bc⟩)
  have HM4 := Lib.hid hM4
  have HJ4 : Hid (S4.ja i = ⟨jp, jt + 1, jd + 1, js⟩) := Lib.hid (by rw [hS4]; exact ja_at hjl)
  have HQ4 : Hid (S4.qa i = s.qa i ∧ S4.o.length = s.o.length + 1) := Lib.hid (by rw [hS4]; exact ⟨rfl, by simp⟩)
  have HS4 := Lib.hid hS4
  obtain ⟨a0, a1, a2, a3⟩ := hM4.jcells hi
  rw [HJ4.out] at a0 a1 a2 a3
  simp only [] at a0 a1 a2 a3
  try simp only [Int.natCast_add, Int.cast_ofNat_Int] at a0 a1 a2 a3
  have b0 := hM4.c0
  rw [hta] at b0
  obtain ⟨k5', k6', bc'⟩ := HK.out w4 hM4.lb
  have g0 := hM4.fj (i * 4)
  have g1 := hM4.fj (i * 4 + 1)
  clear hw4 hw4e hM4 hS4 hta hba hpl k5 k6 bc hBU HW2 HM2
  by_cases qt : ((jt : Int) + 1) = TK
  · have qt' : (((jt : Int) + 1) == TK) = true := by simpa using qt
    go_region
    all_goals
      obtain ⟨w4d, hw4d⟩ : ∃ x, x = w4.drew := ⟨_, rfl⟩
      have hM4d : Mach M w4d S4 := by rw [hw4d]; exact HM4.out.ext hl (Below.refl w4.heap.size w4).drew
      rw [← hw4d]
      obtain ⟨z0, z1, z2, z3⟩ := hM4d.jcells hi
      rw [HJ4.out] at z0 z1 z2 z3
      simp only [] at z0 z1 z2 z3
      try simp only [Int.natCast_add, Int.cast_ofNat_Int] at z0 z1 z2 z3
      have y0 := hM4d.fj (i * 4)
      have y1 := hM4d.fj (i * 4 + 1)
      have hM5 := hM4d.work3 hl hi HJ4.out
      clear hw4d
      go_wp2_with fail
      obtain ⟨w5, hw5⟩ : ∃ x, x = (w4d.setCell ⟨M.J, i * 4, none⟩ (.int .i64 ((jp : Int) + 1))).setCell ⟨M.J, i * 4 + 1, none⟩ (.int .i64 0) := ⟨_, rfl⟩
      rw [← hw5] at hM5 ⊢
      obtain ⟨S5, hS5⟩ : ∃ x : Ms, x = ⟨s.q, s.j.set i ⟨jp + 1, 0, jd + 1, js⟩, s.o ++ [⟨(t : Int), (i : Int), 4, (jp : Int), s.hd i⟩]⟩ := ⟨_, rfl⟩
      have HM5 : Hid (Mach M w5 S5) := Lib.hid (by rw [hS5]; rw [HS4.out] at hM5; simp only [List.set_set] at hM5; exact hM5)
      have HJ5 : Hid (S5.ja i = ⟨jp + 1, 0, jd + 1, js⟩) := Lib.hid (by rw [hS5]; exact ja_at hjl)
      have HQ5 : Hid (S5.qa i = s.qa i ∧ S5.o.length = s.o.length + 1) := Lib.hid (by rw [hS5]; exact ⟨rfl, by simp⟩)
      have HS5 := Lib.hid hS5
      have HJN : Hid (jbN M.R.L i ⟨jp, jt, jd, js⟩ = ⟨jp + 1, 0, jd + 1, js⟩) := Lib.hid (by unfold jbN; simp only []; rw [if_pos (by rw [HTK.out]; exact qt)])
      clear hM4d hM5 hS5 hw5 z0 z1 z2 z3 y0 y1 a0 a1 a2 a3 b0 k5' k6' bc' g0 g1
    obtain ⟨a0, a1, a2, a3⟩ := HM5.out.jcells hi
    rw [HJ5.out] at a0 a1 a2 a3
    simp only [] at a0 a1 a2 a3
    try simp only [Int.natCast_add, Int.cast_ofNat_Int] at a0 a1 a2 a3
    have b0 := HM5.out.c0
    have b4 := HM5.out.c4
    rw [HTA.out] at b0
    rw [HBA.out] at b4
    have f3 := HM5.out.fj (i * 4 + 3)
    have k5' := (HK.out w5 HM5.out.lb).1
    have bc' := (HK.out w5 HM5.out.lb).2.2
    by_cases qc : jp + 1 = pn
    · have qc' : (((jp : Int) + 1) == (pn : Int)) = true := by simp; omega
      go_wp2_with fail
      go_region
      all_goals
        go_wp2_with (go_at_call 93; (with_reducible refine (end_any hl (HM5.out.ext hl (Below.refl w5.heap.size w5).drew) hi (by rw [HQ5.out.1]; exact HQ.out) (by rw [HQ5.out.1]; exact hql) (by have := HQ5.out.2; omega) _ _).mono ?_); rintro e w9 ⟨rfl, hM9⟩; have HM9 := Lib.hid hM9; clear hM9)
        go_end0
        refine ⟨rfl, ?_⟩
        have h9 := HM9.out
        rw [HS5.out] at h9
        unfold wkA
        rw [HJB.out, HJN.out, if_pos (by rw [← HPL.out]; exact qc)]
        exact h9
    · have qc' : (((jp : Int) + 1) == (pn : Int)) = false := by simp; omega
      have hne : ¬ (jp + 1) = (taAt M.R.L i).pcs.length := by rw [← HPL.out]; omega
      go_wp2_with fail
      go_region
      all_goals
        by_cases qd : ((jd : Int) + 1) = BU
        · have qd' : (((jd : Int) + 1) == BU) = true := by simpa using qd
          have g0 := a0
          go_wp2_with fail
          go_region
          all_goals
            obtain ⟨w6, hw6⟩ : ∃ x, x = w5.drew.drew := ⟨_, rfl⟩
            have hM6 : Mach M w6 S5 := by rw [hw6]; exact (HM5.out.ext hl (Below.refl w5.heap.size w5).drew).ext hl (Below.refl w5.drew.heap.size w5.drew).drew
            rw [← hw6]
            obtain ⟨z0, z1, z2, z3⟩ := hM6.jcells hi
            have f6 := hM6.fj (i * 4 + 3)
            obtain ⟨S7, hS7⟩ : ∃ x : Ms, x = { S5 with j := S5.j.set i { S5.ja i with s := true } } := ⟨_, rfl⟩
            have HM7 : Hid (Mach M (w6.setCell ⟨M.J, i * 4 + 3, none⟩ (.bool true)) S7) := Lib.hid (by rw [hS7]; exact hM6.work4 hl hi)
            have HQ7 : Hid (S7.qa i ≠ []) := Lib.hid (by rw [hS7]; show S5.qa i ≠ []; rw [HQ5.out.1]; exact HQ.out)
            have HO7 : Hid (S7.o.length ≤ 2000000) := Lib.hid (by rw [hS7]; have := HQ5.out.2; show S5.o.length ≤ 2000000; omega)
            have HS7 := Lib.hid hS7
            clear hw6 hS7
            go_wp2_with (first
              | (go_at_call 95; (with_reducible refine (event_any HM7.out hi HQ7.out).mono ?_); rintro e w8 ⟨rfl, rfl⟩)
              | (go_at_call 62; (with_reducible refine (write_any hl HM7.out HO7.out _ _ _ _ _).mono ?_); rintro e w9 ⟨rfl, hM9⟩; have HM9 := Lib.hid hM9; clear hM9))
            go_end0
            refine ⟨rfl, ?_⟩
            have h9 := HM9.out
            rw [HS7.out, HJ5.out, HS5.out] at h9
            unfold wkA
            rw [HJB.out, HJN.out, if_neg hne, if_pos (by rw [HBU.out, ← qd]; rfl)]
            simp only [Ms.wr, List.set_set] at h9
            exact h9
        · have qd' : (((jd : Int) + 1) == BU) = false := by simpa using qd
          go_wp2_with fail
          go_region
          all_goals
            go_wp2_with fail
            go_end0
            refine ⟨rfl, ?_⟩
            have h9 := (HM5.out.ext hl (Below.refl w5.heap.size w5).drew).ext hl (Below.refl w5.drew.heap.size w5.drew).drew
            unfold wkA
            rw [HJB.out, HJN.out, if_neg hne, if_neg (by rw [HBU.out]; intro e; exact qd (by rw [← e]; rfl))]
            rw [HS5.out] at h9
            exact h9
  · have qt' : (((jt : Int) + 1) == TK) = false := by simpa using qt
    go_region
    all_goals
      obtain ⟨w5, hw5⟩ : ∃ x, x = w4.drew := ⟨_, rfl⟩
      obtain ⟨S5, hS5⟩ : ∃ x : Ms, x = S4 := ⟨_, rfl⟩
      have HM5 : Hid (Mach M w5 S5) := Lib.hid (by rw [hw5, hS5]; exact HM4.out.ext hl (Below.refl w4.heap.size w4).drew)
      rw [← hw5]
      have HJ5 : Hid (S5.ja i = ⟨jp, jt + 1, jd + 1, js⟩) := Lib.hid (by rw [hS5]; exact HJ4.out)
      have HQ5 : Hid (S5.qa i = s.qa i ∧ S5.o.length = s.o.length + 1) := Lib.hid (by rw [hS5]; exact HQ4.out)
      have HS5 := Lib.hid (hS5.trans HS4.out)
      have HJN : Hid (jbN M.R.L i ⟨jp, jt, jd, js⟩ = ⟨jp, jt + 1, jd + 1, js⟩) := Lib.hid (by unfold jbN; simp only []; rw [if_neg (by rw [HTK.out]; exact qt)])
      clear hS5 hw5 a0 a1 a2 a3 b0 k5' k6' bc' g0 g1
    obtain ⟨a0, a1, a2, a3⟩ := HM5.out.jcells hi
    rw [HJ5.out] at a0 a1 a2 a3
    simp only [] at a0 a1 a2 a3
    try simp only [Int.natCast_add, Int.cast_ofNat_Int] at a0 a1 a2 a3
    have b0 := HM5.out.c0
    have b4 := HM5.out.c4
    rw [HTA.out] at b0
    rw [HBA.out] at b4
    have f3 := HM5.out.fj (i * 4 + 3)
    have k5' := (HK.out w5 HM5.out.lb).1
    have bc' := (HK.out w5 HM5.out.lb).2.2
    have qc' : ((jp : Int) == (pn : Int)) = false := by simp; omega
    have hne : ¬ (jp) = (taAt M.R.L i).pcs.length := by rw [← HPL.out]; omega
    go_wp2_with fail
    go_region
    all_goals
      by_cases qd : ((jd : Int) + 1) = BU
      · have qd' : (((jd : Int) + 1) == BU) = true := by simpa using qd
        have g0 := a0
        go_wp2_with fail
        go_region
        all_goals
          obtain ⟨w6, hw6⟩ : ∃ x, x = w5.drew.drew := ⟨_, rfl⟩
          have hM6 : Mach M w6 S5 := by rw [hw6]; exact (HM5.out.ext hl (Below.refl w5.heap.size w5).drew).ext hl (Below.refl w5.drew.heap.size w5.drew).drew
          rw [← hw6]
          obtain ⟨z0, z1, z2, z3⟩ := hM6.jcells hi
          have f6 := hM6.fj (i * 4 + 3)
          obtain ⟨S7, hS7⟩ : ∃ x : Ms, x = { S5 with j := S5.j.set i { S5.ja i with s := true } } := ⟨_, rfl⟩
          have HM7 : Hid (Mach M (w6.setCell ⟨M.J, i * 4 + 3, none⟩ (.bool true)) S7) := Lib.hid (by rw [hS7]; exact hM6.work4 hl hi)
          have HQ7 : Hid (S7.qa i ≠ []) := Lib.hid (by rw [hS7]; show S5.qa i ≠ []; rw [HQ5.out.1]; exact HQ.out)
          have HO7 : Hid (S7.o.length ≤ 2000000) := Lib.hid (by rw [hS7]; have := HQ5.out.2; show S5.o.length ≤ 2000000; omega)
          have HS7 := Lib.hid hS7
          clear hw6 hS7
          go_wp2_with (first
            | (go_at_call 95; (with_reducible refine (event_any HM7.out hi HQ7.out).mono ?_); rintro e w8 ⟨rfl, rfl⟩)
            | (go_at_call 62; (with_reducible refine (write_any hl HM7.out HO7.out _ _ _ _ _).mono ?_); rintro e w9 ⟨rfl, hM9⟩; have HM9 := Lib.hid hM9; clear hM9))
          go_end0
          refine ⟨rfl, ?_⟩
          have h9 := HM9.out
          rw [HS7.out, HJ5.out, HS5.out] at h9
          unfold wkA
          rw [HJB.out, HJN.out, if_neg hne, if_pos (by rw [HBU.out, ← qd]; rfl)]
          simp only [Ms.wr, List.set_set] at h9
          exact h9
      · have qd' : (((jd : Int) + 1) == BU) = false := by simpa using qd
        go_wp2_with fail
        go_region
        all_goals
          go_wp2_with fail
          go_end0
          refine ⟨rfl, ?_⟩
          have h9 := (HM5.out.ext hl (Below.refl w5.heap.size w5).drew).ext hl (Below.refl w5.drew.heap.size w5.drew).drew
          unfold wkA
          rw [HJB.out, HJN.out, if_neg hne, if_neg (by rw [HBU.out]; intro e; exact qd (by rw [← e]; rfl))]
          rw [HS5.out] at h9
          exact h9
end Go.Proofs.Ytmahagcghpoekaa
