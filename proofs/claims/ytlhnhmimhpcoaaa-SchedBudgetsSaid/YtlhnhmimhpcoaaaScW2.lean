/- The contract of the machine's end. The conditions: the machine reads as named. -/
import Derived.Test.YtlhnhmimhpcoaaaScW1
import Derived.Test.YtlhnhmimhpcoaaaScLib
import Derived.Deep.RegionWith
import Derived.Deep.DeepCutAuto
namespace Go.Proofs.Ytlhnhmimhpcoaaa
open Go.RowKit
set_option linter.unusedSimpArgs false
set_option linter.unusedVariables false
theorem encJ_p (j : Jb) (x : Nat) : encJ { j with p := x } = (encJ j).set 0 (.int .i64 x) := rfl
theorem encJ_t (j : Jb) (x : Nat) : encJ { j with t := x } = (encJ j).set 1 (.int .i64 x) := rfl
theorem encJ_d (j : Jb) (x : Nat) : encJ { j with d := x } = (encJ j).set 2 (.int .i64 x) := rfl
theorem encJ_s (j : Jb) (x : Bool) : encJ { j with s := x } = (encJ j).set 3 (.bool x) := rfl
theorem Mach.zero {M : MPar} {w : World} {s : Ms} (h : Mach M w s) (hl : MLay M) {i : Nat} (hi : i < M.R.L.length) :
    Mach M ((((w.setCell ⟨M.J, i * 4, none⟩ (.int .i64 0)).setCell ⟨M.J, i * 4 + 1, none⟩ (.int .i64 0)).setCell ⟨M.J, i * 4 + 2, none⟩ (.int .i64 0)).setCell ⟨M.J, i * 4 + 3, none⟩ (.bool false)) { s with j := s.j.set i Jb.zero } := by
  have hjl : i < s.j.length := by rw [h.jl]; exact hi
  have h0 := h.job hl hi (j := 0) (by decide) (encJ_p (s.ja i) 0)
  have h1 := h0.job hl hi (j := 1) (by decide) (encJ_t _ 0)
  have h2 := h1.job hl hi (j := 2) (by decide) (encJ_d _ 0)
  have h3 := h2.job hl hi (j := 3) (by decide) (encJ_s _ false)
  have e : ∀ (q : List (List Int)) (o : List En) (x : Jb), Ms.ja ⟨q, s.j.set i x, o⟩ i = x := fun q o x => by rw [ja_set hjl, if_pos rfl]
  simp only [List.set_set, e] at h3
  exact h3
set_option maxRecDepth 10000 in
set_option maxHeartbeats 2000000 in
theorem end_any {M : MPar} {w : World} {s : Ms} {i : Nat} (hl : MLay M) (hM : Mach M w s) (hi : i < M.R.L.length) (hq : s.qa i ≠ []) (hql : (s.qa i).length ≤ 100) (ho : s.o.length ≤ 2000000) (m how : Int) :
    Calls Try.prog 109 #[.pointer (some ⟨M.p, 0, none⟩), .int .i64 m, .int .i64 i, .int .i64 how] w fun e w' => e = .returned (.tuple #[]) ∧ Mach M w' (fin1 m i how s) := by
  have HM := Lib.hid hM; have HQ := Lib.hid hq
  clear hM hq
  go_enter Try.func109, Try.ntmps109
  go_wp2_with (first
    | (go_at_call 111; (with_reducible refine (event_any HM.out hi HQ.out).mono ?_); rintro e w1 ⟨rfl, rfl⟩)
    | (go_at_call 78; (with_reducible refine (write_any hl HM.out ho _ _ _ _ _).mono ?_); rintro e w2 ⟨rfl, hM2⟩; have HM2 := Lib.hid hM2; clear hM2))
  obtain ⟨s2, hs2⟩ : ∃ x, x = s.wr ⟨m, i, 5, s.hd i, how⟩ := ⟨_, rfl⟩
  rw [← hs2] at HM2
  have hqa : s2.qa i = s.qa i := by rw [hs2]; rfl
  obtain ⟨g, g1, g2⟩ := HM2.out.qu
  have c7 := HM2.out.c7
  have c := g1 i hi
  have hlen := g2.len hi
  have hown := g2.own i hi
  rw [hqa] at hlen hown
  have hn : 0 < (g i).n := by rw [← hlen]; exact List.length_pos_iff.2 HQ.out
  have hn100 : (g i).n ≤ 100 := by omega
  unfold sl at hown c
  obtain ⟨x, b, off, e, hb, _, _⟩ := (ownsI_rd hown).idx 0 hn
  have hRd := ownsI_rd hown
  have hcap := owns_cap hown
  rw [e] at c hRd
  obtain ⟨o1, m1, k1, hs1, hd1, hm1⟩ := slice_one (c := (g i).c) hRd hn hcap
  have hm100 : m1 ≤ 100 := by omega
  have HD := Lib.hid hd1
  have HD2 := Lib.hid (hd1.ext (Below.refl w2.heap.size w2).drew)
  have HG := Lib.hid g1
  have HGR := Lib.hid g2
  have HQA := Lib.hid hqa
  have hkl := HM2.out.kl
  have hWz : M.W < w2.heap.size := Nat.lt_of_lt_of_le hl.W.2 hkl
  have hpz : M.p < w2.heap.size := Nat.lt_of_lt_of_le hl.p.2 hkl
  have hfW := HM2.out.fw i
  obtain ⟨nL, hnL⟩ : ∃ x, M.R.L.length = x := ⟨_, rfl⟩
  have HNL := Lib.hid hnL
  rw [hnL] at c7 hi
  have HS2 := Lib.hid hs2
  clear hlen hown hRd g1 g2 hd1 hqa e hb hs2 hnL hn hcap
  go_cut [] (fun wx => ∃ (a2 : Option Addr) (c2 : Nat) (w3 : World), wx = w3.setCell ⟨M.W, i, none⟩ (.slice a2 m1 c2) ∧ w3.ownsRow w2.heap.size 3 1 (.slice a2 m1 c2) m1 ((s.qa i).tail.flatMap enc1) ∧ Below w2.heap.size w2 w3)
  case first =>
    go_region_with (go_at_call 126; (with_reducible refine (cloneI_any _ _ _ _ _ (by omega) HD2.out (fun _ => .inr ⟨_, rfl⟩)).mono ?_); rintro e w3 ⟨a2, c2, rfl, hown3, hb3⟩; have hb3' : Below w2.heap.size w2 w3 := Below.then (Below.refl w2.heap.size w2).drew hb3; have z7 := (hb3'.cell (p := ⟨M.p, 7, none⟩) hpz).trans c7; have zW := (hb3'.cell (p := ⟨M.W, i, none⟩) hWz).trans c; have zf := (hb3'.frozen (p := ⟨M.W, i, none⟩) hWz).trans hfW)
    all_goals
      go_wp2_with fail
      go_meet
      exact ⟨a2, c2, w3, rfl, by simpa using hown3, hb3'⟩
  case rest =>
    obtain ⟨a2, c2, w3, rfl, hown3, hb3⟩ := hcut
    have hM3 : Mach M (w3.setCell ⟨M.W, i, none⟩ (.slice a2 m1 c2)) { s2 with q := s2.q.set i (s.qa i).tail } := by
      refine HM2.out.queue hl (by rw [HNL.out]; exact hi) (hb3.mono hkl) (fun a m c hh => owns_ext hh hb3) HG.out (d := ⟨a2, m1, c2⟩) ?_
      exact HGR.out.fresh (by rw [HNL.out]; exact hi) hb3 hkl hown3
    obtain ⟨w4, hw4⟩ : ∃ x, x = w3.setCell ⟨M.W, i, none⟩ (.slice a2 m1 c2) := ⟨_, rfl⟩
    rw [← hw4] at hM3 ⊢
    have hin : i < M.R.L.length := by rw [HNL.out]; exact hi
    obtain ⟨j0, j1, j2, j3⟩ := hM3.jcells hin
    have c8 := hM3.c8
    rw [HNL.out] at c8
    have f0 := hM3.fj (i * 4)
    have f1 := hM3.fj (i * 4 + 1)
    have f2 := hM3.fj (i * 4 + 2)
    have f3 := hM3.fj (i * 4 + 3)
    have HM3 := Lib.hid hM3
    clear hM3 hw4 hown3 hb3 c c7 hs1 HD HD2 HG HGR hfW
    go_wp2
    go_end0
    refine ⟨rfl, ?_⟩
    have h9 := HM3.out.zero hl hin
    rw [HS2.out] at h9
    exact h9
end Go.Proofs.Ytlhnhmimhpcoaaa
