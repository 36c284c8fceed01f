/- The contract of the machine's work. The conditions: the machine reads as named. -/
import Derived.Test.YtlhnhmimhpcoaaaScW2
import Derived.Test.YtlhnhmimhpcoaaaScW3
import Derived.IntWalk
namespace Go.Proofs.Ytlhnhmimhpcoaaa
open Go.RowKit
set_option linter.unusedSimpArgs false
set_option linter.unusedVariables false
theorem RdRun.bcell {w : World} {H : RunH} {R : Rn} (h : RdRun w H R) {i : Nat} (hi : i < R.bu.length) : ∃ b off, H.bA = some ⟨b, off, none⟩ ∧ i < H.bN ∧ b < w.heap.size ∧ w.cell? ⟨b, off + i, none⟩ = some (.int .i64 ((R.bu[i]?).getD 0)) := by
  have hn : i < H.bN := by rw [← h.b.length]; exact hi
  obtain ⟨x, b, off, e, hb, hc, hx⟩ := h.b.idx i hn
  exact ⟨b, off, e, hn, hb, by rw [hx]; exact hc⟩
theorem Mach.work2 {M : MPar} {w : World} {s : Ms} (h : Mach M w s) (hl : MLay M) {i : Nat} (hi : i < M.R.L.length) {jp jt jd : Nat} {js : Bool} (hj : s.ja i = ⟨jp, jt, jd, js⟩) :
    Mach M ((w.setCell ⟨M.J, i * 4 + 1, none⟩ (.int .i64 ((jt : Int) + 1))).setCell ⟨M.J, i * 4 + 2, none⟩ (.int .i64 ((jd : Int) + 1))) { s with j := s.j.set i ⟨jp, jt + 1, jd + 1, js⟩ } := by
  have hjl : i < s.j.length := by rw [h.jl]; exact hi
  have h0 := h.job hl hi (j := 1) (by decide) (encJ_t (s.ja i) (jt + 1))
  have h1 := h0.job hl hi (j := 2) (by decide) (encJ_d _ (jd + 1))
  have e : ∀ (q : List (List Int)) (o : List En) (x : Jb), Ms.ja ⟨q, s.j.set i x, o⟩ i = x := fun q o x => by rw [ja_set hjl, if_pos rfl]
  simp only [List.set_set, e, hj] at h1
  exact h1
theorem Mach.work3 {M : MPar} {w : World} {s : Ms} (h : Mach M w s) (hl : MLay M) {i : Nat} (hi : i < M.R.L.length) {jp jt jd : Nat} {js : Bool} (hj : s.ja i = ⟨jp, jt, jd, js⟩) :
    Mach M ((w.setCell ⟨M.J, i * 4, none⟩ (.int .i64 ((jp : Int) + 1))).setCell ⟨M.J, i * 4 + 1, none⟩ (.int .i64 0)) { s with j := s.j.set i ⟨jp + 1, 0, jd, js⟩ } := by
  have hjl : i < s.j.length := by rw [h.jl]; exact hi
  have h0 := h.job hl hi (j := 0) (by decide) (encJ_p (s.ja i) (jp + 1))
  have h1 := h0.job hl hi (j := 1) (by decide) (encJ_t _ 0)
  have e : ∀ (q : List (List Int)) (o : List En) (x : Jb), Ms.ja ⟨q, s.j.set i x, o⟩ i = x := fun q o x => by rw [ja_set hjl, if_pos rfl]
  simp only [List.set_set, e, hj] at h1
  exact h1
theorem Mach.work4 {M : MPar} {w : World} {s : Ms} (h : Mach M w s) (hl : MLay M) {i : Nat} (hi : i < M.R.L.length) :
    Mach M (w.setCell ⟨M.J, i * 4 + 3, none⟩ (.bool true)) { s with j := s.j.set i { s.ja i with s := true } } := h.job hl hi (j := 3) (by decide) (encJ_s (s.ja i) true)
theorem ja_at {s : Ms} {i : Nat} {x : Jb} {q : List (List Int)} {o : List En} (h : i < s.j.length) : Ms.ja ⟨q, s.j.set i x, o⟩ i = x := by rw [ja_set h, if_pos rfl]
set_option maxRecDepth 100000 in
set_option maxHeartbeats 4000000 in
theorem work_any {M : MPar} {w : World} {s : Ms} {i t : Nat} (hM : Mach M w s) (hl : MLay M) (hR : RdRun M.w0 M.H M.R) (hr : RnOk M.R) (hO : MOk M.R s) (hi : i < M.R.L.length) (hq : s.qa i ≠ []) (hql : (s.qa i).length ≤ 100) (ho : s.o.length ≤ 1000000) (ht : t ≤ 10000) (hd : (s.ja i).d ≤ 10000) :
    Calls Try.prog 80 #[.pointer (some ⟨M.p, 0, none⟩), .int .i64 t, .int .i64 i] w fun e w' => e = .returned (.tuple #[]) ∧ Mach M w' (wkA M.R t i s) := by
  obtain ⟨j0, j1, j2, j3⟩ := hM.jcells hi
  have c8 := hM.c8
  have hpc := hO.pc i hi
  have htk := hO.tk i hi
  have hlim := pc_lim hr.r hi hpc
  have hp8 := (pcs_pos hr.r hi).2
  have HM := Lib.hid hM; have HR := Lib.hid hR; have HQ := Lib.hid hq
  have HMD := Lib.hid (hM.ext hl (Below.refl w.heap.size w).drew)
  obtain ⟨jb, hjb⟩ : ∃ x, s.ja i = x := ⟨_, rfl⟩
  have HJB := Lib.hid hjb
  rw [hjb] at j0 j1 j2 j3 hpc htk hlim hd
  obtain ⟨jp, jt, jd, js⟩ := jb
  simp only [] at j0 j1 j2 j3 hpc htk hlim hd
  obtain ⟨nL, hnL⟩ : ∃ x, M.R.L.length = x := ⟨_, rfl⟩
  have HN := Lib.hid hnL
  rw [hnL] at c8
  have hin : i < nL := by omega
  obtain ⟨TK, hTK⟩ : ∃ x, tkA M.R.L i jp = x := ⟨_, rfl⟩
  have HTK := Lib.hid hTK
  rw [hTK] at htk hlim
  have hjt : jt ≤ 200 := by omega
  have hjp : jp ≤ 8 := by omega
  have wt : IntKind.i64.wrap ((jt : Int) + 1) = (jt : Int) + 1 := IntWalk.i64_in _ (by omega)
  have wd : IntKind.i64.wrap ((jd : Int) + 1) = (jd : Int) + 1 := IntWalk.i64_in _ (by omega)
  have wp : IntKind.i64.wrap ((jp : Int) + 1) = (jp : Int) + 1 := IntWalk.i64_in _ (by omega)
  have wm : IntKind.i64.wrap ((t : Int) + 1) = (t : Int) + 1 := IntWalk.i64_in _ (by omega)
  clear hM hR hq hjb hnL hTK
  go_enter Try.func80, Try.ntmps80
  go_wp2_with fail
  go_region_held3 (fun w' => w'.cell? ⟨M.J, i * 4, none⟩ = some (.int .i64 (jp : Int))) (first | go_keep)
    (first
      | (go_at_call 111; (with_reducible refine (event_any HMD.out hi HQ.out).mono ?_); rintro e w1 ⟨rfl, rfl⟩)
      | (go_at_call 78; (with_reducible refine (write_any hl HMD.out (by omega) _ _ _ _ _).mono ?_); rintro e w2 ⟨rfl, hM2⟩; have HM2 := Lib.hid hM2; have k0 := hM2.jb i hi 0 (by decide); rw [show (s.wr ⟨(t : Int), (i : Int), 4, (jp : Int), s.hd i⟩).ja i = ⟨jp, jt, jd, js⟩ from HJB.out] at k0; have y0 : w2.cell? ⟨M.J, i * 4, none⟩ = some (.int .i64 (jp : Int)) := k0; clear hM2 k0))
  have hw2 := HM2.out.work2 hl hi HJB.out
  obtain ⟨a0, a1, a2, a3⟩ := HM2.out.jcells hi
  rw [show (s.wr ⟨(t : Int), (i : Int), 4, (jp : Int), s.hd i⟩).ja i = ⟨jp, jt, jd, js⟩ from HJB.out] at a0 a1 a2 a3
  simp only [] at a0 a1 a2 a3
  have f1 := HM2.out.fj (i * 4 + 1)
  have f2 := HM2.out.fj (i * 4 + 2)
  have HW2 := Lib.hid hw2
  clear hw2 j0 j1 j2 j3 y0
  go_wp2_with fail
  have hw4 := HW2.out
  obtain ⟨w4, hw4e⟩ : ∃ x, x = (w2.setCell ⟨M.J, i * 4 + 1, none⟩ (.int .i64 ((jt : Int) + 1))).setCell ⟨M.J, i * 4 + 2, none⟩ (.int .i64 ((jd : Int) + 1)) := ⟨_, rfl⟩
  rw [← hw4e] at hw4 ⊢
  obtain ⟨S4, hS4⟩ : ∃ x : Ms, x = ⟨s.q, s.j.set i ⟨jp, jt + 1, jd + 1, js⟩, s.o ++ [⟨(t : Int), (i : Int), 4, (jp : Int), s.hd i⟩]⟩ := ⟨_, rfl⟩
  have hM4 : Mach M w4 S4 := by rw [hS4]; exact hw4
  have hjl : i < s.j.length := by rw [HM.out.jl]; exact hi
  obtain ⟨tb, toff, pb, po, pn, pc, hta, htb, hpb, hpn, hpl, k5, k6, _⟩ := HR.out.t.pcell hi hpc
  obtain ⟨bb, boff, hba, hbn, hbb, bc⟩ := HR.out.bcell (i := i) (by rw [hr.bu]; exact hi)
  have htn : i < M.H.tN := by rw [← HR.out.t.length]; exact hi
  obtain ⟨BU, hBU⟩ : ∃ x, (M.R.bu[i]?).getD 0 = x := ⟨_, rfl⟩
  rw [hBU] at bc
  rw [HTK.out] at k6
  have HBU := Lib.hid hBU
  have HTA := Lib.hid hta
  have HBA := Lib.hid hba
  have HPL := Lib.hid hpl
  have hpn8 : pn ≤ 8 := by omega
  have HK : Hid (∀ wx, Below M.w0.heap.size M.w0 wx → wx.cell? ⟨tb, toff + i * 6 + 5, none⟩ = some (.slice (some ⟨pb, po, none⟩) pn pc) ∧ wx.cell? ⟨pb, po + jp * 2, none⟩ = some (.int .i64 TK) ∧ wx.cell? ⟨bb, boff + i, none⟩ = some (.int .i64 BU)) := Lib.hid (fun wx h => ⟨(h.cell (p := ⟨tb, toff + i * 6 + 5, none⟩) htb).trans k5, (h.cell (p := ⟨pb, po + jp * 2, none⟩) hpb).trans k6, (h.cell (p := ⟨bb, boff + i, none⟩) hbb).trans bc⟩)
  have HM4 := Lib.hid hM4
  have HJ4 : Hid (S4.ja i = ⟨jp, jt + 1, jd + 1, js⟩) := Lib.hid (by rw [hS4]; exact ja_at hjl)
  have HQ4 : Hid (S4.qa i = s.qa i ∧ S4.o.length = s.o.length + 1) := Lib.hid (by rw [hS4]; exact ⟨rfl, by simp⟩)
  have HS4 := Lib.hid hS4
  obtain ⟨a0, a1, a2, a3⟩ := hM4.jcells hi
  rw [HJ4.out] at a0 a1 a2 a3
  simp only [] at a0 a1 a2 a3
  try simp only [Int.natCast_add, Int.cast_ofNat_Int] at a0 a1 a2 a3
  have b0 := hM4.c0
  rw [hta] at b0
  obtain ⟨k5', k6', bc'⟩ := HK.out w4 hM4.lb
  have g0 := hM4.fj (i * 4)
  have g1 := hM4.fj (i * 4 + 1)
  clear hw4 hw4e hM4 hS4 hta hba hpl k5 k6 bc hBU HW2 HM2
  by_cases qt : ((jt : Int) + 1) = TK
  · have qt' : (((jt : Int) + 1) == TK) = true := by simpa using qt
    go_region
    all_goals
      obtain ⟨w4d, hw4d⟩ : ∃ x, x = w4.drew := ⟨_, rfl⟩
      have hM4d : Mach M w4d S4 := by rw [hw4d]; exact HM4.out.ext hl (Below.refl w4.heap.size w4).drew
      rw [← hw4d]
      obtain ⟨z0, z1, z2, z3⟩ := hM4d.jcells hi
      rw [HJ4.out] at z0 z1 z2 z3
      simp only [] at z0 z1 z2 z3
      try simp only [Int.natCast_add, Int.cast_ofNat_Int] at z0 z1 z2 z3
      have y0 := hM4d.fj (i * 4)
      have y1 := hM4d.fj (i * 4 + 1)
      have hM5 := hM4d.work3 hl hi HJ4.out
      clear hw4d
      go_wp2_with fail
      obtain ⟨w5, hw5⟩ : ∃ x, x = (w4d.setCell ⟨M.J, i * 4, none⟩ (.int .i64 ((jp : Int) + 1))).setCell ⟨M.J, i * 4 + 1, none⟩ (.int .i64 0) := ⟨_, rfl⟩
      rw [← hw5] at hM5 ⊢
      obtain ⟨S5, hS5⟩ : ∃ x : Ms, x = ⟨s.q, s.j.set i ⟨jp + 1, 0, jd + 1, js⟩, s.o ++ [⟨(t : Int), (i : Int), 4, (jp : Int), s.hd i⟩]⟩ := ⟨_, rfl⟩
      have HM5 : Hid (Mach M w5 S5) := Lib.hid (by rw [hS5]; rw [HS4.out] at hM5; simp only [List.set_set] at hM5; exact hM5)
      have HJ5 : Hid (S5.ja i = ⟨jp + 1, 0, jd + 1, js⟩) := Lib.hid (by rw [hS5]; exact ja_at hjl)
      have HQ5 : Hid (S5.qa i = s.qa i ∧ S5.o.length = s.o.length + 1) := Lib.hid (by rw [hS5]; exact ⟨rfl, by simp⟩)
      have HS5 := Lib.hid hS5
      have HJN : Hid (jbN M.R.L i ⟨jp, jt, jd, js⟩ = ⟨jp + 1, 0, jd + 1, js⟩) := Lib.hid (by unfold jbN; simp only []; rw [if_pos (by rw [HTK.out]; exact qt)])
      clear hM4d hM5 hS5 hw5 z0 z1 z2 z3 y0 y1 a0 a1 a2 a3 b0 k5' k6' bc' g0 g1
    obtain ⟨a0, a1, a2, a3⟩ := HM5.out.jcells hi
    rw [HJ5.out] at a0 a1 a2 a3
    simp only [] at a0 a1 a2 a3
    try simp only [Int.natCast_add, Int.cast_ofNat_Int] at a0 a1 a2 a3
    have b0 := HM5.out.c0
    have b4 := HM5.out.c4
    rw [HTA.out] at b0
    rw [HBA.out] at b4
    have f3 := HM5.out.fj (i * 4 + 3)
    have k5' := (HK.out w5 HM5.out.lb).1
    have bc' := (HK.out w5 HM5.out.lb).2.2
    by_cases qc : jp + 1 = pn
    · have qc' : (((jp : Int) + 1) == (pn : Int)) = true := by simp; omega
      go_wp2_with fail
      go_region
      all_goals
        go_wp2_with (go_at_call 109; (with_reducible refine (end_any hl (HM5.out.ext hl (Below.refl w5.heap.size w5).drew) hi (by rw [HQ5.out.1]; exact HQ.out) (by rw [HQ5.out.1]; exact hql) (by have := HQ5.out.2; omega) _ _).mono ?_); rintro e w9 ⟨rfl, hM9⟩; have HM9 := Lib.hid hM9; clear hM9)
        go_end0
        refine ⟨rfl, ?_⟩
        have h9 := HM9.out
        rw [HS5.out] at h9
        unfold wkA
        rw [HJB.out, HJN.out, if_pos (by rw [← HPL.out]; exact qc)]
        exact h9
    · have qc' : (((jp : Int) + 1) == (pn : Int)) = false := by simp; omega
      have hne : ¬ (jp + 1) = (taAt M.R.L i).pcs.length := by rw [← HPL.out]; omega
      go_wp2_with fail
      go_region
      all_goals
        by_cases qd : ((jd : Int) + 1) = BU
        · have qd' : (((jd : Int) + 1) == BU) = true := by simpa using qd
          have g0 := a0
          go_wp2_with fail
          go_region
          all_goals
            obtain ⟨w6, hw6⟩ : ∃ x, x = w5.drew.drew := ⟨_, rfl⟩
            have hM6 : Mach M w6 S5 := by rw [hw6]; exact (HM5.out.ext hl (Below.refl w5.heap.size w5).drew).ext hl (Below.refl w5.drew.heap.size w5.drew).drew
            rw [← hw6]
            obtain ⟨z0, z1, z2, z3⟩ := hM6.jcells hi
            have f6 := hM6.fj (i * 4 + 3)
            obtain ⟨S7, hS7⟩ : ∃ x : Ms, x = { S5 with j := S5.j.set i { S5.ja i with s := true } } := ⟨_, rfl⟩
            have HM7 : Hid (Mach M (w6.setCell ⟨M.J, i * 4 + 3, none⟩ (.bool true)) S7) := Lib.hid (by rw [hS7]; exact hM6.work4 hl hi)
            have HQ7 : Hid (S7.qa i ≠ []) := Lib.hid (by rw [hS7]; show S5.qa i ≠ []; rw [HQ5.out.1]; exact HQ.out)
            have HO7 : Hid (S7.o.length ≤ 2000000) := Lib.hid (by rw [hS7]; have := HQ5.out.2; show S5.o.length ≤ 2000000; omega)
            have HS7 := Lib.hid hS7
            clear hw6 hS7
            go_wp2_with (first
              | (go_at_call 111; (with_reducible refine (event_any HM7.out hi HQ7.out).mono ?_); rintro e w8 ⟨rfl, rfl⟩)
              | (go_at_call 78; (with_reducible refine (write_any hl HM7.out HO7.out _ _ _ _ _).mono ?_); rintro e w9 ⟨rfl, hM9⟩; have HM9 := Lib.hid hM9; clear hM9))
            go_end0
            refine ⟨rfl, ?_⟩
            have h9 := HM9.out
            rw [HS7.out, HJ5.out, HS5.out] at h9
            unfold wkA
            rw [HJB.out, HJN.out, if_neg hne, if_pos (by rw [HBU.out, ← qd]; rfl)]
            simp only [Ms.wr, List.set_set] at h9
            exact h9
        · have qd' : (((jd : Int) + 1) == BU) = false := by simpa using qd
          go_wp2_with fail
          go_region
          all_goals
            go_wp2_with fail
            go_end0
            refine ⟨rfl, ?_⟩
            have h9 := (HM5.out.ext hl (Below.refl w5.heap.size w5).drew).ext hl (Below.refl w5.drew.heap.size w5.drew).drew
            unfold wkA
            rw [HJB.out, HJN.out, if_neg hne, if_neg (by rw [HBU.out]; intro e; exact qd (by rw [← e]; rfl))]
            rw [HS5.out] at h9
            exact h9
  · have qt' : (((jt : Int) + 1) == TK) = false := by simpa using qt
    go_region
    all_goals
      obtain ⟨w5, hw5⟩ : ∃ x, x = w4.drew := ⟨_, rfl⟩
      obtain ⟨S5, hS5⟩ : ∃ x : Ms, x = S4 := ⟨_, rfl⟩
      have HM5 : Hid (Mach M w5 S5) := Lib.hid (by rw [hw5, hS5]; exact HM4.out.ext hl (Below.refl w4.heap.size w4).drew)
      rw [← hw5]
      have HJ5 : Hid (S5.ja i = ⟨jp, jt + 1, jd + 1, js⟩) := Lib.hid (by rw [hS5]; exact HJ4.out)
      have HQ5 : Hid (S5.qa i = s.qa i ∧ S5.o.length = s.o.length + 1) := Lib.hid (by rw [hS5]; exact HQ4.out)
      have HS5 := Lib.hid (hS5.trans HS4.out)
      have HJN : Hid (jbN M.R.L i ⟨jp, jt, jd, js⟩ = ⟨jp, jt + 1, jd + 1, js⟩) := Lib.hid (by unfold jbN; simp only []; rw [if_neg (by rw [HTK.out]; exact qt)])
      clear hS5 hw5 a0 a1 a2 a3 b0 k5' k6' bc' g0 g1
    obtain ⟨a0, a1, a2, a3⟩ := HM5.out.jcells hi
    rw [HJ5.out] at a0 a1 a2 a3
    simp only [] at a0 a1 a2 a3
    try simp only [Int.natCast_add, Int.cast_ofNat_Int] at a0 a1 a2 a3
    have b0 := HM5.out.c0
    have b4 := HM5.out.c4
    rw [HTA.out] at b0
    rw [HBA.out] at b4
    have f3 := HM5.out.fj (i * 4 + 3)
    have k5' := (HK.out w5 HM5.out.lb).1
    have bc' := (HK.out w5 HM5.out.lb).2.2
    have qc' : ((jp : Int) == (pn : Int)) = false := by simp; omega
    have hne : ¬ (jp) = (taAt M.R.L i).pcs.length := by rw [← HPL.out]; omega
    go_wp2_with fail
    go_region
    all_goals
      by_cases qd : ((jd : Int) + 1) = BU
      · have qd' : (((jd : Int) + 1) == BU) = true := by simpa using qd
        have g0 := a0
        go_wp2_with fail
        go_region
        all_goals
          obtain ⟨w6, hw6⟩ : ∃ x, x = w5.drew.drew := ⟨_, rfl⟩
          have hM6 : Mach M w6 S5 := by rw [hw6]; exact (HM5.out.ext hl (Below.refl w5.heap.size w5).drew).ext hl (Below.refl w5.drew.heap.size w5.drew).drew
          rw [← hw6]
          obtain ⟨z0, z1, z2, z3⟩ := hM6.jcells hi
          have f6 := hM6.fj (i * 4 + 3)
          obtain ⟨S7, hS7⟩ : ∃ x : Ms, x = { S5 with j := S5.j.set i { S5.ja i with s := true } } := ⟨_, rfl⟩
          have HM7 : Hid (Mach M (w6.setCell ⟨M.J, i * 4 + 3, none⟩ (.bool true)) S7) := Lib.hid (by rw [hS7]; exact hM6.work4 hl hi)
          have HQ7 : Hid (S7.qa i ≠ []) := Lib.hid (by rw [hS7]; show S5.qa i ≠ []; rw [HQ5.out.1]; exact HQ.out)
          have HO7 : Hid (S7.o.length ≤ 2000000) := Lib.hid (by rw [hS7]; have := HQ5.out.2; show S5.o.length ≤ 2000000; omega)
          have HS7 := Lib.hid hS7
          clear hw6 hS7
          go_wp2_with (first
            | (go_at_call 111; (with_reducible refine (event_any HM7.out hi HQ7.out).mono ?_); rintro e w8 ⟨rfl, rfl⟩)
            | (go_at_call 78; (with_reducible refine (write_any hl HM7.out HO7.out _ _ _ _ _).mono ?_); rintro e w9 ⟨rfl, hM9⟩; have HM9 := Lib.hid hM9; clear hM9))
          go_end0
          refine ⟨rfl, ?_⟩
          have h9 := HM9.out
          rw [HS7.out, HJ5.out, HS5.out] at h9
          unfold wkA
          rw [HJB.out, HJN.out, if_neg hne, if_pos (by rw [HBU.out, ← qd]; rfl)]
          simp only [Ms.wr, List.set_set] at h9
          exact h9
      · have qd' : (((jd : Int) + 1) == BU) = false := by simpa using qd
        go_wp2_with fail
        go_region
        all_goals
          go_wp2_with fail
          go_end0
          refine ⟨rfl, ?_⟩
          have h9 := (HM5.out.ext hl (Below.refl w5.heap.size w5).drew).ext hl (Below.refl w5.drew.heap.size w5.drew).drew
          unfold wkA
          rw [HJB.out, HJN.out, if_neg hne, if_neg (by rw [HBU.out]; intro e; exact qd (by rw [← e]; rfl))]
          rw [HS5.out] at h9
          exact h9
end Go.Proofs.Ytlhnhmimhpcoaaa
