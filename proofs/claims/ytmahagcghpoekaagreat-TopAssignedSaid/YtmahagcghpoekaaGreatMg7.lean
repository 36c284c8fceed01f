/- The contract of the machine's work. The conditions: the machine reads as named. The contract of the machine's arrivals. The conditions: the machine reads as named. -/
import Derived.Test.YtmahagcghpoekaaGreatMg5
import Derived.Test.YtmahagcghpoekaaGreatMg6
import Derived.IntWalk
import Derived.Deep.RegionLaw
import Derived.Deep.RegionHeldLaw
namespace Go.Proofs.YtmahagcghpoekaaGreat
open Go.RowKit
set_option linter.unusedSimpArgs false
set_option linter.unusedVariables false
theorem RdRun.bcell {w : World} {H : RunH} {R : Rn} (h : RdRun w H R) {i : Nat} (hi : i < R.bu.length) : ∃ b off, H.bA = some ⟨b, off, none⟩ ∧ i < H.bN ∧ b < w.heap.size ∧ w.cell? ⟨b, off + i, none⟩ = some (.int .i64 ((R.bu[i]?).getD 0)) := by
  have hn : i < H.bN := by rw [← h.b.length]; exact hi
  obtain ⟨x, b, off, e, hb, hc, hx⟩ := h.b.idx i hn
  exact ⟨b, off, e, hn, hb, by rw [hx]; exact hc⟩
theorem Mach.work2 {M : MPar} {w : World} {s : Ms} (h : Mach M w s) (hl : MLay M) {i : Nat} (hi : i < M.R.L.length) {jp jt jd : Nat} {js : Bool} (hj : s.ja i = ⟨jp, jt, jd, js⟩) :
    Mach M ((w.setCell ⟨M.J, i * 4 + 1, none⟩ (.int .i64 ((jt : Int) + 1))).setCell ⟨M.J, i * 4 + 2, none⟩ (.int .i64 ((jd : Int) + 1))) { s with j := s.j.set i ⟨jp, jt + 1, jd + 1, js⟩ } := by
  have hjl : i < s.j.length := by rw [h.jl]; exact hi
  have h0 := h.job hl hi (j := 1) (by decide) (encJ_t (s.ja i) (jt + 1))
  have h1 := h0.job hl hi (j := 2) (by decide) (encJ_d _ (jd + 1))
  have e : ∀ (q : List (List Int)) (o : List En) (x : Jb), Ms.ja ⟨q, s.j.set i x, o⟩ i = x := fun q o x => by rw [ja_set hjl, if_pos rfl]
  simp only [List.set_set, e, hj] at h1
  exact h1
theorem Mach.work3 {M : MPar} {w : World} {s : Ms} (h : Mach M w s) (hl : MLay M) {i : Nat} (hi : i < M.R.L.length) {jp jt jd : Nat} {js : Bool} (hj : s.ja i = ⟨jp, jt, jd, js⟩) :
    Mach M ((w.setCell ⟨M.J, i * 4, none⟩ (.int .i64 ((jp : Int) + 1))).setCell ⟨M.J, i * 4 + 1, none⟩ (.int .i64 0)) { s with j := s.j.set i ⟨jp + 1, 0, jd, js⟩ } := by
  have hjl : i < s.j.length := by rw [h.jl]; exact hi
  have h0 := h.job hl hi (j := 0) (by decide) (encJ_p (s.ja i) (jp + 1))
  have h1 := h0.job hl hi (j := 1) (by decide) (encJ_t _ 0)
  have e : ∀ (q : List (List Int)) (o : List En) (x : Jb), Ms.ja ⟨q, s.j.set i x, o⟩ i = x := fun q o x => by rw [ja_set hjl, if_pos rfl]
  simp only [List.set_set, e, hj] at h1
  exact h1
theorem Mach.work4 {M : MPar} {w : World} {s : Ms} (h : Mach M w s) (hl : MLay M) {i : Nat} (hi : i < M.R.L.length) :
    Mach M (w.setCell ⟨M.J, i * 4 + 3, none⟩ (.bool true)) { s with j := s.j.set i { s.ja i with s := true } } := h.job hl hi (j := 3) (by decide) (encJ_s (s.ja i) true)
theorem ja_at {s : Ms} {i : Nat} {x : Jb} {q : List (List Int)} {o : List En} (h : i < s.j.length) : Ms.ja ⟨q, s.j.set i x, o⟩ i = x := by rw [ja_set h, if_pos rfl]
set_option maxRecDepth 100000 in
set_option maxHeartbeats 4000000 in
theorem work_any {M : MPar} {w : World} {s : Ms} {i t : Nat} (hM : Mach M w s) (hl : MLay M) (hR : RdRun M.w0 M.H M.R) (hr : RnOk M.R) (hO : MOk M.R s) (hi : i < M.R.L.length) (hq : s.qa i ≠ []) (hql : (s.qa i).length ≤ 100) (ho : s.o.length ≤ 1000000) (ht : t ≤ 10000) (hd : (s.ja i).d ≤ 10000) :
    Calls Tryz.prog 66 #[.pointer (some ⟨M.p, 0, none⟩), .int .i64 t, .int .i64 i] w fun e w' => e = .returned (.tuple #[]) ∧ Mach M w' (wkA M.R t i s) := by
  obtain ⟨j0, j1, j2, j3⟩ := hM.jcells hi
  have c8 := hM.c8
  have hpc := hO.pc i hi
  have htk := hO.tk i hi
  have hlim := pc_lim hr.r hi hpc
  have hp8 := (pcs_pos hr.r hi).2
  have HM := Lib.hid hM; have HR := Lib.hid hR; have HQ := Lib.hid hq
  have HMD := Lib.hid (hM.ext hl (Below.refl w.heap.size w).drew)
  obtain ⟨jb, hjb⟩ : ∃ x, s.ja i = x := ⟨_, rfl⟩
  have HJB := Lib.hid hjb
  rw [hjb] at j0 j1 j2 j3 hpc htk hlim hd
  obtain ⟨jp, jt, jd, js⟩ := jb
  simp only [] at j0 j1 j2 j3 hpc htk hlim hd
  obtain ⟨nL, hnL⟩ : ∃ x, M.R.L.length = x := ⟨_, rfl⟩
  have HN := Lib.hid hnL
  rw [hnL] at c8
  have hin : i < nL := by omega
  obtain ⟨TK, hTK⟩ : ∃ x, tkA M.R.L i jp = x := ⟨_, rfl⟩
  have HTK := Lib.hid hTK
  rw [hTK] at htk hlim
  have hjt : jt ≤ 200 := by omega
  have hjp : jp ≤ 8 := by omega
  have wt : IntKind.i64.wrap ((jt : Int) + 1) = (jt : Int) + 1 := IntWalk.i64_in _ (by omega)
  have wd : IntKind.i64.wrap ((jd : Int) + 1) = (jd : Int) + 1 := IntWalk.i64_in _ (by omega)
  have wp : IntKind.i64.wrap ((jp : Int) + 1) = (jp : Int) + 1 := IntWalk.i64_in _ (by omega)
  have wm : IntKind.i64.wrap ((t : Int) + 1) = (t : Int) + 1 := IntWalk.i64_in _ (by omega)
  clear hM hR hq hjb hnL hTK
  go_enter Tryz.func66, Tryz.ntmps66
  go_wp2_with fail
  go_region_held3 (fun w' => w'.cell? ⟨M.J, i * 4, none⟩ = some (.int .i64 (jp : Int))) (first | go_keep)
    (first
      | (go_at_call 93; (with_reducible refine (event_any HMD.out hi HQ.out).mono ?_); rintro e w1 ⟨rfl, rfl⟩)
      | (go_at_call 64; (with_reducible refine (write_any hl HMD.out (by omega) _ _ _ _ _).mono ?_); rintro e w2 ⟨rfl, hM2⟩; have HM2 := Lib.hid hM2; have k0 := hM2.jb i hi 0 (by decide); rw [show (s.wr ⟨(t : Int), (i : Int), 4, (jp : Int), s.hd i⟩).ja i = ⟨jp, jt, jd, js⟩ from HJB.out] at k0; have y0 : w2.cell? ⟨M.J, i * 4, none⟩ = some (.int .i64 (jp : Int)) := k0; clear hM2 k0))
  have hw2 := HM2.out.work2 hl hi HJB.out
  obtain ⟨a0, a1, a2, a3⟩ := HM2.out.jcells hi
  rw [show (s.wr ⟨(t : Int), (i : Int), 4, (jp : Int), s.hd i⟩).ja i = ⟨jp, jt, jd, js⟩ from HJB.out] at a0 a1 a2 a3
  simp only [] at a0 a1 a2 a3
  have f1 := HM2.out.fj (i * 4 + 1)
  have f2 := HM2.out.fj (i * 4 + 2)
  have HW2 := Lib.hid hw2
  clear hw2 j0 j1 j2 j3 y0
  go_wp2_with fail
  have hw4 := HW2.out
  obtain ⟨w4, hw4e⟩ : ∃ x, x = (w2.setCell ⟨M.J, i * 4 + 1, none⟩ (.int .i64 ((jt : Int) + 1))).setCell ⟨M.J, i * 4 + 2, none⟩ (.int .i64 ((jd : Int) + 1)) := ⟨_, rfl⟩
  rw [← hw4e] at hw4 ⊢
  obtain ⟨S4, hS4⟩ : ∃ x : Ms, x = ⟨s.q, s.j.set i ⟨jp, jt + 1, jd + 1, js⟩, s.o ++ [⟨(t : Int), (i : Int), 4, (jp : Int), s.hd i⟩]⟩ := ⟨_, rfl⟩
  have hM4 : Mach M w4 S4 := by rw [hS4]; exact hw4
  have hjl : i < s.j.length := by rw [HM.out.jl]; exact hi
  obtain ⟨tb, toff, pb, po, pn, pc, hta, htb, hpb, hpn, hpl, k5, k6, _⟩ := HR.out.t.pcell hi hpc
  obtain ⟨bb, boff, hba, hbn, hbb, bc⟩ := HR.out.bcell (i := i) (by rw [hr.bu]; exact hi)
  have htn : i < M.H.tN := by rw [← HR.out.t.length]; exact hi
  obtain ⟨BU, hBU⟩ : ∃ x, (M.R.bu[i]?).getD 0 = x := ⟨_, rfl⟩
  rw [hBU] at bc
  rw [HTK.out] at k6
  have HBU := Lib.hid hBU
  have HTA := Lib.hid hta
  have HBA := Lib.hid hba
  have HPL := Lib.hid hpl
  have hpn8 : pn ≤ 8 := by omega
  have HK : Hid (∀ wx, Below M.w0.heap.size M.w0 wx → wx.cell? ⟨tb, toff + i * 6 + 5, none⟩ = some (.slice (some ⟨pb, po, none⟩) pn pc) ∧ wx.cell? ⟨pb, po + jp * 2, none⟩ = some (.int .i64 TK) ∧ wx.cell? ⟨bb, boff + i, none⟩ = some (.int .i64 BU)) := Lib.hid (fun wx h => ⟨(h.cell (p := ⟨tb, toff + i * 6 + 5, none⟩) htb).trans k5, (h.cell (p := ⟨pb, po + jp * 2, none⟩) hpb).trans k6, (h.cell (p := ⟨bb, boff + i, none⟩) hbb).trans bc⟩)
  have HM4 := Lib.hid hM4
  have HJ4 : Hid (S4.ja i = ⟨jp, jt + 1, jd + 1, js⟩) := Lib.hid (by rw [hS4]; exact ja_at hjl)
  have HQ4 : Hid (S4.qa i = s.qa i ∧ S4.o.length = s.o.length + 1) := Lib.hid (by rw [hS4]; exact ⟨rfl, by simp⟩)
  have HS4 := Lib.hid hS4
  obtain ⟨a0, a1, a2, a3⟩ := hM4.jcells hi
  rw [HJ4.out] at a0 a1 a2 a3
  simp only [] at a0 a1 a2 a3
  try simp only [Int.natCast_add, Int.cast_ofNat_Int] at a0 a1 a2 a3
  have b0 := hM4.c0
  rw [hta] at b0
  obtain ⟨k5', k6', bc'⟩ := HK.out w4 hM4.lb
  have g0 := hM4.fj (i * 4)
  have g1 := hM4.fj (i * 4 + 1)
  clear hw4 hw4e hM4 hS4 hta hba hpl k5 k6 bc hBU HW2 HM2
  by_cases qt : ((jt : Int) + 1) = TK
  · have qt' : (((jt : Int) + 1) == TK) = true := by simpa using qt
    go_region
    all_goals
      obtain ⟨w4d, hw4d⟩ : ∃ x, x = w4.drew := ⟨_, rfl⟩
      have hM4d : Mach M w4d S4 := by rw [hw4d]; exact HM4.out.ext hl (Below.refl w4.heap.size w4).drew
      rw [← hw4d]
      obtain ⟨z0, z1, z2, z3⟩ := hM4d.jcells hi
      rw [HJ4.out] at z0 z1 z2 z3
      simp only [] at z0 z1 z2 z3
      try simp only [Int.natCast_add, Int.cast_ofNat_Int] at z0 z1 z2 z3
      have y0 := hM4d.fj (i * 4)
      have y1 := hM4d.fj (i * 4 + 1)
      have hM5 := hM4d.work3 hl hi HJ4.out
      clear hw4d
      go_wp2_with fail
      obtain ⟨w5, hw5⟩ : ∃ x, x = (w4d.setCell ⟨M.J, i * 4, none⟩ (.int .i64 ((jp : Int) + 1))).setCell ⟨M.J, i * 4 + 1, none⟩ (.int .i64 0) := ⟨_, rfl⟩
      rw [← hw5] at hM5 ⊢
      obtain ⟨S5, hS5⟩ : ∃ x : Ms, x = ⟨s.q, s.j.set i ⟨jp + 1, 0, jd + 1, js⟩, s.o ++ [⟨(t : Int), (i : Int), 4, (jp : Int), s.hd i⟩]⟩ := ⟨_, rfl⟩
      have HM5 : Hid (Mach M w5 S5) := Lib.hid (by rw [hS5]; rw [HS4.out] at hM5; simp only [List.set_set] at hM5; exact hM5)
      have HJ5 : Hid (S5.ja i = ⟨jp + 1, 0, jd + 1, js⟩) := Lib.hid (by rw [hS5]; exact ja_at hjl)
      have HQ5 : Hid (S5.qa i = s.qa i ∧ S5.o.length = s.o.length + 1) := Lib.hid (by rw [hS5]; exact ⟨rfl, by simp⟩)
      have HS5 := Lib.hid hS5
      have HJN : Hid (jbN M.R.L i ⟨jp, jt, jd, js⟩ = ⟨jp + 1, 0, jd + 1, js⟩) := Lib.hid (by unfold jbN; simp only []; rw [if_pos (by rw [HTK.out]; exact qt)])
      clear hM4d hM5 hS5 hw5 z0 z1 z2 z3 y0 y1 a0 a1 a2 a3 b0 k5' k6' bc' g0 g1
    obtain ⟨a0, a1, a2, a3⟩ := HM5.out.jcells hi
    rw [HJ5.out] at a0 a1 a2 a3
    simp only [] at a0 a1 a2 a3
    try simp only [Int.natCast_add, Int.cast_ofNat_Int] at a0 a1 a2 a3
    have b0 := HM5.out.c0
    have b4 := HM5.out.c4
    rw [HTA.out] at b0
    rw [HBA.out] at b4
    have f3 := HM5.out.fj (i * 4 + 3)
    have k5' := (HK.out w5 HM5.out.lb).1
    have bc' := (HK.out w5 HM5.out.lb).2.2
    by_cases qc : jp + 1 = pn
    · have qc' : (((jp : Int) + 1) == (pn : Int)) = true := by simp; omega
      go_wp2_with fail
      go_region
      all_goals
        go_wp2_with (go_at_call 91; (with_reducible refine (end_any hl (HM5.out.ext hl (Below.refl w5.heap.size w5).drew) hi (by rw [HQ5.out.1]; exact HQ.out) (by rw [HQ5.out.1]; exact hql) (by have := HQ5.out.2; omega) _ _).mono ?_); rintro e w9 ⟨rfl, hM9⟩; have HM9 := Lib.hid hM9; clear hM9)
        go_end0
        refine ⟨rfl, ?_⟩
        have h9 := HM9.out
        rw [HS5.out] at h9
        unfold wkA
        rw [HJB.out, HJN.out, if_pos (by rw [← HPL.out]; exact qc)]
        exact h9
    · have qc' : (((jp : Int) + 1) == (pn : Int)) = false := by simp; omega
      have hne : ¬ (jp + 1) = (taAt M.R.L i).pcs.length := by rw [← HPL.out]; omega
      go_wp2_with fail
      go_region
      all_goals
        by_cases qd : ((jd : Int) + 1) = BU
        · have qd' : (((jd : Int) + 1) == BU) = true := by simpa using qd
          have g0 := a0
          go_wp2_with fail
          go_region
          all_goals
            obtain ⟨w6, hw6⟩ : ∃ x, x = w5.drew.drew := ⟨_, rfl⟩
            have hM6 : Mach M w6 S5 := by rw [hw6]; exact (HM5.out.ext hl (Below.refl w5.heap.size w5).drew).ext hl (Below.refl w5.drew.heap.size w5.drew).drew
            rw [← hw6]
            obtain ⟨z0, z1, z2, z3⟩ := hM6.jcells hi
            have f6 := hM6.fj (i * 4 + 3)
            obtain ⟨S7, hS7⟩ : ∃ x : Ms, x = { S5 with j := S5.j.set i { S5.ja i with s := true } } := ⟨_, rfl⟩
            have HM7 : Hid (Mach M (w6.setCell ⟨M.J, i * 4 + 3, none⟩ (.bool true)) S7) := Lib.hid (by rw [hS7]; exact hM6.work4 hl hi)
            have HQ7 : Hid (S7.qa i ≠ []) := Lib.hid (by rw [hS7]; show S5.qa i ≠ []; rw [HQ5.out.1]; exact HQ.out)
            have HO7 : Hid (S7.o.length ≤ 2000000) := Lib.hid (by rw [hS7]; have := HQ5.out.2; show S5.o.length ≤ 2000000; omega)
            have HS7 := Lib.hid hS7
            clear hw6 hS7
            go_wp2_with (first
              | (go_at_call 93; (with_reducible refine (event_any HM7.out hi HQ7.out).mono ?_); rintro e w8 ⟨rfl, rfl⟩)
              | (go_at_call 64; (with_reducible refine (write_any hl HM7.out HO7.out _ _ _ _ _).mono ?_); rintro e w9 ⟨rfl, hM9⟩; have HM9 := Lib.hid hM9; clear hM9))
            go_end0
            refine ⟨rfl, ?_⟩
            have h9 := HM9.out
            rw [HS7.out, HJ5.out, HS5.out] at h9
            unfold wkA
            rw [HJB.out, HJN.out, if_neg hne, if_pos (by rw [HBU.out, ← qd]; rfl)]
            simp only [Ms.wr, List.set_set] at h9
            exact h9
        · have qd' : (((jd : Int) + 1) == BU) = false := by simpa using qd
          go_wp2_with fail
          go_region
          all_goals
            go_wp2_with fail
            go_end0
            refine ⟨rfl, ?_⟩
            have h9 := (HM5.out.ext hl (Below.refl w5.heap.size w5).drew).ext hl (Below.refl w5.drew.heap.size w5.drew).drew
            unfold wkA
            rw [HJB.out, HJN.out, if_neg hne, if_neg (by rw [HBU.out]; intro e; exact qd (by rw [← e]; rfl))]
            rw [HS5.out] at h9
            exact h9
  · have qt' : (((jt : Int) + 1) == TK) = false := by simpa using qt
    go_region
    all_goals
      obtain ⟨w5, hw5⟩ : ∃ x, x = w4.drew := ⟨_, rfl⟩
      obtain ⟨S5, hS5⟩ : ∃ x : Ms, x = S4 := ⟨_, rfl⟩
      have HM5 : Hid (Mach M w5 S5) := Lib.hid (by rw [hw5, hS5]; exact HM4.out.ext hl (Below.refl w4.heap.size w4).drew)
      rw [← hw5]
      have HJ5 : Hid (S5.ja i = ⟨jp, jt + 1, jd + 1, js⟩) := Lib.hid (by rw [hS5]; exact HJ4.out)
      have HQ5 : Hid (S5.qa i = s.qa i ∧ S5.o.length = s.o.length + 1) := Lib.hid (by rw [hS5]; exact HQ4.out)
      have HS5 := Lib.hid (hS5.trans HS4.out)
      have HJN : Hid (jbN M.R.L i ⟨jp, jt, jd, js⟩ = ⟨jp, jt + 1, jd + 1, js⟩) := Lib.hid (by unfold jbN; simp only []; rw [if_neg (by rw [HTK.out]; exact qt)])
      clear hS5 hw5 a0 a1 a2 a3 b0 k5' k6' bc' g0 g1
    obtain ⟨a0, a1, a2, a3⟩ := HM5.out.jcells hi
    rw [HJ5.out] at a0 a1 a2 a3
    simp only [] at a0 a1 a2 a3
    try simp only [Int.natCast_add, Int.cast_ofNat_Int] at a0 a1 a2 a3
    have b0 := HM5.out.c0
    have b4 := HM5.out.c4
    rw [HTA.out] at b0
    rw [HBA.out] at b4
    have f3 := HM5.out.fj (i * 4 + 3)
    have k5' := (HK.out w5 HM5.out.lb).1
    have bc' := (HK.out w5 HM5.out.lb).2.2
    have qc' : ((jp : Int) == (pn : Int)) = false := by simp; omega
    have hne : ¬ (jp) = (taAt M.R.L i).pcs.length := by rw [← HPL.out]; omega
    go_wp2_with fail
    go_region
    all_goals
      by_cases qd : ((jd : Int) + 1) = BU
      · have qd' : (((jd : Int) + 1) == BU) = true := by simpa using qd
        have g0 := a0
        go_wp2_with fail
        go_region
        all_goals
          obtain ⟨w6, hw6⟩ : ∃ x, x = w5.drew.drew := ⟨_, rfl⟩
          have hM6 : Mach M w6 S5 := by rw [hw6]; exact (HM5.out.ext hl (Below.refl w5.heap.size w5).drew).ext hl (Below.refl w5.drew.heap.size w5.drew).drew
          rw [← hw6]
          obtain ⟨z0, z1, z2, z3⟩ := hM6.jcells hi
          have f6 := hM6.fj (i * 4 + 3)
          obtain ⟨S7, hS7⟩ : ∃ x : Ms, x = { S5 with j := S5.j.set i { S5.ja i with s := true } } := ⟨_, rfl⟩
          have HM7 : Hid (Mach M (w6.setCell ⟨M.J, i * 4 + 3, none⟩ (.bool true)) S7) := Lib.hid (by rw [hS7]; exact hM6.work4 hl hi)
          have HQ7 : Hid (S7.qa i ≠ []) := Lib.hid (by rw [hS7]; show S5.qa i ≠ []; rw [HQ5.out.1]; exact HQ.out)
          have HO7 : Hid (S7.o.length ≤ 2000000) := Lib.hid (by rw [hS7]; have := HQ5.out.2; show S5.o.length ≤ 2000000; omega)
          have HS7 := Lib.hid hS7
          clear hw6 hS7
          go_wp2_with (first
            | (go_at_call 93; (with_reducible refine (event_any HM7.out hi HQ7.out).mono ?_); rintro e w8 ⟨rfl, rfl⟩)
            | (go_at_call 64; (with_reducible refine (write_any hl HM7.out HO7.out _ _ _ _ _).mono ?_); rintro e w9 ⟨rfl, hM9⟩; have HM9 := Lib.hid hM9; clear hM9))
          go_end0
          refine ⟨rfl, ?_⟩
          have h9 := HM9.out
          rw [HS7.out, HJ5.out, HS5.out] at h9
          unfold wkA
          rw [HJB.out, HJN.out, if_neg hne, if_pos (by rw [HBU.out, ← qd]; rfl)]
          simp only [Ms.wr, List.set_set] at h9
          exact h9
      · have qd' : (((jd : Int) + 1) == BU) = false := by simpa using qd
        go_wp2_with fail
        go_region
        all_goals
          go_wp2_with fail
          go_end0
          refine ⟨rfl, ?_⟩
          have h9 := (HM5.out.ext hl (Below.refl w5.heap.size w5).drew).ext hl (Below.refl w5.drew.heap.size w5.drew).drew
          unfold wkA
          rw [HJB.out, HJN.out, if_neg hne, if_neg (by rw [HBU.out]; intro e; exact qd (by rw [← e]; rfl))]
          rw [HS5.out] at h9
          exact h9
end Go.Proofs.YtmahagcghpoekaaGreat
namespace Go.Proofs.YtmahagcghpoekaaGreat
open Go.RowKit
set_option linter.unusedSimpArgs false
set_option linter.unusedVariables false
theorem push_step {M : MPar} {wr wb w1 : World} {s : Ms} {i : Nat} {g : Nat → Hdr} {a' : Option Addr} {c' : Nat} {x : Int} (hM : Mach M wr s) (hl : MLay M) (hi : i < M.R.L.length) (g1 : ∀ k, k < M.R.L.length → wr.cell? ⟨M.W, k, none⟩ = some (sl (g k))) (g2 : IRows M.K wr M.R.L.length g s.qa)
    (hbb : Below wr.heap.size wr wb) (hown : w1.ownsRow M.K 3 1 (.slice a' ((g i).n + 1) c') ((g i).n + 1) ((s.qa i ++ [x]).flatMap enc1)) (hg : wb.grownBy w1 (sl (g i)).ownBlock)
    (hb : (Value.slice a' ((g i).n + 1) c').ownBlock = (sl (g i)).ownBlock ∨ (Value.slice a' ((g i).n + 1) c').ownBlock = some wb.heap.size) :
    w1.cell? ⟨M.p, 7, none⟩ = some (.slice (some ⟨M.W, 0, none⟩) M.R.L.length M.R.L.length) ∧ w1.cell? ⟨M.W, i, none⟩ = some (sl (g i)) ∧ w1.frozen? ⟨M.W, i, none⟩ = false ∧
    Hid (Mach M (w1.setCell ⟨M.W, i, none⟩ (.slice a' ((g i).n + 1) c')) { s with q := s.q.set i (s.qa i ++ [x]) }) := by
  have hk := hM.kl
  have hMb := hM.ext hl hbb
  have hkb := hMb.kl
  have g2b := g2.ext hbb
  have hWz : M.W < wr.heap.size := Nat.lt_of_lt_of_le hl.W.2 hk
  have g1b : ∀ k, k < M.R.L.length → wb.cell? ⟨M.W, k, none⟩ = some (sl (g k)) := fun k hk => (hbb.cell (p := ⟨M.W, k, none⟩) hWz).trans (g1 k hk)
  have hbK : Below M.K wb w1 := grown_below (g2b.own i hi) hg hkb
  have hp2 := hbK.cell (p := ⟨M.p, 7, none⟩) hl.p.2
  refine ⟨hp2.trans hMb.c7, (hbK.cell (p := ⟨M.W, i, none⟩) hl.W.2).trans (g1b i hi), (hbK.frozen (p := ⟨M.W, i, none⟩) hl.W.2).trans (hMb.fw i), Lib.hid ?_⟩
  exact hMb.queue hl hi hbK (fun a m c h => owns_kept h (g2b.own i hi) (by decide) hg) g1b (d := ⟨a', (g i).n + 1, c'⟩) (g2b.push hi hown hg hb)
theorem relA_drop {t : Int} {k : Nat} {evs : List (List P2)} {s : Ms} (h : k < evs.length) : relA t k (evs.drop k) s = relA t (k + 1) (evs.drop (k + 1)) (relE t k 0 (evAt evs k) s) := by
  rw [List.drop_eq_getElem_cons h, relA]
  unfold evAt; rw [List.getElem?_eq_getElem h]; rfl
theorem sigA_qa (t : Int) : ∀ (gs : List P2) (s : Ms) {x : Nat}, (sigA t gs s).qa x = s.qa x
  | [], s, x => rfl
  | g :: gs, s, x => by
    rw [sigA, sigA_qa t gs]
    unfold Ms.qa; rw [sigS_spec.1]
set_option maxRecDepth 100000 in
set_option maxHeartbeats 8000000 in
theorem arrivals_any {M : MPar} {w : World} {s : Ms} {t : Nat} (hM : Mach M w s) (hl : MLay M) (hR : RdRun M.w0 M.H M.R) (hr : RnOk M.R) (hO : MOk M.R s) (hOf : M.O = ofL M.R.L) (hqn : ∀ x, ((relA t 0 M.R.ev s).qa x).length ≤ 100) (ho : s.o.length ≤ 1000000) (ht : t ≤ 10000) :
    Calls Tryz.prog 63 #[.pointer (some ⟨M.p, 0, none⟩), .int .i64 t] w fun e w' => e = .returned (.tuple #[]) ∧ Mach M w' (arrA M.R t s) := by
  have c3 := hM.c3
  have c5 := hM.c5
  have e1 := E1
  have HM := Lib.hid hM; have HR := Lib.hid hR; have HRN := Lib.hid hr; have HO := Lib.hid hO; have HQN := Lib.hid hqn
  have hen := hR.e.len
  have hen2 := hr.ev
  have HEN := Lib.hid hen
  have hL5 := hr.r.len
  obtain ⟨nL, hnL⟩ : ∃ x, M.R.L.length = x := ⟨_, rfl⟩
  have HNL := Lib.hid hnL
  have hE5 : M.H.eN = nL := by omega
  have hn5 : nL ≤ 5 := by omega
  rw [hE5] at c3
  obtain ⟨eA, heA⟩ : ∃ x, M.H.eA = x := ⟨_, rfl⟩
  rw [heA] at c3
  have HEA := Lib.hid heA
  clear heA
  obtain ⟨sA, hsA⟩ : ∃ x, M.H.sA = x := ⟨_, rfl⟩
  obtain ⟨nS, hnS⟩ : ∃ x, M.H.sN = x := ⟨_, rfl⟩
  rw [hsA, hnS] at c5
  have HSG : Hid (Rd M.w0 sA nS 2 (M.R.sg.map enc2)) := Lib.hid (by rw [← hsA, ← hnS]; exact hR.s)
  have hnS40 : nS ≤ 40 := by rw [← HSG.out.length]; exact hr.sl
  clear hsA hnS
  have HC5 := Lib.hid c5
  have HC0 := Lib.hid hM.c0
  clear c5
  obtain ⟨S1, hS1⟩ : ∃ x, relA (t : Int) 0 M.R.ev s = x := ⟨_, rfl⟩
  have HS1 : Hid (relA (t : Int) 0 (M.R.ev.drop 0) s = S1) := Lib.hid hS1
  have HS1' := Lib.hid hS1
  have HE5 := Lib.hid hE5
  clear hM hR hr hO hqn hen hnL hS1 hen2 hE5
  go_enter Tryz.func63, Tryz.ntmps63
  go_wp2
  go_loopw [18] (fun i wr => ∃ (k : Nat) (sr : Ms), k ≤ nL ∧ i = .int .i64 k ∧ Mach M wr sr ∧ relA (t : Int) k (M.R.ev.drop k) sr = S1 ∧ sr.o.length ≤ s.o.length + 40 * k) (fun i _ => nL - (intOf i).toNat)
  case atStart => exact ⟨0, s, Nat.zero_le _, rfl, HM.out, HS1.out, by omega⟩
  case round =>
    clear HS1
    obtain ⟨k, sr, hk, rfl, hM, hS, hob⟩ := hrel
    have HM2 := Lib.hid hM
    clear hM
    by_cases hkn : k < nL
    · have hkE : k < M.H.eN := by rw [HE5.out]; exact hkn
      have hkL : k < M.R.L.length := by rw [HNL.out]; exact hkn
      have hkev : k < M.R.ev.length := by rw [HEN.out]; exact hkE
      obtain ⟨b, off, ea, en, ec, hea, hb, hc, hRd⟩ := HR.out.e.at_ k hkE
      have hc' := (HM2.out.lb.cell (p := ⟨b, off + k, none⟩) hb).trans hc
      have hel := HRN.out.el (evAt M.R.ev k) (by unfold evAt; rw [List.getElem?_eq_getElem hkev]; exact List.getElem_mem hkev)
      have hen40 : en ≤ 40 := by rw [← hRd.length]; exact hel.1
      rw [relA_drop hkev] at hS
      obtain ⟨es, hes⟩ : ∃ x, evAt M.R.ev k = x := ⟨_, rfl⟩
      rw [hes] at hS hRd hel
      have HRD := Lib.hid hRd
      have HEL := Lib.hid hel.2
      obtain ⟨S2, hS2⟩ : ∃ x, relE (t : Int) k 0 es sr = x := ⟨_, rfl⟩
      rw [hS2] at hS
      have hS2l : S2.q.length = M.R.L.length ∧ ∀ x, (sr.qa x).length ≤ (S2.qa x).length := by
        rw [← hS2, relE_eq _ _ _ _ _ (by rw [HM2.out.ql]; exact hkL)]
        refine ⟨by simpa using HM2.out.ql, fun x => ?_⟩
        rw [qa_set (q := sr.q) (by rw [HM2.out.ql]; exact hkL)]
        split
        · rename_i e; subst e; simp
        · exact Nat.le_refl _
      have HB2 : Hid (∀ x, (S2.qa x).length ≤ 100) := Lib.hid (fun x => by
        have h1 := HQN.out x
        rw [HS1'.out, ← hS, (relA_spec (t : Int) (M.R.ev.drop (k + 1)) (k + 1) S2 (by rw [hS2l.1, List.length_drop, HNL.out, HEN.out, HE5.out]; omega)).2.2 x, List.length_append] at h1
        omega)
      have HS := Lib.hid hS
      have HS2 : Hid (relE (t : Int) k 0 (es.drop 0) sr = S2) := Lib.hid hS2
      obtain rfl : eA = some ⟨b, off, none⟩ := HEA.out.symm.trans hea
      clear hS hS2 hes hRd hel hc hS2l hea
      go_wp2
      go_loopw [25] (fun i wx => ∃ (j : Nat) (sx : Ms), j ≤ en ∧ i = .int .i64 j ∧ Mach M wx sx ∧ relE (t : Int) k j (es.drop j) sx = S2 ∧ sx.o.length ≤ s.o.length + 40 * k + j) (fun i _ => en - (intOf i).toNat)
      case atStart => exact ⟨0, sr, Nat.zero_le _, rfl, HM2.out, HS2.out, by omega⟩
      case round =>
        clear HS2 HM2 hc'
        obtain ⟨j, sx, hj, rfl, hM, hS, hob2⟩ := hrel
        have HM3 := Lib.hid hM
        have hqk : (sx.qa k).length ≤ 100 := by
          have h1 := HB2.out k
          rw [← hS, relE_eq _ _ _ _ _ (by rw [hM.ql]; exact hkL), qa_self (by rw [hM.ql]; exact hkL), List.length_append] at h1
          omega
        have HQK := Lib.hid hqk
        by_cases hjn : j < en
        · have hRx := HRD.out.ext hM.lb
          obtain ⟨hjl, b2, off2, rfl, hb2, d0, d1⟩ := hRx.two j hjn
          obtain ⟨⟨x, y⟩, hxy⟩ : ∃ p, es[j] = p := ⟨_, rfl⟩
          have hmem : (x, y) ∈ es := by rw [← hxy]; exact List.getElem_mem hjl
          have hlim := HEL.out _ hmem
          rw [hxy] at d0 d1
          simp only [] at d0 d1 hlim
          rw [List.drop_eq_getElem_cons hjl, relE, hxy] at hS
          simp only [] at hS
          have wx : IntKind.i64.wrap (x + y) = x + y := IntWalk.i64_in _ (by omega)
          by_cases hxt : x + y = (t : Int)
          · have hxt' : (x + y == (t : Int)) = true := by simpa using hxt
            rw [if_pos hxt] at hS
            have HSN := Lib.hid hS
            have HMB : Hid (Mach M (wr.alloc (.cells #[.int .i64 x, .int .i64 y] 46)) sx) := Lib.hid (hM.ext hl (by (repeat' (first | (with_reducible exact Below.refl _ _) | (with_reducible assumption) | (with_reducible refine Below.alloc ?_ ?_ _) | (with_reducible refine Below.drew ?_) | (with_reducible refine Below.draws ?_ _) | (with_reducible refine Below.setCell ?_ ?_ _) | (refine Below.then ?_ (by with_reducible assumption)) | go_size))))
            clear hM hS hRx hxy hmem hlim
            go_wp2_with (go_at_call 64; (with_reducible refine (write_any hl HMB.out (by omega) _ _ _ _ _).mono ?_); rintro e w6 ⟨rfl, hM6⟩; have HM6 := Lib.hid hM6; clear hM6)
            obtain ⟨s6, hs6⟩ : ∃ z, z = sx.wr ⟨(t : Int), (k : Int), 1, (j : Int), 0⟩ := ⟨_, rfl⟩
            rw [← hs6] at HM6
            obtain ⟨g, g1, g2⟩ := HM6.out.qu
            have q7 := HM6.out.c7
            have qW := g1 k hkL
            unfold sl at qW
            have G1 := Lib.hid g1; have G2 := Lib.hid g2
            have hWz : M.W < w6.heap.size := Nat.lt_of_lt_of_le hl.W.2 HM6.out.kl
            have hpz : M.p < w6.heap.size := Nat.lt_of_lt_of_le hl.p.2 HM6.out.kl
            have hfW := HM6.out.fw k
            have hKl := HM6.out.kl
            have hgn : (g k).n ≤ 1000 := by
              rw [← g2.len hkL]
              have : s6.qa k = sx.qa k := by rw [hs6]; rfl
              rw [this]; omega
            have HS6 := Lib.hid hs6
            clear g1 g2 hs6
            rw [HNL.out] at q7
            go_wp2_with fail
            go_region_law ((refine step_app2 (by rfl) _ _ _ (by rfl) e1 (B := M.K) (news := [.int .i64 (j : Int)]) (by rfl) (by exact (G2.out.ext (by (repeat' (first | (with_reducible exact Below.refl _ _) | (with_reducible assumption) | (with_reducible refine Below.alloc ?_ ?_ _) | (with_reducible refine Below.drew ?_) | (with_reducible refine Below.draws ?_ _) | (with_reducible refine Below.setCell ?_ ?_ _) | (refine Below.then ?_ (by with_reducible assumption)) | go_size)))).own k hkL) (by rfl) (by rfl) (by exact World.news_of_block (heap_alloc_new _ _)) (by intro u hu; simp at hu; rcases hu with rfl; rfl) (by omega) (by omega) (by decide) (by simp; omega) ?_; intro a1 c1 w7 hown1 hg1 hb1; obtain ⟨p7, pW, pf, HX⟩ := push_step HM6.out hl hkL G1.out G2.out (by (repeat' (first | (with_reducible exact Below.refl _ _) | (with_reducible assumption) | (with_reducible refine Below.alloc ?_ ?_ _) | (with_reducible refine Below.drew ?_) | (with_reducible refine Below.draws ?_ _) | (with_reducible refine Below.setCell ?_ ?_ _) | (refine Below.then ?_ (by with_reducible assumption)) | go_size))) (ownsI_snoc hown1) hg1 hb1; rw [HNL.out] at p7; clear hown1 hg1 hb1))
            all_goals
              go_wp2_with fail
              go_roundw
              case rel => exact ⟨j + 1, _, hjn, by go_num, HX.out, by rw [HS6.out]; exact HSN.out, by rw [HS6.out]; simp [Ms.wr]; omega⟩
              case measure => simp [intOf]; omega
          · have hxt' : (x + y == (t : Int)) = false := by simpa using hxt
            rw [if_neg hxt] at hS
            have HSN := Lib.hid hS
            have HMB : Hid (Mach M (wr.alloc (.cells #[.int .i64 x, .int .i64 y] 46)) sx) := Lib.hid (hM.ext hl (by (repeat' (first | (with_reducible exact Below.refl _ _) | (with_reducible assumption) | (with_reducible refine Below.alloc ?_ ?_ _) | (with_reducible refine Below.drew ?_) | (with_reducible refine Below.draws ?_ _) | (with_reducible refine Below.setCell ?_ ?_ _) | (refine Below.then ?_ (by with_reducible assumption)) | go_size))))
            clear hM hS hRx hxy hmem hlim
            go_wp2
            go_roundw
            case rel => exact ⟨j + 1, sx, hjn, by go_num, HMB.out, HSN.out, by omega⟩
            case measure => simp [intOf]; omega
        · have he : sx = S2 := by
            rw [List.drop_of_length_le (by have := HRD.out.length; omega)] at hS
            exact hS
          subst he
          clear hM hS
          go_wp2
          go_roundw
          case rel => exact ⟨k + 1, sx, hkn, by go_num, HM3.out, HS.out, by omega⟩
          case measure => simp [intOf]; omega
    · have he : sr = S1 := by
        rw [List.drop_of_length_le (by rw [HEN.out, HE5.out]; omega)] at hS
        exact hS
      have HM1 : Hid (Mach M wr S1) := Lib.hid (by rw [← he]; exact HM2.out)
      have hob1 : S1.o.length ≤ s.o.length + 200 := by rw [← he]; omega
      have hOM1 : MOk M.R S1 := by rw [← HS1'.out]; exact HO.out.relA HRN.out _
      have HOM1 := Lib.hid hOM1
      obtain ⟨S3, hS3⟩ : ∃ x, sigA (t : Int) M.R.sg S1 = x := ⟨_, rfl⟩
      have HS3 : Hid (sigA (t : Int) (M.R.sg.drop 0) S1 = S3) := Lib.hid hS3
      have HS3' := Lib.hid hS3
      have c5 := HM1.out.c5
      have hc5e : M.H.sA = sA ∧ M.H.sN = nS := by
        have h1 := HC5.out
        have h2 := HM.out.c5
        rw [h1] at h2
        simp at h2
        exact ⟨h2.1.symm, h2.2.symm⟩
      rw [hc5e.1, hc5e.2] at c5
      clear hS hS3 he hc5e HM2 hob hOM1
      go_wp2
      go_loopw [66] (fun i wx => ∃ (j : Nat) (sx : Ms), j ≤ nS ∧ i = .int .i64 j ∧ Mach M wx sx ∧ sigA (t : Int) (M.R.sg.drop j) sx = S3 ∧ sx.o.length ≤ s.o.length + 200 + j) (fun i _ => nS - (intOf i).toNat)
      case atStart => exact ⟨0, S1, Nat.zero_le _, rfl, HM1.out, HS3.out, by omega⟩
      case round =>
        clear HS3 HM1 c5
        obtain ⟨j, sx, hj, rfl, hM, hS, hob2⟩ := hrel
        have HM3 := Lib.hid hM
        by_cases hjn : j < nS
        · obtain ⟨hjl, b2, off2, rfl, hb2, d0, d1⟩ := (HSG.out.ext hM.lb).two j hjn
          obtain ⟨⟨x, y⟩, hxy⟩ : ∃ p, M.R.sg[j] = p := ⟨_, rfl⟩
          have hmem : (x, y) ∈ M.R.sg := by rw [← hxy]; exact List.getElem_mem hjl
          have hlim := HRN.out.sg _ hmem
          rw [hxy] at d0 d1
          simp only [] at d0 d1 hlim
          obtain ⟨ix, rfl⟩ := Int.eq_ofNat_of_zero_le hlim.1
          have hixL : ix < M.R.L.length := by omega
          have hixn : ix < nL := by rw [← HNL.out]; exact hixL
          rw [List.drop_eq_getElem_cons hjl, sigA, hxy, sigS] at hS
          simp only [Int.toNat_natCast] at hS
          have HMB : Hid (Mach M (wr.alloc (.cells #[.int .i64 x, .int .i64 (ix : Int)] 46)) sx) := Lib.hid (hM.ext hl (by (repeat' (first | (with_reducible exact Below.refl _ _) | (with_reducible assumption) | (with_reducible refine Below.alloc ?_ ?_ _) | (with_reducible refine Below.drew ?_) | (with_reducible refine Below.draws ?_ _) | (with_reducible refine Below.setCell ?_ ?_ _) | (refine Below.then ?_ (by with_reducible assumption)) | go_size))))
          have HW0 : Hid (Mach M (wr.alloc (.cells #[.int .i64 x, .int .i64 (ix : Int)] 46)) sx) := HMB
          by_cases hxt : x = (t : Int)
          · have hxt' : (x == (t : Int)) = true := by simpa using hxt
            subst hxt
            cases hrd : rdB sx ix
            · rw [if_neg (fun q => q.2 (rdB_no.1 hrd))] at hS
              have HSN := Lib.hid hS; have HRDB := Lib.hid hrd
              clear hM hS hxy hmem hlim hrd
              go_wp2_with (go_at_call 89; (with_reducible refine (ready_is HMB.out hixL HRDB.out).mono ?_); rintro e w6 ⟨rfl, rfl⟩)
              go_roundw
              case rel => exact ⟨j + 1, sx, hjn, by go_num, HMB.out, HSN.out, by omega⟩
              case measure => simp [intOf]; omega
            · rw [if_pos ⟨rfl, rdB_iff.1 hrd⟩] at hS
              have HSN := Lib.hid hS; have HRDB := Lib.hid hrd
              have c8 := hM.c8
              rw [HNL.out] at c8
              have hJz : M.J < wr.heap.size := Nat.lt_of_lt_of_le hl.J.2 hM.kl
              have hpz : M.p < wr.heap.size := Nat.lt_of_lt_of_le hl.p.2 hM.kl
              obtain ⟨_, _, _, j3⟩ := hM.jcells hixL
              have f3 := hM.fj (ix * 4 + 3)
              have hM4 : Mach M ((wr.setCell ⟨M.J, ix * 4 + 3, none⟩ (.bool true)).alloc (.cells #[.int .i64 (t : Int), .int .i64 (ix : Int)] 46)) { sx with j := sx.j.set ix { sx.ja ix with s := true } } := (hM.job hl hixL (j := 3) (by decide) (encJ_s (sx.ja ix) true)).ext hl (by (repeat' (first | (with_reducible exact Below.refl _ _) | (with_reducible assumption) | (with_reducible refine Below.alloc ?_ ?_ _) | (with_reducible refine Below.drew ?_) | (with_reducible refine Below.draws ?_ _) | (with_reducible refine Below.setCell ?_ ?_ _) | (refine Below.then ?_ (by with_reducible assumption)) | go_size)))
              have HM4 := Lib.hid hM4
              have ho4 : ({ sx with j := sx.j.set ix { sx.ja ix with s := true } } : Ms).o.length ≤ 2000000 := by simp only []; omega
              have HO4 := Lib.hid ho4
              clear hM hS hxy hmem hlim hrd hM4 ho4
              go_wp2_with (first
                | (go_at_call 89; (with_reducible refine (ready_is HMB.out hixL HRDB.out).mono ?_); rintro e w6 ⟨rfl, rfl⟩)
                | (go_at_call 64; (with_reducible refine (write_any hl HM4.out HO4.out _ _ _ _ _).mono ?_); rintro e w7 ⟨rfl, hM7⟩; have HM7 := Lib.hid hM7; clear hM7))
              go_roundw
              case rel => exact ⟨j + 1, _, hjn, by go_num, HM7.out, HSN.out, by simp [Ms.wr]; omega⟩
              case measure => simp [intOf]; omega
          · have hxt' : (x == (t : Int)) = false := by simpa using hxt
            rw [if_neg (fun q => hxt q.1)] at hS
            have HSN := Lib.hid hS
            clear hM hS hxy hmem hlim
            go_wp2
            go_roundw
            case rel => exact ⟨j + 1, sx, hjn, by go_num, HMB.out, HSN.out, by omega⟩
            case measure => simp [intOf]; omega
        · have he : sx = S3 := by
            rw [List.drop_of_length_le (by have := HSG.out.length; omega)] at hS
            exact hS
          have HM5 : Hid (Mach M wr S3) := Lib.hid (by rw [← he]; exact HM3.out)
          have hob5 : S3.o.length ≤ s.o.length + 300 := by rw [← he]; omega
          have hOM3 : MOk M.R S3 := by rw [← HS3'.out]; exact MOk.sigA _ _ HOM1.out HRN.out.sg
          have hq3 : ∀ x, (S3.qa x).length ≤ 100 := fun x => by
            have : S3.qa x = S1.qa x := by rw [← HS3'.out]; exact sigA_qa _ _ _
            rw [this, ← HS1'.out]; exact HQN.out x
          have HOM3 := Lib.hid hOM3; have HQ3 := Lib.hid hq3
          obtain ⟨S4, hS4⟩ : ∃ x, endA M.R.L (t : Int) nL 0 S3 = x := ⟨_, rfl⟩
          have HS4 : Hid (endA M.R.L (t : Int) (nL - 0) 0 S3 = S4) := Lib.hid hS4
          have HFIN : Hid (arrA M.R t s = S4) := Lib.hid (by unfold arrA; rw [HS1'.out, HS3'.out, HNL.out]; exact hS4)
          have c0 := HM5.out.c0
          have htn : M.H.tN = nL := by rw [← HNL.out]; exact HR.out.t.length.symm
          rw [htn] at c0
          clear hM hS he hS4 HM3 hob2 hOM3 hq3 htn
          go_wp2
          go_loopw [99] (fun i wx => ∃ (j : Nat) (sx : Ms), j ≤ nL ∧ i = .int .i64 j ∧ Mach M wx sx ∧ MOk M.R sx ∧ (∀ x, (sx.qa x).length ≤ 100) ∧ endA M.R.L (t : Int) (nL - j) j sx = S4 ∧ sx.o.length ≤ s.o.length + 300 + j) (fun i _ => nL - (intOf i).toNat)
          case atStart => exact ⟨0, S3, Nat.zero_le _, rfl, HM5.out, HOM3.out, HQ3.out, HS4.out, by omega⟩
          case round =>
            clear HS4 HM5 c0
            obtain ⟨j, sx, hj, rfl, hM, hOx, hqx, hS, hob6⟩ := hrel
            have HM6 := Lib.hid hM; have HOX := Lib.hid hOx; have HQX := Lib.hid hqx
            by_cases hjn2 : j < nL
            · have hjL : j < M.R.L.length := by rw [HNL.out]; exact hjn2
              rw [show nL - j = (nL - (j + 1)) + 1 by omega, endA, endS] at hS
              cases hrd : rdB sx j
              · rw [if_neg (fun q => q.1 (rdB_no.1 hrd))] at hS
                have HSN := Lib.hid hS; have HRDB := Lib.hid hrd
                clear hM hOx hqx hS hrd
                go_wp2_with (go_at_call 89; (with_reducible refine (ready_is HM6.out hjL HRDB.out).mono ?_); rintro e w6 ⟨rfl, rfl⟩)
                go_roundw
                case rel => exact ⟨j + 1, sx, hjn2, by go_num, HM6.out, HOX.out, HQX.out, HSN.out, by omega⟩
                case measure => simp [intOf]; omega
              · have c8 := hM.c8
                rw [HNL.out] at c8
                obtain ⟨_, _, _, j3⟩ := hM.jcells hjL
                have HRDB := Lib.hid hrd
                have hqne := rdB_iff.1 hrd
                obtain ⟨A, hA⟩ : ∃ A, (sx.ja j).s = A := ⟨_, rfl⟩
                rw [hA] at hS j3
                cases A
                · rw [if_neg (fun q => by have := q.2.1; simp at this)] at hS
                  have HSN := Lib.hid hS
                  clear hM hOx hqx hS hrd hA hqne
                  go_wp2_with (go_at_call 89; (with_reducible refine (ready_is HM6.out hjL HRDB.out).mono ?_); rintro e w6 ⟨rfl, rfl⟩)
                  go_roundw
                  case rel => exact ⟨j + 1, sx, hjn2, by go_num, HM6.out, HOX.out, HQX.out, HSN.out, by omega⟩
                  case measure => simp [intOf]; omega
                · obtain ⟨B, hB⟩ : ∃ B, insB M.R.L sx j = B := ⟨_, rfl⟩
                  rw [hB] at hS
                  have HLK := Lib.hid (locked_is hM HR.out hOx hjL hB)
                  cases B
                  · rw [if_pos ⟨hqne, rfl, rfl⟩] at hS
                    have HSN := Lib.hid hS
                    have HMF : Hid (∀ w1, Below wr.heap.size wr w1 → Calls Tryz.prog 91 #[.pointer (some ⟨M.p, 0, none⟩), .int .i64 (t : Int), .int .i64 (j : Int), .int .i64 1] w1 fun e w' => e = .returned (.tuple #[]) ∧ Mach M w' (fin1 t j 1 sx)) := Lib.hid (fun w1 h1 => end_any hl (hM.ext hl h1) hjL hqne (hqx j) (by omega) _ _)
                    have HOF := Lib.hid (hOx.fin HRN.out (t : Int) 1 hjL)
                    have HQF : Hid (∀ x, ((fin1 (t : Int) j 1 sx).qa x).length ≤ 100) := Lib.hid (fun x => by
                      rw [fin_qa (by rw [hM.ql]; exact hjL)]
                      split
                      · have := hqx j; rw [List.length_tail]; omega
                      · exact hqx x)
                    clear hM hOx hqx hS hrd hA hqne hB
                    go_wp2_with (first
                      | (go_at_call 89; (with_reducible refine (ready_is HM6.out hjL HRDB.out).mono ?_); rintro e w6 ⟨rfl, rfl⟩)
                      | (go_at_call 90; (with_reducible refine HLK.out.mono ?_); rintro e w7 ⟨rfl, hb7⟩; have B7 := Lib.hid hb7; clear hb7)
                      | (go_at_call 91; (with_reducible refine (HMF.out _ B7.out).mono ?_); rintro e w8 ⟨rfl, hM8⟩; have HM8 := Lib.hid hM8; clear hM8))
                    go_roundw
                    case rel => exact ⟨j + 1, _, hjn2, by go_num, HM8.out, HOF.out, HQF.out, HSN.out, by simp [fin1]; omega⟩
                    case measure => simp [intOf]; omega
                  · rw [if_neg (fun q => by have := q.2.2; simp at this)] at hS
                    have HSN := Lib.hid hS
                    clear hM hOx hqx hS hrd hA hqne hB
                    go_wp2_with (first
                      | (go_at_call 89; (with_reducible refine (ready_is HM6.out hjL HRDB.out).mono ?_); rintro e w6 ⟨rfl, rfl⟩)
                      | (go_at_call 90; (with_reducible refine HLK.out.mono ?_); rintro e w7 ⟨rfl, hb7⟩; have B7 := Lib.hid hb7; clear hb7))
                    go_roundw
                    case rel => exact ⟨j + 1, sx, hjn2, by go_num, HM6.out.ext hl B7.out, HOX.out, HQX.out, HSN.out, by omega⟩
                    case measure => simp [intOf]; omega
            · have hfin : sx = S4 := by rw [show nL - j = 0 by omega] at hS; exact hS
              have HM9 : Hid (Mach M wr S4) := Lib.hid (by rw [← hfin]; exact hM)
              clear hM hOx hqx hS hfin
              go_wp2
              go_end0
              exact ⟨rfl, by rw [HFIN.out]; exact HM9.out⟩
end Go.Proofs.YtmahagcghpoekaaGreat
