/- The contract of the reference's tick. The conditions: the run under way reads as named. The contract of the reference's ordered. The conditions: the events read as named. The reference's run while it is laid out. The conditions: the run reads as named. What the laws of the chapter call: sane. No condition. -/
import Derived.Test.YtlhnhmimhpcoaaaGreatMg10
import Derived.Test.YtlhnhmimhpcoaaaGreatMg7
import Derived.Test.YtlhnhmimhpcoaaaGreatMg3
import Derived.Test.YtlhnhmimhpcoaaaGreatMg8
import Derived.Test.YtlhnhmimhpcoaaaGreatMg9
import Derived.Deep.RegionHeld3
namespace Go.Proofs.YtlhnhmimhpcoaaaGreat
open Go.RowKit
set_option linter.unusedSimpArgs false
set_option linter.unusedVariables false
section
variable {M : RPar} {w : World} {s : Ms} {at_ : List Nat}
theorem at_self {at_ : List Nat} {i : Nat} (h : i < at_.length) : at_.set i (atA at_ i) = at_ := by
  apply List.ext_getElem?
  intro k
  rw [List.getElem?_set]
  split
  · rename_i e; subst e
    unfold atA; rw [List.getElem?_eq_getElem h]; simp [h]
  · rfl
theorem PlM.cellJ (h : PlM M w s at_) (hl : RLay M) {i : Nat} (hi : i < M.R.L.length) {j : Nat} (hj : j < 6) {v : Value} {b : Jb} (he : encS (M.oh i) (atA at_ i) b = (encS (M.oh i) (atA at_ i) (s.ja i)).set j v) :
    PlM M (w.setCell ⟨M.S, i * 6 + j, none⟩ v) { s with j := s.j.set i b } at_ := by
  have h0 := h.cell hl hi hj (v := v) (a := atA at_ i) (b := b) he
  rw [at_self (by rw [h.al]; exact hi)] at h0
  exact h0
theorem PlM.work2 (h : PlM M w s at_) (hl : RLay M) {i : Nat} (hi : i < M.R.L.length) {jp jt jd : Nat} {js : Bool} (hj : s.ja i = ⟨jp, jt, jd, js⟩) :
    PlM M ((w.setCell ⟨M.S, i * 6 + 3, none⟩ (.int .i64 ((jt : Int) + 1))).setCell ⟨M.S, i * 6 + 4, none⟩ (.int .i64 ((jd : Int) + 1))) { s with j := s.j.set i ⟨jp, jt + 1, jd + 1, js⟩ } at_ := by
  have hjl : i < s.j.length := by rw [h.jl]; exact hi
  have e : ∀ (q : List (List Int)) (o : List En) (x : Jb), Ms.ja ⟨q, s.j.set i x, o⟩ i = x := fun q o x => by rw [ja_set hjl, if_pos rfl]
  have h0 := h.cellJ hl hi (j := 3) (by decide) (v := .int .i64 ((jt : Int) + 1)) (b := ⟨jp, jt + 1, jd, js⟩) (by rw [hj]; rfl)
  have h1 := h0.cellJ hl hi (j := 4) (by decide) (v := .int .i64 ((jd : Int) + 1)) (b := ⟨jp, jt + 1, jd + 1, js⟩) (by rw [e]; rfl)
  simp only [List.set_set] at h1
  exact h1
theorem PlM.work3 (h : PlM M w s at_) (hl : RLay M) {i : Nat} (hi : i < M.R.L.length) {jp jt jd : Nat} {js : Bool} (hj : s.ja i = ⟨jp, jt, jd, js⟩) :
    PlM M ((w.setCell ⟨M.S, i * 6 + 3, none⟩ (.int .i64 0)).setCell ⟨M.S, i * 6 + 2, none⟩ (.int .i64 ((jp : Int) + 1))) { s with j := s.j.set i ⟨jp + 1, 0, jd, js⟩ } at_ := by
  have hjl : i < s.j.length := by rw [h.jl]; exact hi
  have e : ∀ (q : List (List Int)) (o : List En) (x : Jb), Ms.ja ⟨q, s.j.set i x, o⟩ i = x := fun q o x => by rw [ja_set hjl, if_pos rfl]
  have h0 := h.cellJ hl hi (j := 3) (by decide) (v := .int .i64 0) (b := ⟨jp, 0, jd, js⟩) (by rw [hj]; rfl)
  have h1 := h0.cellJ hl hi (j := 2) (by decide) (v := .int .i64 ((jp : Int) + 1)) (b := ⟨jp + 1, 0, jd, js⟩) (by rw [e]; rfl)
  simp only [List.set_set] at h1
  exact h1
theorem PlM.work4 (h : PlM M w s at_) (hl : RLay M) {i : Nat} (hi : i < M.R.L.length) :
    PlM M (w.setCell ⟨M.S, i * 6 + 5, none⟩ (.bool true)) { s with j := s.j.set i { s.ja i with s := true } } at_ := h.cellJ hl hi (j := 5) (by decide) rfl
end
set_option maxRecDepth 100000 in
set_option maxHeartbeats 8000000 in
theorem tick_any {M : RPar} {w : World} {s : Ms} {at_ : List Nat} {t : Nat} (hM : PlM M w s at_) (hl : RLay M) (hR : RdRun M.w0 M.H M.R) (hr : RnOk M.R) (hO : MOk M.R s) (hQ : QR M.R ((t : Int) - 1) s at_) (ho : s.o.length ≤ 1000000) (ht : t ≤ 10000) (hfr : M.R.fr ≤ 1000) (hd : ∀ x, ((arrA M.R t s).ja x).d ≤ 10000) :
    Calls Tryz.prog 56 #[.pointer (some ⟨M.p, 0, none⟩), .int .i64 t] w fun e w' => e = .returned (.tuple #[]) ∧ ∃ at', QR M.R t (tckA M.R t s) at' ∧ PlM M w' (tckA M.R t s) at' := by
  have HM := Lib.hid hM; have HR := Lib.hid hR; have HO := Lib.hid hO; have HQ := Lib.hid hQ
  have hO1 : MOk M.R (arrA M.R t s) := hO.arrA hr _
  have ho1 := arrA_o hr (t : Int) s
  obtain ⟨S1, hS1⟩ : ∃ x, arrA M.R t s = x := ⟨_, rfl⟩
  have HO1 : Hid (MOk M.R S1) := Lib.hid (by rw [← hS1]; exact hO1)
  have HO1' : S1.o.length ≤ 1000250 := by rw [← hS1]; omega
  have HD := Lib.hid hd
  unfold tckA
  rw [hS1] at HD ⊢
  have hBEG := fun h1 => begins_any (M := M) (w := w) (s := s) (at_ := at_) (t := t) h1 hl hR hr hO hQ ho ht
  rw [hS1] at hBEG
  have HBEG := Lib.hid (hBEG hM)
  have hF := hr.f
  obtain ⟨fr, hfr'⟩ : ∃ x, M.R.fr = x := ⟨_, rfl⟩
  obtain ⟨sl_, hsl⟩ : ∃ x, M.R.sl = x := ⟨_, rfl⟩
  have HCF : Hid (∀ wx sx ax, PlM M wx sx ax → wx.cell? ⟨M.p, 1, none⟩ = some (.int .i64 fr) ∧ wx.cell? ⟨M.p, 2, none⟩ = some (.int .i64 sl_)) := Lib.hid (fun wx sx ax h => ⟨by have := h.c1; rw [hfr'] at this; exact this, by have := h.c2; rw [hsl] at this; exact this⟩)
  have HFS := Lib.hid (And.intro hfr' hsl)
  rw [hfr'] at hF hfr
  obtain ⟨RM, hRM⟩ : ∃ x, (t : Int) % fr = x := ⟨_, rfl⟩
  have hRM2 : (t : Int).tmod fr = RM := by rw [Int.tmod_eq_emod_of_nonneg (by omega)]; exact hRM
  have hrem : fr ≠ 0 := by omega
  have HRM := Lib.hid hRM
  clear hM hR hO hQ hO1 hBEG hS1 hfr' hsl hRM hd
  by_cases hg : RM < sl_
  · have hg' : decide (RM < sl_) = true := by simpa using hg
    have e : tckB M.R t S1 = S1.wr ⟨(t : Int), -1, 3, 0, 0⟩ := by
      unfold tckB; rw [HFS.out.1, HFS.out.2, HRM.out, if_pos hg]
    rw [e]
    clear e
    go_enter Tryz.func56, Tryz.ntmps56
    go_wp2_with (first
      | (go_at_call 91; (with_reducible refine HBEG.out.mono ?_); rintro e w1 ⟨rfl, a1, hq1, hM1⟩; have HQ1 := Lib.hid hq1; have HM1 := Lib.hid hM1; obtain ⟨c1, c2⟩ := HCF.out _ _ _ hM1; have k0 := World.block_lt_of_cell? _ _ c1; simp only [] at k0; clear hq1 hM1)
      | (refine wp_region_later_lit (by kernel_rfl) (by kernel_rfl) ?_; (repeat (go_big_quiet_step (fail))); refine wpQuiet_nil ?_; intro w2 hb2)
      | (go_at_call 92; (with_reducible refine (rwrite_any hl (HM1.out.ext hl (Below.then (by (repeat' (first | (with_reducible exact Below.refl _ _) | (with_reducible assumption) | (with_reducible refine Below.alloc ?_ ?_ _) | (with_reducible refine Below.drew ?_) | (with_reducible refine Below.draws ?_ _) | (with_reducible refine Below.setCell ?_ ?_ _) | (refine Below.then ?_ (by with_reducible assumption)) | go_size))) hb2)) (by omega) _ _ _ _ _).mono ?_); rintro e w3 ⟨rfl, hM3⟩; have HM3 := Lib.hid hM3; clear hM3))
    refine bodyPost_ret (results_none rfl _ _ _) rfl ?_
    exact ⟨rfl, a1, HQ1.out.of rfl, HM3.out⟩
  · have hg' : decide (RM < sl_) = false := by simpa using hg
    obtain ⟨X, hX⟩ : ∃ X, chM M.R.L S1 = X := ⟨_, rfl⟩
    have hcb := chM_spec M.R.L S1
    rw [hX] at hcb
    have hb1 := hcb.1
    have HCHO : Hid (0 ≤ X → Chosen M.R S1 X.toNat) := Lib.hid (fun h => by rw [← hX] at h ⊢; exact chosen_of HO1.out h)
    have e : tckB M.R t S1 = if 0 ≤ X then wkA M.R t X.toNat S1 else S1 := by
      unfold tckB; rw [HFS.out.1, HFS.out.2, HRM.out, if_neg hg, hX]
    rw [e]
    have HXX := Lib.hid hX
    clear e hX hcb
    by_cases h0 : X < 0
    · rw [if_neg (by omega)]
      have h0' : decide (X < 0) = true := by simpa using h0
      go_enter Tryz.func56, Tryz.ntmps56
      go_wp2_with (first
        | (go_at_call 91; (with_reducible refine HBEG.out.mono ?_); rintro e w1 ⟨rfl, a1, hq1, hM1⟩; have HQ1 := Lib.hid hq1; have HM1 := Lib.hid hM1; obtain ⟨c1, c2⟩ := HCF.out _ _ _ hM1; have k0 := World.block_lt_of_cell? _ _ c1; simp only [] at k0; clear hq1 hM1)
        | (refine wp_region_later_lit (by kernel_rfl) (by kernel_rfl) ?_; (repeat (go_big_quiet_step (fail))); refine wpQuiet_nil ?_; intro w2 hb2)
        | (go_at_call 93; (with_reducible refine (chosen_any (HM1.out.ext hl (Below.then (by (repeat' (first | (with_reducible exact Below.refl _ _) | (with_reducible assumption) | (with_reducible refine Below.alloc ?_ ?_ _) | (with_reducible refine Below.drew ?_) | (with_reducible refine Below.draws ?_ _) | (with_reducible refine Below.setCell ?_ ?_ _) | (refine Below.then ?_ (by with_reducible assumption)) | go_size))) hb2)) hl HR.out hr HO1.out HQ1.out).mono ?_); rintro e w3 ⟨rfl, hb3⟩; rw [HXX.out]; have HM3 := Lib.hid ((HM1.out.ext hl (Below.then (by (repeat' (first | (with_reducible exact Below.refl _ _) | (with_reducible assumption) | (with_reducible refine Below.alloc ?_ ?_ _) | (with_reducible refine Below.drew ?_) | (with_reducible refine Below.draws ?_ _) | (with_reducible refine Below.setCell ?_ ?_ _) | (refine Below.then ?_ (by with_reducible assumption)) | go_size))) hb2)).ext hl hb3); clear hb3))
      refine bodyPost_ret (results_none rfl _ _ _) rfl ?_
      exact ⟨rfl, a1, HQ1.out, HM3.out⟩
    · rw [if_pos (by omega)]
      have h0' : decide (X < 0) = false := by simpa using h0
      obtain ⟨i, rfl⟩ := Int.eq_ofNat_of_zero_le (show 0 ≤ X by omega)
      have hch := HCHO.out (by omega)
      rw [Int.toNat_natCast] at hch ⊢
      have hi := hch.lt
      have hq := hch.rd
      have HQQ := Lib.hid hq
      have hpc := HO1.out.pc i hi
      have htk := HO1.out.tk i hi
      have hlim := pc_lim hr.r hi hpc
      have hp8 := (pcs_pos hr.r hi).2
      have hdd := HD.out i
      obtain ⟨jb, hjb⟩ : ∃ x, S1.ja i = x := ⟨_, rfl⟩
      have HJB := Lib.hid hjb
      rw [hjb] at hpc htk hlim hdd
      obtain ⟨jp, jt, jd, js⟩ := jb
      simp only [] at hpc htk hlim hdd
      obtain ⟨nL, hnL⟩ : ∃ x, M.R.L.length = x := ⟨_, rfl⟩
      have HN := Lib.hid hnL
      have hin : i < nL := by omega
      obtain ⟨TK, hTK⟩ : ∃ x, tkA M.R.L i jp = x := ⟨_, rfl⟩
      have HTK := Lib.hid hTK
      rw [hTK] at htk hlim
      have hjt : jt ≤ 200 := by omega
      have hjp : jp ≤ 8 := by omega
      have wt : IntKind.i64.wrap ((jt : Int) + 1) = (jt : Int) + 1 := IntWalk.i64_in _ (by omega)
      have wd : IntKind.i64.wrap ((jd : Int) + 1) = (jd : Int) + 1 := IntWalk.i64_in _ (by omega)
      have wp : IntKind.i64.wrap ((jp : Int) + 1) = (jp : Int) + 1 := IntWalk.i64_in _ (by omega)
      have wm : IntKind.i64.wrap ((t : Int) + 1) = (t : Int) + 1 := IntWalk.i64_in _ (by omega)
      have hsk := hl.s (by omega)
      have HC7 : Hid (∀ wz sz az, PlM M wz sz az → wz.cell? ⟨M.p, 7, none⟩ = some (.slice (some ⟨M.S, 0, none⟩) nL M.sc)) := Lib.hid (fun wz sz az h => by have := h.c7; rw [hsk, hnL] at this; exact this)
      have HEV : Hid (∀ a1, QR M.R t S1 a1 → (ordE (evA M.R i))[atA a1 i]? = some (S1.hd i)) := Lib.hid (fun a1 h => h.event (h.at_some hi) hq)
      clear hq hjb hnL hTK hch HCHO
      go_enter Tryz.func56, Tryz.ntmps56
      go_upto_region 5 with (first
        | (go_at_call 91; (with_reducible refine HBEG.out.mono ?_); rintro e w1 ⟨rfl, a1, hq1, hM1⟩; have HQ1 := Lib.hid hq1; have HM1 := Lib.hid hM1; obtain ⟨c1, c2⟩ := HCF.out _ _ _ hM1; have k0 := World.block_lt_of_cell? _ _ c1; simp only [] at k0; clear hq1 hM1)
        | (refine wp_region_later_lit (by kernel_rfl) (by kernel_rfl) ?_; (repeat (go_big_quiet_step (fail))); refine wpQuiet_nil ?_; intro w2 hb2)
        | (go_at_call 93; (with_reducible refine (chosen_any (HM1.out.ext hl (Below.then (by (repeat' (first | (with_reducible exact Below.refl _ _) | (with_reducible assumption) | (with_reducible refine Below.alloc ?_ ?_ _) | (with_reducible refine Below.drew ?_) | (with_reducible refine Below.draws ?_ _) | (with_reducible refine Below.setCell ?_ ?_ _) | (refine Below.then ?_ (by with_reducible assumption)) | go_size))) hb2)) hl HR.out hr HO1.out HQ1.out).mono ?_); rintro e w3 ⟨rfl, hb3⟩; rw [HXX.out]; have HM3 := Lib.hid ((HM1.out.ext hl (Below.then (by (repeat' (first | (with_reducible exact Below.refl _ _) | (with_reducible assumption) | (with_reducible refine Below.alloc ?_ ?_ _) | (with_reducible refine Below.drew ?_) | (with_reducible refine Below.draws ?_ _) | (with_reducible refine Below.setCell ?_ ?_ _) | (refine Below.then ?_ (by with_reducible assumption)) | go_size))) hb2)).ext hl hb3); clear hb3))
      have z7 := HC7.out _ _ _ HM3.out
      have z2 := (HM3.out.scells hi).2.2.1
      rw [HJB.out] at z2
      simp only [] at z2
      have hHM3D := HM3.out.ext hl (Below.refl w3.heap.size w3).drew
      have HM3D := Lib.hid hHM3D
      have hev := HEV.out _ HQ1.out
      have HEV1 := Lib.hid hev
      clear hHM3D hev
      go_region_held3 (fun w' => w'.cell? ⟨M.p, 7, none⟩ = some (.slice (some ⟨M.S, 0, none⟩) nL M.sc) ∧ w'.cell? ⟨M.S, i * 6 + 2, none⟩ = some (.int .i64 (jp : Int))) (first | go_keep)
        (first
          | (go_at_call 94; (with_reducible refine (revent_any hl HM3D.out hi HEV1.out).mono ?_); rintro e w4 ⟨rfl, hb4⟩; have HM4 := Lib.hid (HM3D.out.ext hl hb4); have y7 := HC7.out _ _ _ HM4.out; have y2 := (HM4.out.scells hi).2.2.1; rw [HJB.out] at y2; simp only [] at y2; clear hb4)
          | (go_at_call 92; (with_reducible refine (rwrite_any hl HM4.out (by omega) _ _ _ _ _).mono ?_); rintro e w5 ⟨rfl, hM5⟩; have HM5 := Lib.hid hM5; have x7 := HC7.out _ _ _ HM5.out; have x2 := (HM5.out.scells hi).2.2.1; rw [show (S1.wr ⟨(t : Int), (i : Int), 4, (jp : Int), S1.hd i⟩).ja i = ⟨jp, jt, jd, js⟩ from HJB.out] at x2; simp only [] at x2; clear hM5))
      all_goals
        have hw2 := HM5.out.work2 hl hi HJB.out
        have x3 := (HM5.out.scells hi).2.2.2.1
        have x4 := (HM5.out.scells hi).2.2.2.2.1
        rw [show (S1.wr ⟨(t : Int), (i : Int), 4, (jp : Int), S1.hd i⟩).ja i = ⟨jp, jt, jd, js⟩ from HJB.out] at x3 x4
        simp only [] at x3 x4
        have f3 := HM5.out.fS (i * 6 + 3)
        have f4 := HM5.out.fS (i * 6 + 4)
        have hSz : M.S < w5.heap.size := Nat.lt_of_lt_of_le hl.S.2 HM5.out.kl
        have hpz : M.p < w5.heap.size := Nat.lt_of_lt_of_le hl.p.2 HM5.out.kl
        have HW2 := Lib.hid hw2
        clear hw2 z7 z2 y7 y2
        go_wp2_with fail
        have hw4 := HW2.out
        obtain ⟨w6, hw6e⟩ : ∃ x, x = (w5.setCell ⟨M.S, i * 6 + 3, none⟩ (.int .i64 ((jt : Int) + 1))).setCell ⟨M.S, i * 6 + 4, none⟩ (.int .i64 ((jd : Int) + 1)) := ⟨_, rfl⟩
        rw [← hw6e] at hw4 ⊢
        obtain ⟨S4, hS4⟩ : ∃ x : Ms, x = ⟨S1.q, S1.j.set i ⟨jp, jt + 1, jd + 1, js⟩, S1.o ++ [⟨(t : Int), (i : Int), 4, (jp : Int), S1.hd i⟩]⟩ := ⟨_, rfl⟩
        have hM6 : PlM M w6 S4 a1 := by rw [hS4]; exact hw4
        have hjl : i < S1.j.length := by rw [HO1.out.jl]; exact hi
        obtain ⟨tb, toff, pb, po, pn, pc, hta, htb, hpb, hpn, hpl, k5, k6, _⟩ := HR.out.t.pcell hi hpc
        obtain ⟨bb, boff, hba, hbn, hbb, bc⟩ := HR.out.bcell (i := i) (by rw [hr.bu]; exact hi)
        have htn : i < M.H.tN := by rw [← HR.out.t.length]; exact hi
        obtain ⟨BU, hBU⟩ : ∃ x, (M.R.bu[i]?).getD 0 = x := ⟨_, rfl⟩
        rw [hBU] at bc
        rw [HTK.out] at k6
        have HBU := Lib.hid hBU
        have HPL := Lib.hid hpl
        have hpn8 : pn ≤ 8 := by omega
        have HK : Hid (∀ wx sx ax, PlM M wx sx ax → wx.cell? ⟨tb, toff + i * 6 + 5, none⟩ = some (.slice (some ⟨pb, po, none⟩) pn pc) ∧ wx.cell? ⟨pb, po + jp * 2, none⟩ = some (.int .i64 TK) ∧ wx.cell? ⟨bb, boff + i, none⟩ = some (.int .i64 BU) ∧ wx.cell? ⟨M.p, 0, none⟩ = some (.slice (some ⟨tb, toff, none⟩) M.H.tN M.H.tC) ∧ wx.cell? ⟨M.p, 4, none⟩ = some (.slice (some ⟨bb, boff, none⟩) M.H.bN M.H.bC)) := Lib.hid (fun wx sx ax h => ⟨(h.lb.cell (p := ⟨tb, toff + i * 6 + 5, none⟩) htb).trans k5, (h.lb.cell (p := ⟨pb, po + jp * 2, none⟩) hpb).trans k6, (h.lb.cell (p := ⟨bb, boff + i, none⟩) hbb).trans bc, by have := h.c0; rw [hta] at this; exact this, by have := h.c4; rw [hba] at this; exact this⟩)
        have HM6 := Lib.hid hM6
        have HJ6 : Hid (S4.ja i = ⟨jp, jt + 1, jd + 1, js⟩) := Lib.hid (by rw [hS4]; exact ja_at hjl)
        have HQ6 : Hid (S4.qa i = S1.qa i ∧ S4.o.length = S1.o.length + 1) := Lib.hid (by rw [hS4]; exact ⟨rfl, by simp⟩)
        have HS6 := Lib.hid hS4
        have s2 := (hM6.scells hi).2.2.1
        have s3 := (hM6.scells hi).2.2.2.1
        have s4 := (hM6.scells hi).2.2.2.2.1
        have s5 := (hM6.scells hi).2.2.2.2.2
        rw [HJ6.out] at s2 s3 s4 s5
        simp only [] at s2 s3 s4 s5
        try simp only [Int.natCast_add, Int.cast_ofNat_Int] at s2 s3 s4 s5
        have q7 := HC7.out _ _ _ hM6
        obtain ⟨g5, g6, gb, g0, g4⟩ := HK.out _ _ _ hM6
        have hSz6 : M.S < w6.heap.size := Nat.lt_of_lt_of_le hl.S.2 hM6.kl
        have hpz6 : M.p < w6.heap.size := Nat.lt_of_lt_of_le hl.p.2 hM6.kl
        have hwz6 := hM6.lb.size
        have htb6 : tb < w6.heap.size := by omega
        have hpb6 : pb < w6.heap.size := by omega
        have hbb6 : bb < w6.heap.size := by omega
        clear hw4 hw6e hM6 hS4 hta hba hpl k5 k6 bc hBU HW2 HM5 x7 x2 x3 x4 f3 f4
        by_cases qt : ((jt : Int) + 1) = TK
        · have qt' : (((jt : Int) + 1) == TK) = true := by simpa using qt
          go_upto_region 9 with ((refine wp_region_later_lit (by kernel_rfl) (by kernel_rfl) ?_; (repeat (go_big_quiet_step (fail))); refine wpQuiet_nil ?_; intro w20 hb20); have hM6d : PlM M w20 S4 a1 := HM6.out.ext hl (Below.then (by (repeat' (first | (with_reducible exact Below.refl _ _) | (with_reducible assumption) | (with_reducible refine Below.alloc ?_ ?_ _) | (with_reducible refine Below.drew ?_) | (with_reducible refine Below.draws ?_ _) | (with_reducible refine Below.setCell ?_ ?_ _) | (refine Below.then ?_ (by with_reducible assumption)) | go_size))) hb20))
          · obtain ⟨w6d, hw6d⟩ : ∃ x, x = w20 := ⟨_, rfl⟩
            rw [← hw6d] at hM6d ⊢
            have z2 := (hM6d.scells hi).2.2.1
            have z3 := (hM6d.scells hi).2.2.2.1
            rw [HJ6.out] at z2 z3
            simp only [] at z2 z3
            try simp only [Int.natCast_add, Int.cast_ofNat_Int] at z2 z3
            have y2 := hM6d.fS (i * 6 + 2)
            have y3 := hM6d.fS (i * 6 + 3)
            have z7 := HC7.out _ _ _ hM6d
            have z6 := (HK.out _ _ _ hM6d).2.1
            have hM7 := hM6d.work3 hl hi HJ6.out
            clear hw6d hb20
            go_upto_region 11 with fail
            obtain ⟨w7, hw7⟩ : ∃ x, x = (w6d.setCell ⟨M.S, i * 6 + 3, none⟩ (.int .i64 0)).setCell ⟨M.S, i * 6 + 2, none⟩ (.int .i64 ((jp : Int) + 1)) := ⟨_, rfl⟩
            rw [← hw7] at hM7 ⊢
            obtain ⟨jq, hjq⟩ : ∃ x, x = jp + 1 := ⟨_, rfl⟩
            obtain ⟨ju, hju⟩ : ∃ x, x = 0 := ⟨_, rfl⟩
            rw [HS6.out] at hM7
            simp only [List.set_set] at hM7
            rw [← hjq, ← hju] at hM7
            obtain ⟨S5, hS5⟩ : ∃ x : Ms, x = ⟨S1.q, S1.j.set i ⟨jq, ju, jd + 1, js⟩, S1.o ++ [⟨(t : Int), (i : Int), 4, (jp : Int), S1.hd i⟩]⟩ := ⟨_, rfl⟩
            have HM7 : Hid (PlM M w7 S5 a1) := Lib.hid (by rw [hS5]; exact hM7)
            have HJN : Hid (jbN M.R.L i ⟨jp, jt, jd, js⟩ = ⟨jq, ju, jd + 1, js⟩) := Lib.hid (by rw [hjq, hju]; unfold jbN; simp only []; rw [if_pos (by rw [HTK.out]; exact qt)])
            have HX7 : Hid (S5.qa i = S1.qa i ∧ S5.o.length = S1.o.length + 1) := Lib.hid (by rw [hS5]; exact ⟨rfl, by simp⟩); have HJ7 : Hid (S5.ja i = ⟨jq, ju, jd + 1, js⟩) := Lib.hid (by rw [hS5]; exact ja_at hjl); have HQ7 : Hid (QR M.R t S5 a1) := Lib.hid (by rw [hS5]; exact HQ1.out.of rfl); have HS7 := Lib.hid hS5; have v2 := (HM7.out.scells hi).2.2.1; have v4 := (HM7.out.scells hi).2.2.2.2.1; have v5 := (HM7.out.scells hi).2.2.2.2.2; rw [HJ7.out] at v2 v4 v5; simp only [] at v2 v4 v5; (try simp only [Int.natCast_add, Int.cast_ofNat_Int] at v4); have v7 := HC7.out _ _ _ HM7.out; obtain ⟨u5, _, ub, u0, u4⟩ := HK.out _ _ _ HM7.out; have fS5 := HM7.out.fS (i * 6 + 5); have hSz7 : M.S < w7.heap.size := Nat.lt_of_lt_of_le hl.S.2 HM7.out.kl; have hpz7 : M.p < w7.heap.size := Nat.lt_of_lt_of_le hl.p.2 HM7.out.kl; have hwz7 := HM7.out.lb.size; have htb7 : tb < w7.heap.size := (by omega); have hpb7 : pb < w7.heap.size := (by omega); have hbb7 : bb < w7.heap.size := (by omega)
            clear hM6d hM7 hS5 hw7 z2 z3 y2 y3 z7 z6 s2 s3 s4 s5 q7 g5 g6 gb g0 g4 hju
            by_cases qc : jq = pn
            · have qc' : ((jq : Int) == (pn : Int)) = true := by simp; omega
              · have hatl := HQ1.out.at_le hr hi
                go_wp2_with (first
                  | (refine wp_region_later_lit (by kernel_rfl) (by kernel_rfl) ?_; (repeat (go_big_quiet_step (fail))); refine wpQuiet_nil ?_; intro w21 hb21)
                  | (go_at_call 95; (with_reducible refine (rover_any hl (HM7.out.ext hl (Below.then (by (repeat' (first | (with_reducible exact Below.refl _ _) | (with_reducible assumption) | (with_reducible refine Below.alloc ?_ ?_ _) | (with_reducible refine Below.drew ?_) | (with_reducible refine Below.draws ?_ _) | (with_reducible refine Below.setCell ?_ ?_ _) | (refine Below.then ?_ (by with_reducible assumption)) | go_size))) hb21)) HQ7.out hi (by rw [HX7.out.1]; exact HQQ.out) (by have := HX7.out.2; omega) (by omega) _ _).mono ?_); rintro e w9 ⟨rfl, hM9⟩; have HM9 := Lib.hid hM9; clear hM9))
                go_end0
                refine ⟨rfl, a1.set i (atA a1 i + 1), ?_⟩
                have h9 := HM9.out
                rw [HS7.out] at h9
                unfold wkA
                rw [HJB.out, HJN.out, if_pos (by rw [← HPL.out]; exact qc)]
                exact ⟨(HQ1.out.fin HO1.out (HQ1.out.at_some hi) HQQ.out ((t : Int) + 1) 0).of rfl, h9⟩
            · have qc' : ((jq : Int) == (pn : Int)) = false := by simp; omega
              have hne : ¬ jq = (taAt M.R.L i).pcs.length := by rw [← HPL.out]; omega
              go_upto_region 13 with ((refine wp_region_later_lit (by kernel_rfl) (by kernel_rfl) ?_; (repeat (go_big_quiet_step (fail))); refine wpQuiet_nil ?_; intro w21 hb21); have hM21 : PlM M w21 S5 a1 := HM7.out.ext hl (Below.then (by (repeat' (first | (with_reducible exact Below.refl _ _) | (with_reducible assumption) | (with_reducible refine Below.alloc ?_ ?_ _) | (with_reducible refine Below.drew ?_) | (with_reducible refine Below.draws ?_ _) | (with_reducible refine Below.setCell ?_ ?_ _) | (refine Below.then ?_ (by with_reducible assumption)) | go_size))) hb21))
              · obtain ⟨w8, hw8⟩ : ∃ x, x = w21 := ⟨_, rfl⟩
                rw [← hw8] at hM21 ⊢
                have HM8 := Lib.hid hM21
                have v2 := (HM8.out.scells hi).2.2.1; have v4 := (HM8.out.scells hi).2.2.2.2.1; have v5 := (HM8.out.scells hi).2.2.2.2.2; rw [HJ7.out] at v2 v4 v5; simp only [] at v2 v4 v5; (try simp only [Int.natCast_add, Int.cast_ofNat_Int] at v4); have v7 := HC7.out _ _ _ HM8.out; obtain ⟨u5, _, ub, u0, u4⟩ := HK.out _ _ _ HM8.out; have hSz8 : M.S < w8.heap.size := Nat.lt_of_lt_of_le hl.S.2 HM8.out.kl; have hpz8 : M.p < w8.heap.size := Nat.lt_of_lt_of_le hl.p.2 HM8.out.kl; have hwz8 := HM8.out.lb.size; have hbb8 : bb < w8.heap.size := by omega
                clear hM21 hw8 hb21
                by_cases qd : ((jd : Int) + 1) = BU
                · have qd' : (((jd : Int) + 1) == BU) = true := by simpa using qd
                  have qd0 : decide (0 < BU) = true := by simp; omega
                  go_upto_region 14 with ((refine wp_region_later_lit (by kernel_rfl) (by kernel_rfl) ?_; (repeat (go_big_quiet_step (fail))); refine wpQuiet_nil ?_; intro w22 hb22); have hM22 : PlM M w22 S5 a1 := HM8.out.ext hl (Below.then (by (repeat' (first | (with_reducible exact Below.refl _ _) | (with_reducible assumption) | (with_reducible refine Below.alloc ?_ ?_ _) | (with_reducible refine Below.drew ?_) | (with_reducible refine Below.draws ?_ _) | (with_reducible refine Below.setCell ?_ ?_ _) | (refine Below.then ?_ (by with_reducible assumption)) | go_size))) hb22))
                  · obtain ⟨w23, hw23⟩ : ∃ x, x = w22 := ⟨_, rfl⟩
                    rw [← hw23] at hM22 ⊢
                    clear hb22
                    have e5 := (hM22.scells hi).2.2.2.2.2
                    have f5 := hM22.fS (i * 6 + 5)
                    have e7 := HC7.out _ _ _ hM22
                    have hSz23 : M.S < w23.heap.size := Nat.lt_of_lt_of_le hl.S.2 hM22.kl
                    have hpz23 : M.p < w23.heap.size := Nat.lt_of_lt_of_le hl.p.2 hM22.kl
                    obtain ⟨S7, hS7⟩ : ∃ x : Ms, x = { S5 with j := S5.j.set i { S5.ja i with s := true } } := ⟨_, rfl⟩
                    have HM9 : Hid (PlM M (w23.setCell ⟨M.S, i * 6 + 5, none⟩ (.bool true)) S7 a1) := Lib.hid (by rw [hS7]; exact hM22.work4 hl hi)
                    have hO7 : S7.o.length ≤ 2000000 := by rw [hS7]; have := HX7.out.2; show S5.o.length ≤ 2000000; omega
                    have HO7 := Lib.hid hO7
                    have hev := HEV.out _ HQ1.out
                    have HEV1 := Lib.hid hev
                    have HSS := Lib.hid hS7
                    clear hw23 hS7 hM22 hO7 hev
                    go_wp2_with (first
                      | (go_at_call 94; (with_reducible refine (revent_any hl HM9.out hi HEV1.out).mono ?_); rintro e w10 ⟨rfl, hb10⟩; have HM10 := Lib.hid (HM9.out.ext hl hb10); clear hb10)
                      | (go_at_call 92; (with_reducible refine (rwrite_any hl HM10.out HO7.out _ _ _ _ _).mono ?_); rintro e w11 ⟨rfl, hM11⟩; have HM11 := Lib.hid hM11; clear hM11))
                    go_end0
                    refine ⟨rfl, a1, ?_⟩
                    have h9 := HM11.out
                    rw [HSS.out, HJ7.out, HS7.out] at h9
                    unfold wkA
                    rw [HJB.out, HJN.out, if_neg hne, if_pos (by rw [HBU.out, ← qd]; rfl)]
                    simp only [Ms.wr, List.set_set] at h9
                    exact ⟨HQ1.out.of rfl, h9⟩
                · have qd' : (((jd : Int) + 1) == BU) = false := by simpa using qd
                  have HFIN : Hid (∀ wz, PlM M wz S5 a1 → ∃ at', QR M.R t (wkA M.R t i S1) at' ∧ PlM M wz (wkA M.R t i S1) at') := Lib.hid (fun wz h9 => by
                    unfold wkA
                    rw [HJB.out, HJN.out, if_neg hne, if_neg (by rw [HBU.out]; intro e; exact qd (by rw [← e]; rfl))]
                    rw [HS7.out] at h9
                    exact ⟨a1, HQ1.out.of rfl, h9⟩)
                  by_cases qb : 0 < BU
                  · have qb' : decide (0 < BU) = true := by simpa using qb
                    go_wp2_with (refine wp_region_later_lit (by kernel_rfl) (by kernel_rfl) ?_; (repeat (go_big_quiet_step (fail))); refine wpQuiet_nil ?_; intro w22 hb22)
                    go_end0
                    exact ⟨rfl, HFIN.out _ (HM8.out.ext hl (Below.then (by (repeat' (first | (with_reducible exact Below.refl _ _) | (with_reducible assumption) | (with_reducible refine Below.alloc ?_ ?_ _) | (with_reducible refine Below.drew ?_) | (with_reducible refine Below.draws ?_ _) | (with_reducible refine Below.setCell ?_ ?_ _) | (refine Below.then ?_ (by with_reducible assumption)) | go_size))) hb22))⟩
                  · have qb' : decide (0 < BU) = false := by simpa using qb
                    go_wp2_with (refine wp_region_later_lit (by kernel_rfl) (by kernel_rfl) ?_; (repeat (go_big_quiet_step (fail))); refine wpQuiet_nil ?_; intro w22 hb22)
                    go_end0
                    exact ⟨rfl, HFIN.out _ (HM8.out.ext hl (Below.then (by (repeat' (first | (with_reducible exact Below.refl _ _) | (with_reducible assumption) | (with_reducible refine Below.alloc ?_ ?_ _) | (with_reducible refine Below.drew ?_) | (with_reducible refine Below.draws ?_ _) | (with_reducible refine Below.setCell ?_ ?_ _) | (refine Below.then ?_ (by with_reducible assumption)) | go_size))) hb22))⟩
        · have qt' : (((jt : Int) + 1) == TK) = false := by simpa using qt
          go_upto_region 11 with ((refine wp_region_later_lit (by kernel_rfl) (by kernel_rfl) ?_; (repeat (go_big_quiet_step (fail))); refine wpQuiet_nil ?_; intro w20 hb20); have hM6d : PlM M w20 S4 a1 := HM6.out.ext hl (Below.then (by (repeat' (first | (with_reducible exact Below.refl _ _) | (with_reducible assumption) | (with_reducible refine Below.alloc ?_ ?_ _) | (with_reducible refine Below.drew ?_) | (with_reducible refine Below.draws ?_ _) | (with_reducible refine Below.setCell ?_ ?_ _) | (refine Below.then ?_ (by with_reducible assumption)) | go_size))) hb20))
          · obtain ⟨w7, hw7⟩ : ∃ x, x = w20 := ⟨_, rfl⟩
            obtain ⟨jq, hjq⟩ : ∃ x, x = jp := ⟨_, rfl⟩
            obtain ⟨ju, hju⟩ : ∃ x, x = jt + 1 := ⟨_, rfl⟩
            obtain ⟨S5, hS5⟩ : ∃ x : Ms, x = ⟨S1.q, S1.j.set i ⟨jq, ju, jd + 1, js⟩, S1.o ++ [⟨(t : Int), (i : Int), 4, (jp : Int), S1.hd i⟩]⟩ := ⟨_, rfl⟩
            have HM7 : Hid (PlM M w7 S5 a1) := Lib.hid (by rw [hw7, hS5, hjq, hju, ← HS6.out]; exact hM6d)
            rw [← hw7]
            clear hb20 hM6d
            have HJN : Hid (jbN M.R.L i ⟨jp, jt, jd, js⟩ = ⟨jq, ju, jd + 1, js⟩) := Lib.hid (by rw [hjq, hju]; unfold jbN; simp only []; rw [if_neg (by rw [HTK.out]; exact qt)])
            have HX7 : Hid (S5.qa i = S1.qa i ∧ S5.o.length = S1.o.length + 1) := Lib.hid (by rw [hS5]; exact ⟨rfl, by simp⟩); have HJ7 : Hid (S5.ja i = ⟨jq, ju, jd + 1, js⟩) := Lib.hid (by rw [hS5]; exact ja_at hjl); have HQ7 : Hid (QR M.R t S5 a1) := Lib.hid (by rw [hS5]; exact HQ1.out.of rfl); have HS7 := Lib.hid hS5; have v2 := (HM7.out.scells hi).2.2.1; have v4 := (HM7.out.scells hi).2.2.2.2.1; have v5 := (HM7.out.scells hi).2.2.2.2.2; rw [HJ7.out] at v2 v4 v5; simp only [] at v2 v4 v5; (try simp only [Int.natCast_add, Int.cast_ofNat_Int] at v4); have v7 := HC7.out _ _ _ HM7.out; obtain ⟨u5, _, ub, u0, u4⟩ := HK.out _ _ _ HM7.out; have fS5 := HM7.out.fS (i * 6 + 5); have hSz7 : M.S < w7.heap.size := Nat.lt_of_lt_of_le hl.S.2 HM7.out.kl; have hpz7 : M.p < w7.heap.size := Nat.lt_of_lt_of_le hl.p.2 HM7.out.kl; have hwz7 := HM7.out.lb.size; have htb7 : tb < w7.heap.size := (by omega); have hpb7 : pb < w7.heap.size := (by omega); have hbb7 : bb < w7.heap.size := (by omega)
            clear hS5 hw7 s2 s3 s4 s5 q7 g5 g6 gb g0 g4 hju
            have qc : ¬ jq = pn := by omega
            have qc' : ((jq : Int) == (pn : Int)) = false := by simp; omega
            have hne : ¬ jq = (taAt M.R.L i).pcs.length := by rw [← HPL.out]; omega
            go_upto_region 13 with ((refine wp_region_later_lit (by kernel_rfl) (by kernel_rfl) ?_; (repeat (go_big_quiet_step (fail))); refine wpQuiet_nil ?_; intro w21 hb21); have hM21 : PlM M w21 S5 a1 := HM7.out.ext hl (Below.then (by (repeat' (first | (with_reducible exact Below.refl _ _) | (with_reducible assumption) | (with_reducible refine Below.alloc ?_ ?_ _) | (with_reducible refine Below.drew ?_) | (with_reducible refine Below.draws ?_ _) | (with_reducible refine Below.setCell ?_ ?_ _) | (refine Below.then ?_ (by with_reducible assumption)) | go_size))) hb21))
            · obtain ⟨w8, hw8⟩ : ∃ x, x = w21 := ⟨_, rfl⟩
              rw [← hw8] at hM21 ⊢
              have HM8 := Lib.hid hM21
              have v2 := (HM8.out.scells hi).2.2.1; have v4 := (HM8.out.scells hi).2.2.2.2.1; have v5 := (HM8.out.scells hi).2.2.2.2.2; rw [HJ7.out] at v2 v4 v5; simp only [] at v2 v4 v5; (try simp only [Int.natCast_add, Int.cast_ofNat_Int] at v4); have v7 := HC7.out _ _ _ HM8.out; obtain ⟨u5, _, ub, u0, u4⟩ := HK.out _ _ _ HM8.out; have hSz8 : M.S < w8.heap.size := Nat.lt_of_lt_of_le hl.S.2 HM8.out.kl; have hpz8 : M.p < w8.heap.size := Nat.lt_of_lt_of_le hl.p.2 HM8.out.kl; have hwz8 := HM8.out.lb.size; have hbb8 : bb < w8.heap.size := by omega
              clear hM21 hw8 hb21
              by_cases qd : ((jd : Int) + 1) = BU
              · have qd' : (((jd : Int) + 1) == BU) = true := by simpa using qd
                have qd0 : decide (0 < BU) = true := by simp; omega
                go_upto_region 14 with ((refine wp_region_later_lit (by kernel_rfl) (by kernel_rfl) ?_; (repeat (go_big_quiet_step (fail))); refine wpQuiet_nil ?_; intro w22 hb22); have hM22 : PlM M w22 S5 a1 := HM8.out.ext hl (Below.then (by (repeat' (first | (with_reducible exact Below.refl _ _) | (with_reducible assumption) | (with_reducible refine Below.alloc ?_ ?_ _) | (with_reducible refine Below.drew ?_) | (with_reducible refine Below.draws ?_ _) | (with_reducible refine Below.setCell ?_ ?_ _) | (refine Below.then ?_ (by with_reducible assumption)) | go_size))) hb22))
                · obtain ⟨w23, hw23⟩ : ∃ x, x = w22 := ⟨_, rfl⟩
                  rw [← hw23] at hM22 ⊢
                  clear hb22
                  have e5 := (hM22.scells hi).2.2.2.2.2
                  have f5 := hM22.fS (i * 6 + 5)
                  have e7 := HC7.out _ _ _ hM22
                  have hSz23 : M.S < w23.heap.size := Nat.lt_of_lt_of_le hl.S.2 hM22.kl
                  have hpz23 : M.p < w23.heap.size := Nat.lt_of_lt_of_le hl.p.2 hM22.kl
                  obtain ⟨S7, hS7⟩ : ∃ x : Ms, x = { S5 with j := S5.j.set i { S5.ja i with s := true } } := ⟨_, rfl⟩
                  have HM9 : Hid (PlM M (w23.setCell ⟨M.S, i * 6 + 5, none⟩ (.bool true)) S7 a1) := Lib.hid (by rw [hS7]; exact hM22.work4 hl hi)
                  have hO7 : S7.o.length ≤ 2000000 := by rw [hS7]; have := HX7.out.2; show S5.o.length ≤ 2000000; omega
                  have HO7 := Lib.hid hO7
                  have hev := HEV.out _ HQ1.out
                  have HEV1 := Lib.hid hev
                  have HSS := Lib.hid hS7
                  clear hw23 hS7 hM22 hO7 hev
                  go_wp2_with (first
                    | (go_at_call 94; (with_reducible refine (revent_any hl HM9.out hi HEV1.out).mono ?_); rintro e w10 ⟨rfl, hb10⟩; have HM10 := Lib.hid (HM9.out.ext hl hb10); clear hb10)
                    | (go_at_call 92; (with_reducible refine (rwrite_any hl HM10.out HO7.out _ _ _ _ _).mono ?_); rintro e w11 ⟨rfl, hM11⟩; have HM11 := Lib.hid hM11; clear hM11))
                  go_end0
                  refine ⟨rfl, a1, ?_⟩
                  have h9 := HM11.out
                  rw [HSS.out, HJ7.out, HS7.out] at h9
                  unfold wkA
                  rw [HJB.out, HJN.out, if_neg hne, if_pos (by rw [HBU.out, ← qd]; rfl)]
                  simp only [Ms.wr, List.set_set] at h9
                  exact ⟨HQ1.out.of rfl, h9⟩
              · have qd' : (((jd : Int) + 1) == BU) = false := by simpa using qd
                have HFIN : Hid (∀ wz, PlM M wz S5 a1 → ∃ at', QR M.R t (wkA M.R t i S1) at' ∧ PlM M wz (wkA M.R t i S1) at') := Lib.hid (fun wz h9 => by
                  unfold wkA
                  rw [HJB.out, HJN.out, if_neg hne, if_neg (by rw [HBU.out]; intro e; exact qd (by rw [← e]; rfl))]
                  rw [HS7.out] at h9
                  exact ⟨a1, HQ1.out.of rfl, h9⟩)
                by_cases qb : 0 < BU
                · have qb' : decide (0 < BU) = true := by simpa using qb
                  go_wp2_with (refine wp_region_later_lit (by kernel_rfl) (by kernel_rfl) ?_; (repeat (go_big_quiet_step (fail))); refine wpQuiet_nil ?_; intro w22 hb22)
                  go_end0
                  exact ⟨rfl, HFIN.out _ (HM8.out.ext hl (Below.then (by (repeat' (first | (with_reducible exact Below.refl _ _) | (with_reducible assumption) | (with_reducible refine Below.alloc ?_ ?_ _) | (with_reducible refine Below.drew ?_) | (with_reducible refine Below.draws ?_ _) | (with_reducible refine Below.setCell ?_ ?_ _) | (refine Below.then ?_ (by with_reducible assumption)) | go_size))) hb22))⟩
                · have qb' : decide (0 < BU) = false := by simpa using qb
                  go_wp2_with (refine wp_region_later_lit (by kernel_rfl) (by kernel_rfl) ?_; (repeat (go_big_quiet_step (fail))); refine wpQuiet_nil ?_; intro w22 hb22)
                  go_end0
                  exact ⟨rfl, HFIN.out _ (HM8.out.ext hl (Below.then (by (repeat' (first | (with_reducible exact Below.refl _ _) | (with_reducible assumption) | (with_reducible refine Below.alloc ?_ ?_ _) | (with_reducible refine Below.drew ?_) | (with_reducible refine Below.draws ?_ _) | (with_reducible refine Below.setCell ?_ ?_ _) | (refine Below.then ?_ (by with_reducible assumption)) | go_size))) hb22))⟩
end Go.Proofs.YtlhnhmimhpcoaaaGreat
namespace Go.Proofs.YtlhnhmimhpcoaaaGreat
open Go.RowKit
set_option linter.unusedSimpArgs false
set_option linter.unusedVariables false
theorem swap_ord {p r : List Int} {y x : Int} {j : Nat} (hj : j = p.length) : ((p ++ y :: x :: r).set (j + 1) y).set j x = p ++ x :: y :: r := by
  subst hj
  rw [List.set_append_right _ _ (by omega), show p.length + 1 - p.length = 1 by omega, List.set_append_right _ _ (by omega), Nat.sub_self]
  rfl
theorem idxs_snoc' (k : Nat) : idxs (k + 1) = idxs k ++ [(k : Int)] := by simp [idxs, List.range_succ]
/-- the event at an index -/
theorem Rd.ev_at {w : World} {a : Option Addr} {n : Nat} {xs : List P2} (h : Rd w a n 2 (xs.map enc2)) (k : Nat) (hk : k < n) : ∃ (x y : Int) (b off : Nat), a = some ⟨b, off, none⟩ ∧ b < w.heap.size ∧ w.cell? ⟨b, off + k * 2, none⟩ = some (.int .i64 x) ∧ w.cell? ⟨b, off + k * 2 + 1, none⟩ = some (.int .i64 y) ∧ xs[k]? = some (x, y) ∧ relT xs k = x + y := by
  obtain ⟨x, y, b, off, e, hb, h0, h1, hg, _⟩ := h.pc_at' k hk
  exact ⟨x, y, b, off, e, hb, h0, h1, hg, relT_of hg⟩
set_option maxRecDepth 100000 in
set_option maxHeartbeats 4000000 in
theorem ordered_any (a : Option Addr) (n c : Nat) (xs : List P2) (w : World) (hn : n ≤ 40) (hR : Rd w a n 2 (xs.map enc2)) (hlim : ∀ e ∈ xs, (0 ≤ e.1 ∧ e.1 ≤ 1000000) ∧ (0 ≤ e.2 ∧ e.2 ≤ 1000000)) :
    Calls Tryz.prog 55 #[.slice a n c] w fun e w' => ∃ a' c', e = .returned (.slice a' n c') ∧ w'.ownsRow w.heap.size 3 1 (.slice a' n c') n ((ordE xs).flatMap enc1) ∧ Below w.heap.size w w' := by
  have hlen := hR.length
  have HL := Lib.hid hlen; have HLIM := Lib.hid hlim
  have HR := Lib.hid hR
  have hE := E1
  clear hR hlen hlim
  go_enter Tryz.func55, Tryz.ntmps55
  go_wp2
  go_loopw [3, 4] (fun o v wr => ∃ (i : Nat) (a' : Option Addr) (c' : Nat), i ≤ n ∧ o = .slice a' i c' ∧ v = .int .i64 i ∧ wr.ownsRow w.heap.size 3 1 (.slice a' i c') i ((isortL (ltE xs) (idxs i)).flatMap enc1) ∧ Below w.heap.size w wr) (fun _ v _ => n - (intOf v).toNat)
  case atStart => exact ⟨0, none, 0, Nat.zero_le _, rfl, rfl, World.ownsRow_nil _ _ _ _, Below.refl _ _⟩
  case round =>
    obtain ⟨i, a0, c0, hi, rfl, rfl, hO, hB⟩ := hrel
    have HO := Lib.hid hO; have HB := Lib.hid hB
    have hz := hB.size
    clear hO hB
    by_cases hlt : i < n
    · obtain ⟨S, hS⟩ : ∃ S, isortL (ltE xs) (idxs i) = S := ⟨_, rfl⟩
      have hsl : S.length = i := by rw [← hS, (isort_perm _ _).length_eq, idxs_len]
      have hsm : ∀ y ∈ S, 0 ≤ y ∧ y < i := fun y hy => by rw [← hS, (isort_perm _ _).mem_iff, idxs_mem] at hy; exact hy
      have HTK : Hid (isortL (ltE xs) (idxs (i + 1)) = insP (ltE xs) (i : Int) S) := Lib.hid (by rw [← hS, ← isort_snoc, idxs_snoc'])
      rw [hS] at HO
      have HSL := Lib.hid hsl; have HSM := Lib.hid hsm
      clear hS hsl hsm
      go_wp2_with (at_builtin; refine wpList_push (B := w.heap.size) rfl _ _ _ rfl hE rfl HO.out rfl rfl (by intro u hu; simp at hu; subst hu; rfl) (by omega) (by decide) hz ?_; intro a6 c6 w6 hown6 hb6; have HO6 := Lib.hid hown6; have B6 := Lib.hid (HB.out.trans hb6); have hz6 := hb6.size; clear hown6 hb6)
      obtain ⟨q0, hq0, hq0l⟩ : ∃ q, a6 = some ⟨q, 0, none⟩ ∧ w.heap.size ≤ q := by
        rcases HO6.out.2 with ⟨_, h8⟩ | ⟨g', cap', cur, hv, hB0, hg, _⟩
        · omega
        · simp at hv; exact ⟨g', hv.1, hB0⟩
      subst hq0
      go_loopw [5] (fun v wr => ∃ (j : Nat) (p q : List Int), v = .int .i64 j ∧ j = p.length ∧ p ++ q = S ∧ (∀ y ∈ q, ltE xs (i : Int) y = true) ∧ wr.ownsRow w.heap.size 3 1 (.slice (some ⟨q0, 0, none⟩) (i + 1) c6) (i + 1) ((p ++ (i : Int) :: q).flatMap enc1) ∧ Below w.heap.size w wr) (fun v _ => (intOf v).toNat)
      case atStart => exact ⟨i, S, [], rfl, by rw [HSL.out], by simp, by simp, by have := HO6.out; rw [List.flatMap_append]; exact this, B6.out⟩
      case round =>
        clear HO6 B6 hz6 HO HB hz
        obtain ⟨j, p, q, rfl, hj, hpq, hq, hOj, hBj⟩ := hrel
        have HPQ := Lib.hid hpq; have HQ := Lib.hid hq; have HOJ := Lib.hid hOj; have HBJ := Lib.hid hBj; have HJ := Lib.hid hj
        have hjn : j < i + 1 := by have := congrArg List.length hpq; rw [HSL.out] at this; simp at this; omega
        have HRJ := Lib.hid (HR.out.ext hBj)
        clear hpq hq hOj hBj
        have HEND : Hid ((∀ y, p.getLast? = some y → ltE xs (i : Int) y = false) → isortL (ltE xs) (idxs (i + 1)) = p ++ (i : Int) :: q) := Lib.hid (fun h => by rw [HTK.out, ← HPQ.out, insP_eq HQ.out h])
        rcases List.eq_nil_or_concat p with hp | ⟨p', y, hp⟩
        · have hj0 : j = 0 := by rw [hj, hp]; rfl
          have hd : decide (0 < j) = false := by simp [hj0]
          have HP := Lib.hid hp
          clear hj hp
          go_wp2_with (refine wp_region_later_lit (by kernel_rfl) (by kernel_rfl) ?_; (repeat (go_big_quiet_step (fail))); refine wpQuiet_nil ?_; intro w3 hb3)
          go_roundw
          case rel =>
            refine ⟨i + 1, _, _, by omega, rfl, by go_num, ?_, HBJ.out.trans (hb3.mono HBJ.out.size)⟩
            rw [HEND.out (by rw [HP.out]; simp)]
            exact owns_ext HOJ.out hb3
          case measure => simp [intOf]; omega
        · rw [List.concat_eq_append] at hp
          have HP := Lib.hid hp
          obtain ⟨jp, rfl⟩ : ∃ jp, j = jp + 1 := ⟨p'.length, by rw [hj, hp]; simp⟩
          have hjp : jp = p'.length := by rw [hp] at hj; simp at hj; omega
          have HJP := Lib.hid hjp
          have e1 : (p ++ (i : Int) :: q)[jp + 1]? = some (i : Int) := by
            rw [List.getElem?_append_right (by omega), hj, Nat.sub_self]; rfl
          have e2 : (p ++ (i : Int) :: q)[jp]? = some y := by
            rw [List.getElem?_append_left (by omega), hp, List.getElem?_append_right (by omega), hjp, Nat.sub_self]; rfl
          obtain ⟨x', hx', c1, f1, hbw⟩ := ownsI_at HOJ.out (jp + 1) hjn
          obtain ⟨y', hy', c2, f2, _⟩ := ownsI_at HOJ.out jp (by omega)
          rw [e1] at hx'; rw [e2] at hy'
          obtain rfl : (i : Int) = x' := by simpa using hx'
          obtain rfl : y = y' := by simpa using hy'
          have hym := HSM.out y (by rw [← HPQ.out, hp]; simp)
          obtain ⟨yn, rfl⟩ := Int.eq_ofNat_of_zero_le hym.1
          have hyn : yn < i := by omega
          obtain ⟨u1, u2, b, off, hab, hbz, g0, g1, hg, hrel1⟩ := HRJ.out.ev_at i hlt
          obtain ⟨v1, v2, b', off', hab', _, k0, k1, hk, hrel2⟩ := HRJ.out.ev_at yn (by omega)
          rw [hab] at hab'
          obtain ⟨rfl, rfl⟩ : b = b' ∧ off = off' := by simpa using hab'
          have l1 := HLIM.out _ (List.mem_of_getElem? hg)
          have l2 := HLIM.out _ (List.mem_of_getElem? hk)
          simp only [] at l1 l2
          have wu : IntKind.i64.wrap (u1 + u2) = u1 + u2 := IntWalk.i64_in _ (by omega)
          have wv : IntKind.i64.wrap (v1 + v2) = v1 + v2 := IntWalk.i64_in _ (by omega)
          have HLT : Hid (ltE xs (i : Int) (yn : Int) = decide (u1 + u2 < v1 + v2)) := Lib.hid (by unfold ltE; rw [hrel1, hrel2])
          have HC1 := Lib.hid c1; have HC2 := Lib.hid c2; have HF1 := Lib.hid f1; have HF2 := Lib.hid f2
          have hjn' : jp < i + 1 := by omega
          have hjn2 : jp < n := by omega
          have hdj : decide (0 < jp + 1) = true := by simp
          subst hab
          clear e1 e2 hx' hy' hj hp hjp hab' hg hk hrel1 hrel2 l1 l2 hym
          by_cases hl : u1 + u2 < v1 + v2
          · have HLX := Lib.hid hl
            have hl' : decide (u1 + u2 < v1 + v2) = true := by simpa using hl
            go_wp2_with ((refine wp_region_later_lit (by kernel_rfl) (by kernel_rfl) ?_; (repeat (go_big_quiet_step (fail))); refine wpQuiet_nil ?_; intro w3 hb3); have d1 := (hb3.cell (p := ⟨q0, jp + 1, none⟩) hbw).trans HC1.out; have d2 := (hb3.cell (p := ⟨q0, jp, none⟩) hbw).trans HC2.out; have d3 := (hb3.frozen (p := ⟨q0, jp + 1, none⟩) hbw).trans HF1.out; have d4 := (hb3.frozen (p := ⟨q0, jp, none⟩) hbw).trans HF2.out)
            go_roundw
            case rel =>
              refine ⟨jp, p', (yn : Int) :: q, by go_num, HJP.out, by rw [← HPQ.out, HP.out]; simp, ?_, ?_, ?_⟩
              · intro z hz
                rcases List.mem_cons.1 hz with rfl | hz
                · rw [HLT.out]; exact decide_eq_true HLX.out
                · exact HQ.out z hz
              · have h5 := ownsI_set (ownsI_set (owns_ext HOJ.out hb3) (jp + 1) (yn : Int)) jp (i : Int)
                have e5 : p ++ (i : Int) :: q = p' ++ (yn : Int) :: (i : Int) :: q := by rw [HP.out]; simp
                rw [e5, swap_ord HJP.out] at h5
                exact h5
              · exact ((HBJ.out.trans (hb3.mono HBJ.out.size)).setCell (p := ⟨q0, jp + 1, none⟩) hq0l _).setCell (p := ⟨q0, jp, none⟩) hq0l _
            case measure => simp [intOf]
          · have hl' : decide (u1 + u2 < v1 + v2) = false := by simpa using hl
            have HLX := Lib.hid hl
            go_wp2_with (refine wp_region_later_lit (by kernel_rfl) (by kernel_rfl) ?_; (repeat (go_big_quiet_step (fail))); refine wpQuiet_nil ?_; intro w3 hb3)
            go_roundw
            case rel =>
              refine ⟨i + 1, _, _, by omega, rfl, by go_num, ?_, HBJ.out.trans (hb3.mono HBJ.out.size)⟩
              rw [HEND.out (by rw [HP.out]; intro z hz; simp at hz; subst hz; rw [HLT.out]; exact decide_eq_false HLX.out)]
              exact owns_ext HOJ.out hb3
            case measure => simp [intOf]; omega
    · obtain rfl : i = n := by omega
      go_wp2
      go_ret
      refine ⟨_, _, rfl, ?_, HB.out⟩
      have := HO.out
      unfold ordE
      rw [HL.out]
      exact this
end Go.Proofs.YtlhnhmimhpcoaaaGreat
namespace Go.Proofs.YtlhnhmimhpcoaaaGreat
open Go.RowKit
set_option linter.unusedSimpArgs false
set_option linter.unusedVariables false
theorem ESt : Elt Tryz.prog 108 113 6 64 := Elt.mk' (z := .agg #[.slice none 0 0, .int .i64 0, .int .i64 0, .int .i64 0, .int .i64 0, .bool false]) Tryz.underlying108 (by kernel_rfl) rfl (by decide)
def rowsS (k : Nat) (h : Nat → Hdr) : List Value := ((List.range k).map (fun i => (h i))).flatMap (fun d => encS d 0 Jb.zero)
theorem encS_len (d : Hdr) : (encS d 0 Jb.zero).length = 6 := rfl
structure PB (w wc : World) (p rb : Nat) (evs : Nat → List P2) (rk : List Int) (v3 : Value) (wx : World) (k : Nat) (h : Nat → Hdr) : Prop where
  c : ∀ j, j ≠ 7 → wx.cell? ⟨p, j, none⟩ = wc.cell? ⟨p, j, none⟩
  s : ∃ (sa : Option Addr) (sc : Nat), wx.cell? ⟨p, 7, none⟩ = some (.slice sa k sc) ∧ wx.ownsRow wc.heap.size 113 6 (.slice sa k sc) k (rowsS k h)
  od : ∀ i, i < k → wx.ownsRow wc.heap.size 3 1 (sl (h i)) (h i).n ((ordE (evs i)).flatMap enc1)
  r3 : wx.ownsRow wc.heap.size 3 1 v3 rk.length (rk.flatMap enc1)
  fp : ∀ j, wx.frozen? ⟨p, j, none⟩ = false
  fr : ∀ j, wx.frozen? ⟨rb, j, none⟩ = false
  sz : wc.heap.size ≤ wx.heap.size
  lb : Below w.heap.size w wx
  bx : ∀ j, wx.cell? ⟨w.heap.size, j, none⟩ = wc.cell? ⟨w.heap.size, j, none⟩
  bf : ∀ j, wx.frozen? ⟨w.heap.size, j, none⟩ = false
section
variable {w wc : World} {p rb : Nat} {evs : Nat → List P2} {rk : List Int} {v3 : Value} {wx : World} {k : Nat} {h : Nat → Hdr}
theorem PB.ext (hP : PB w wc p rb evs rk v3 wx k h) (hp : p < wc.heap.size) (hr : rb < wc.heap.size) (hw : w.heap.size < wc.heap.size) {w' : World} (hb : Below wx.heap.size wx w') : PB w wc p rb evs rk v3 w' k h := by
  have hz := hP.sz
  have cp : ∀ j, w'.cell? ⟨p, j, none⟩ = wx.cell? ⟨p, j, none⟩ := fun j => hb.cell (p := ⟨p, j, none⟩) (by simp only []; omega)
  refine ⟨fun j hj => (cp j).trans (hP.c j hj), ?_, fun i hi => owns_ext (hP.od i hi) hb, owns_ext hP.r3 hb, fun j => (hb.frozen (p := ⟨p, j, none⟩) (by simp only []; omega)).trans (hP.fp j), fun j => (hb.frozen (p := ⟨rb, j, none⟩) (by simp only []; omega)).trans (hP.fr j), Nat.le_trans hz hb.size, hP.lb.trans (hb.mono hP.lb.size), fun j => (hb.cell (p := ⟨w.heap.size, j, none⟩) (by simp only []; omega)).trans (hP.bx j), fun j => (hb.frozen (p := ⟨w.heap.size, j, none⟩) (by simp only []; omega)).trans (hP.bf j)⟩
  obtain ⟨sa, sc, h1, h2⟩ := hP.s
  exact ⟨sa, sc, (cp 7).trans h1, owns_ext h2 hb⟩
theorem PB.rank (hP : PB w wc p rb evs rk v3 wx k h) (hne : p ≠ rb) (hr : rb < wc.heap.size) (hrw : w.heap.size < rb) (j : Nat) (u : Value) : PB w wc p rb evs rk v3 (wx.setCell ⟨rb, j, none⟩ u) k h := by
  have co : ∀ i, (wx.setCell ⟨rb, j, none⟩ u).cell? ⟨p, i, none⟩ = wx.cell? ⟨p, i, none⟩ := fun i => World.cell?_setCell_other _ _ _ _ (addr_neS (.inl (fun q => hne q.symm)))
  refine ⟨fun i hi => (co i).trans (hP.c i hi), ?_, fun i hi => owns_far (hP.od i hi) hr u, owns_far hP.r3 hr u, fun i => by rw [World.frozen?_setCell]; exact hP.fp i, fun i => by rw [World.frozen?_setCell]; exact hP.fr i, by have := hP.sz; simpa using this, hP.lb.setCell (p := ⟨rb, j, none⟩) (Nat.le_of_lt hrw) _, fun i => (World.cell?_setCell_other _ _ _ _ (addr_neS (.inl (by omega)))).trans (hP.bx i), fun i => by rw [World.frozen?_setCell]; exact hP.bf i⟩
  obtain ⟨sa, sc, h1, h2⟩ := hP.s
  exact ⟨sa, sc, (co 7).trans h1, owns_far h2 hr u⟩
theorem rowsS_succ (k : Nat) (h : Nat → Hdr) (d : Hdr) : rowsS (k + 1) (updF h k d) = rowsS k h ++ encS d 0 Jb.zero := by
  unfold rowsS
  rw [List.range_succ, List.map_append, List.flatMap_append, List.map_singleton, updF_same]
  congr 1
  · congr 1
    refine List.map_congr_left (fun i hi => ?_)
    rw [List.mem_range] at hi
    exact updF_other _ _ (by omega)
theorem PB.push {wb w' : World} {sa a' : Option Addr} {sc c' : Nat} {d : Hdr} (hP : PB w wc p rb evs rk v3 wb k h) (hne : p ≠ rb) (hp : p < wc.heap.size) (hr : rb < wc.heap.size) (hpw : w.heap.size < p) (hw : w.heap.size < wc.heap.size)
    (ho : wb.ownsRow wc.heap.size 3 1 (sl d) d.n ((ordE (evs k)).flatMap enc1)) (h7 : wb.cell? ⟨p, 7, none⟩ = some (.slice sa k sc))
    (hs : wb.ownsRow wc.heap.size 113 6 (.slice sa k sc) k (rowsS k h))
    (hown : w'.ownsRow wc.heap.size 113 6 (.slice a' (k + 1) c') (k + 1) (rowsS k h ++ encS d 0 Jb.zero)) (hg : wb.grownBy w' (Value.slice sa k sc).ownBlock) :
    PB w wc p rb evs rk v3 (w'.setCell ⟨p, 7, none⟩ (.slice a' (k + 1) c')) (k + 1) (updF h k d) := by
  have hb : Below wc.heap.size wb w' := grown_below hs hg hP.sz
  have cp : ∀ j, w'.cell? ⟨p, j, none⟩ = wb.cell? ⟨p, j, none⟩ := fun j => hb.cell (p := ⟨p, j, none⟩) hp
  have hz := hb.size
  refine ⟨fun j hj => (World.cell?_setCell_other _ _ _ _ (addr_neS (.inr (fun q => hj q.symm)))).trans ((cp j).trans (hP.c j hj)), ⟨a', c', World.cell?_setCell_same _ _ _ ((cp 7).trans h7), ?_⟩, fun i hi => ?_, ?_, fun j => by rw [World.frozen?_setCell]; exact (hb.frozen (p := ⟨p, j, none⟩) hp).trans (hP.fp j), fun j => by rw [World.frozen?_setCell]; exact (hb.frozen (p := ⟨rb, j, none⟩) hr).trans (hP.fr j), by have := hP.sz; simp; omega, (hP.lb.trans (hb.mono (Nat.le_of_lt hw))).setCell (p := ⟨p, 7, none⟩) (Nat.le_of_lt hpw) _, fun j => (World.cell?_setCell_other _ _ _ _ (addr_neS (.inl (by omega)))).trans ((hb.cell (p := ⟨w.heap.size, j, none⟩) hw).trans (hP.bx j)), fun j => by rw [World.frozen?_setCell]; exact (hb.frozen (p := ⟨w.heap.size, j, none⟩) hw).trans (hP.bf j)⟩
  · rw [rowsS_succ]; exact owns_far hown hp _
  · refine owns_far ?_ hp _
    by_cases e : i = k
    · subst e; rw [updF_same]; exact owns_kept ho hs (by decide) hg
    · rw [updF_other _ _ e]; exact owns_kept (hP.od i (by omega)) hs (by decide) hg
  · exact owns_far (owns_kept hP.r3 hs (by decide) hg) hp _
theorem owns_block_ne {wz : World} {B e e' m m' n n' : Nat} {v v' : Value} {xs xs' : List Value} (h1 : wz.ownsRow B e m v n xs) (h2 : wz.ownsRow B e' m' v' n' xs') (hne : e ≠ e') {b b' : Nat} (hb : v.ownBlock = some b) (hb' : v'.ownBlock = some b') : b ≠ b' := by
  rintro rfl
  rcases h1.2 with ⟨rfl, _⟩ | ⟨g, cap, cur, rfl, _, g1, _⟩
  · simp [Value.ownBlock] at hb
  · rcases h2.2 with ⟨rfl, _⟩ | ⟨g', cap', cur', rfl, _, g2, _⟩
    · simp [Value.ownBlock] at hb'
    · simp [Value.ownBlock] at hb hb'
      subst hb; subst hb'
      rw [g1] at g2
      simp at g2
      exact hne g2.2
theorem rowsS_get {k : Nat} {h : Nat → Hdr} {wz : World} {g c : Nat} (ho : wz.ownsRow wc.heap.size 113 6 (.slice (some ⟨g, 0, none⟩) k c) k (rowsS k h)) {i : Nat} (hi : i < k) {j : Nat} (hj : j < 6) : wz.cell? ⟨g, i * 6 + j, none⟩ = (encS (h i) 0 Jb.zero)[j]? := by
  have hR : Rd wz (some ⟨g, 0, none⟩) k 6 (((List.range k).map (fun i => h i)).map (fun d => encS d 0 Jb.zero)) := Rd.of_owns encS_len (by decide) ho
  obtain ⟨h1, h2, h3⟩ := hR
  obtain ⟨b, off, e, _, hx⟩ := h3 (by omega)
  obtain ⟨rfl, rfl⟩ : g = b ∧ 0 = off := by simpa using e
  have := hx i (by simpa using hi) j hj
  rw [Nat.zero_add] at this
  rw [this]
  simp
end
/-- the run under way, as it begins -/
theorem PB.start {w wc wx : World} {p rb : Nat} {rk : List Int} {v3 : Value} {h : Nat → Hdr} {H : RunH} {R : Rn} {O : List Int} (hP : PB w wc p rb (evA R) rk v3 wx R.L.length h) (hne : p ≠ rb) (hp : p < wc.heap.size) (hr : rb < wc.heap.size) (hpw : w.heap.size < p) (hrw : w.heap.size < rb)
    (hc : Blk wc p #[.slice H.tA H.tN H.tC, .int .i64 R.fr, .int .i64 R.sl, .slice H.eA H.eN H.eC, .slice H.bA H.bN H.bC, .slice H.sA H.sN H.sC, .slice (some ⟨rb, 0, none⟩) R.L.length R.L.length, .slice none 0 0, .slice none 0 0])
    (hO : O = ofL R.L) (hrk : ∀ j, j < R.L.length → ∃ x, O[j]? = some x ∧ wx.cell? ⟨rb, j, none⟩ = some (.int .i64 x)) (hw : w.heap.size < wc.heap.size) :
    ∃ M : RPar, M.w0 = w ∧ M.H = H ∧ M.R = R ∧ M.p = p ∧ w.heap.size ≤ M.K ∧ RLay M ∧ PlM M wx (plM R 0) (List.replicate R.L.length 0) := by
  obtain ⟨sa, sc, h7, hs⟩ := hP.s
  have hz := hP.sz
  have key : ∃ S : Nat, w.heap.size ≤ S ∧ S < wx.heap.size ∧ p ≠ S ∧ S ≠ rb ∧ (0 < R.L.length → sa = some ⟨S, 0, none⟩) ∧ (∀ j, wx.frozen? ⟨S, j, none⟩ = false) ∧ (∀ i, i < R.L.length → ∀ j, j < 6 → wx.cell? ⟨S, i * 6 + j, none⟩ = (encS (h i) 0 Jb.zero)[j]?) ∧ (∀ i, i < R.L.length → ∀ ad, (h i).a = some ad → ad.block ≠ S) := by
    rcases hs.2 with ⟨hv, h0⟩ | ⟨g, cap, cur, hv, hB, hg, _⟩
    · exact ⟨w.heap.size, Nat.le_refl _, by omega, by omega, by omega, fun q => by omega, hP.bf, fun i hi => by omega, fun i hi => by omega⟩
    · have hv' := hv
      simp at hv
      obtain ⟨rfl, rfl⟩ := hv
      have hgl : g < wx.heap.size := (Array.getElem?_eq_some_iff.1 hg).1
      refine ⟨g, by omega, hgl, by omega, by omega, fun _ => rfl, fun j => hs.frozenAt j, fun i hi j hj => rowsS_get hs hi hj, fun i hi ad had => ?_⟩
      refine owns_block_ne (hP.od i hi) hs (by decide) (b := ad.block) (b' := g) ?_ rfl
      unfold sl; rw [had]; rfl
  obtain ⟨S, k1, k2, k3, k4, k5, k6, k7, k8⟩ := key
  refine ⟨⟨w, H, R, wx.heap.size, p, S, sa, sc, rb, h⟩, rfl, rfl, rfl, rfl, by simp only []; omega, ⟨⟨by simp only []; omega, by simp only []; omega⟩, ⟨k1, k2⟩, ⟨by simp only []; omega, by simp only []; omega⟩, ⟨k3, hne, k4⟩, k5, fun i hi ad had => ⟨?_, ?_, k8 i hi ad had⟩⟩, ?_⟩
  · have ho := hP.od i hi
    rcases ho.2 with ⟨hv, _⟩ | ⟨g, cap, cur, hv, _, hg, _⟩
    · unfold sl at hv; simp only [] at had; rw [had] at hv; simp at hv
    · unfold sl at hv; simp only [] at had; rw [had] at hv
      simp at hv
      rw [hv.1]; exact (Array.getElem?_eq_some_iff.1 hg).1
  · have ho := hP.od i hi
    rcases ho.2 with ⟨hv, _⟩ | ⟨g, cap, cur, hv, hB, hg, _⟩
    · unfold sl at hv; simp only [] at had; rw [had] at hv; simp at hv
    · unfold sl at hv; simp only [] at had; rw [had] at hv
      simp at hv
      rw [hv.1]; show g ≠ p; omega
  · have hja : ∀ i, (plM R 0).ja i = Jb.zero := fun i => by unfold plM Ms.ja ms0; simp only [List.getElem?_replicate]; split <;> rfl
    have hat : ∀ i, atA (List.replicate R.L.length 0) i = 0 := fun i => by unfold atA; rw [List.getElem?_replicate]; split <;> rfl
    refine ⟨(hP.c 0 (by decide)).trans (hc.c 0), (hP.c 1 (by decide)).trans (hc.c 1), (hP.c 2 (by decide)).trans (hc.c 2), (hP.c 3 (by decide)).trans (hc.c 3), (hP.c 4 (by decide)).trans (hc.c 4), (hP.c 5 (by decide)).trans (hc.c 5), (hP.c 6 (by decide)).trans (hc.c 6), h7,
      hP.fp, ⟨none, 0, 0, (hP.c 8 (by decide)).trans (hc.c 8), World.ownsRow_nil _ _ _ _⟩, fun i hi => ?_, fun i hi j hj => ?_, k6, fun i hi => ownsI_rd (hP.od i hi), Nat.le_refl _, by simp [plM, ms0], by simp, hP.lb⟩
    · obtain ⟨x, h1, h2⟩ := hrk i hi
      rw [hO, ofL_get hi] at h1
      simp at h1
      rw [← h1] at h2; exact h2
    · rw [hja, hat]; exact k7 i hi j hj
end Go.Proofs.YtlhnhmimhpcoaaaGreat
namespace Go.Proofs.YtlhnhmimhpcoaaaGreat
open Go.RowKit
set_option linter.unusedSimpArgs false
set_option linter.unusedVariables false
def saneR : Rn := ⟨[⟨0, 4, 0, 4, 0, [(2, -1)]⟩], 4, 1, [[(0, 0)]], [0], []⟩
def saneE : List En := [⟨0, 0, 1, 0, 0⟩, ⟨0, -1, 3, 0, 0⟩, ⟨1, 0, 4, 0, 0⟩, ⟨2, 0, 4, 0, 0⟩, ⟨3, 0, 5, 0, 0⟩]
set_option maxRecDepth 100000 in
theorem sane_sim : simR saneR 4 = (saneE, 0) := by decide
def saneW (w : World) : World := (((((w.alloc (.cells #[.int .i64 2, .int .i64 (-1)] 52)).alloc (.cells #[.int .i64 0, .int .i64 4, .int .i64 0, .int .i64 4, .int .i64 0, .slice (some ⟨w.heap.size, 0, none⟩) 1 1] 50)).alloc (.cells #[.int .i64 0, .int .i64 0] 53)).alloc (.cells #[.slice (some ⟨w.heap.size + 2, 0, none⟩) 1 1] 27)).alloc (.cells #[.int .i64 0] 3))
def saneH (w : World) : RunH := ⟨some ⟨w.heap.size + 1, 0, none⟩, 1, 1, some ⟨w.heap.size + 3, 0, none⟩, 1, 1, some ⟨w.heap.size + 4, 0, none⟩, 1, 1, none, 0, 0⟩
theorem rd_one {α : Type} {w : World} {b k : Nat} {f : α → List Value} (x : α) (hk : (f x).length = k) (hb : b < w.heap.size) (h : ∀ j, j < k → w.cell? ⟨b, j, none⟩ = (f x)[j]?) : Rd w (some ⟨b, 0, none⟩) 1 k ([x].map f) := by
  refine ⟨by simp, by omega, fun _ => ⟨b, 0, rfl, hb, fun i hi j hj => ?_⟩⟩
  have : i = 0 := by simpa using hi
  subst this
  have := h j hj
  simpa using this
theorem saneW_rd (w : World) : ReadRun (saneW w) (saneH w) saneR := by
  have hz : w.heap.size + 5 = (saneW w).heap.size := by simp [saneW]
  refine ⟨⟨[⟨0, 4, 0, 4, 0, some ⟨w.heap.size, 0, none⟩, 1, 1, [(2, -1)]⟩], ⟨rd_one _ rfl (by omega) (fun j hj => ?_), fun t ht => ?_⟩, rfl⟩, ⟨[⟨some ⟨w.heap.size + 2, 0, none⟩, 1, 1, [(0, 0)]⟩], rd_one _ rfl (by omega) (fun j hj => ?_), fun v hv => ?_, rfl⟩, rd_one _ rfl (by omega) (fun j hj => ?_), Rd.nil _ _ _⟩
  · match j, hj with
    | 0, _ => simp [saneW, encTa, go_sem]
    | 1, _ => simp [saneW, encTa, go_sem]
    | 2, _ => simp [saneW, encTa, go_sem]
    | 3, _ => simp [saneW, encTa, go_sem]
    | 4, _ => simp [saneW, encTa, go_sem]
    | 5, _ => simp [saneW, encTa, go_sem]
  · simp at ht
    subst ht
    refine ⟨rd_one _ rfl (by omega) (fun j hj => ?_), fun h => by simp at h⟩
    match j, hj with
    | 0, _ => simp [saneW, enc2, go_sem]
    | 1, _ => simp [saneW, enc2, go_sem]
  · match j, hj with
    | 0, _ => simp [saneW, encV, go_sem]
  · simp at hv
    subst hv
    refine rd_one _ rfl (by first | omega | (simp only []; omega)) (fun j hj => ?_)
    match j, hj with
    | 0, _ => simp [saneW, enc2, go_sem]
    | 1, _ => simp [saneW, enc2, go_sem]
  · match j, hj with
    | 0, _ => simp [saneW, enc1, go_sem]
theorem Sim_is {H : RunH} {R : Rn} {t : Int} {w : World} {xs : List En} {y : Int} (hR : ReadRun w H R) (h : simR R t = (xs, y)) : Calls Tryz.prog 16 #[runV H R.fr R.sl, .int .i64 t] w (OutEn w xs y) := by
  have := Simulate_any H R t w hR
  rw [h] at this; exact this
theorem sane_cells {w : World} {B : Nat} {a : Option Addr} {n c : Nat} (h : w.ownsRow B 58 5 (.slice a n c) n (saneE.flatMap encE)) : ∃ g, a = some ⟨g, 0, none⟩ ∧ n = 5 ∧
    w.cell? ⟨g, 2, none⟩ = some (.int .i64 1) ∧ w.cell? ⟨g, 7, none⟩ = some (.int .i64 3) ∧ w.cell? ⟨g, 12, none⟩ = some (.int .i64 4) ∧ w.cell? ⟨g, 17, none⟩ = some (.int .i64 4) ∧ w.cell? ⟨g, 15, none⟩ = some (.int .i64 2) ∧ w.cell? ⟨g, 22, none⟩ = some (.int .i64 5) ∧ w.cell? ⟨g, 20, none⟩ = some (.int .i64 3) := by
  have hn : n = 5 := by have := (Rd.of_owns encE_len (by decide) h).length; simpa [saneE] using this.symm
  subst hn
  rcases h.2 with ⟨_, h8⟩ | ⟨g, cap, cur, hv, _⟩
  · omega
  · simp at hv
    obtain ⟨rfl, _⟩ := hv
    refine ⟨g, rfl, rfl, ?_, ?_, ?_, ?_, ?_, ?_, ?_⟩ <;> (rw [h.cellAt _ (by decide)]; rfl)
set_option maxRecDepth 10000 in
set_option maxHeartbeats 2000000 in
theorem sane_any (w : World) : Calls Tryz.prog 7 #[] w fun e w' => e = .returned (.bool true) ∧ Below w.heap.size w w' := by
  have hW := saneW_rd w
  have hBW : Below w.heap.size w (saneW w) := by unfold saneW; (repeat' (first | (with_reducible exact Below.refl _ _) | (with_reducible assumption) | (with_reducible refine Below.alloc ?_ ?_ _) | (with_reducible refine Below.drew ?_) | (with_reducible refine Below.draws ?_ _) | (with_reducible refine Below.setCell ?_ ?_ _) | (refine Below.then ?_ (by with_reducible assumption)) | go_size))
  have hW2 := hW.ext (show Below (saneW w).heap.size (saneW w) ((saneW w).alloc (.cells #[.slice (some ⟨w.heap.size + 1, 0, none⟩) 1 1, .int .i64 4, .int .i64 1, .slice (some ⟨w.heap.size + 3, 0, none⟩) 1 1, .slice (some ⟨w.heap.size + 4, 0, none⟩) 1 1, .slice none 0 0] 29)) by (repeat' (first | (with_reducible exact Below.refl _ _) | (with_reducible assumption) | (with_reducible refine Below.alloc ?_ ?_ _) | (with_reducible refine Below.drew ?_) | (with_reducible refine Below.draws ?_ _) | (with_reducible refine Below.setCell ?_ ?_ _) | (refine Below.then ?_ (by with_reducible assumption)) | go_size)))
  have hS := Sim_is hW2 sane_sim
  have hBW2 : Below w.heap.size w ((saneW w).alloc (.cells #[.slice (some ⟨w.heap.size + 1, 0, none⟩) 1 1, .int .i64 4, .int .i64 1, .slice (some ⟨w.heap.size + 3, 0, none⟩) 1 1, .slice (some ⟨w.heap.size + 4, 0, none⟩) 1 1, .slice none 0 0] 29)) := Below.alloc hBW hBW.size _
  unfold runV saneH saneW at hS
  unfold saneW at hBW2
  simp only [saneR] at hS
  have HS := Lib.hid hS; have HB := Lib.hid hBW2
  clear hW hBW hW2 hS hBW2
  go_enter Tryz.func7, Tryz.ntmps7
  go_wp2_with (go_at_call 16; (with_reducible refine HS.out.mono ?_); rintro e w1 ⟨a1, n1, c1, rfl, h1, hb1⟩; obtain ⟨g, rfl, rfl, k2, k7, k12, k17, k15, k22, k20⟩ := sane_cells h1; have B1 := Lib.hid (Below.then HB.out hb1); clear h1 hb1)
  go_ret
  exact ⟨rfl, B1.out⟩
/-- how many parts a run has -/
def hvA (R : Rn) : Nat := R.L.length + R.ev.length + R.bu.length + R.sg.length
def hvE : List (List P2) → Nat → Nat
  | [], n => n
  | l :: ls, n => hvE ls (n + l.length)
def hvT : List Ta → Nat → Nat
  | [], n => n
  | t :: ts, n => hvT ts (n + t.pcs.length)
def heavyB (R : Rn) : Bool := decide (300 < hvA R) || decide (1000 < hvT R.L (hvE R.ev (hvA R)))
end Go.Proofs.YtlhnhmimhpcoaaaGreat
