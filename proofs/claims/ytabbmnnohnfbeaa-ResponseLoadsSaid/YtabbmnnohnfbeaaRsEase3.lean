/- The contract of Easier of the reference. The conditions: the tasks read as named. -/
import Derived.Test.YtabbmnnohnfbeaaRsEase
import Derived.Test.YtabbmnnohnfbeaaRsEq
namespace Go.Proofs.Ytabbmnnohnfbeaa
open Go.RowKit
set_option linter.unusedSimpArgs false
set_option linter.unusedVariables false
/-- a box with a pattern in it -/
structure PBox (w : World) (p : Nat) (f g j : Int) : Prop where
  lt : p < w.heap.size
  c0 : w.cell? ⟨p, 0, none⟩ = some (.int .i64 f)
  c1 : w.cell? ⟨p, 1, none⟩ = some (.int .i64 g)
  c2 : w.cell? ⟨p, 2, none⟩ = some (.int .i64 j)
theorem PBox.ext {w w' : World} {p f g j} (h : PBox w p f g j) (hb : Below w.heap.size w w') : PBox w' p f g j :=
  ⟨Nat.lt_of_lt_of_le h.lt hb.size, (hb.cell (p := ⟨p, 0, none⟩) h.lt).trans h.c0, (hb.cell (p := ⟨p, 1, none⟩) h.lt).trans h.c1, (hb.cell (p := ⟨p, 2, none⟩) h.lt).trans h.c2⟩
theorem pb_old (w : World) (f g j : Int) (o : Obj) (T : TypeId) : PBox ((w.alloc (.cells #[.int .i64 f, .int .i64 g, .int .i64 j] T)).alloc o).drew w.heap.size f g j := by
  refine PBox.ext (w := w.alloc (.cells #[.int .i64 f, .int .i64 g, .int .i64 j] T)) ⟨by simp, ?_, ?_, ?_⟩ (by (repeat' (first | (with_reducible exact Below.refl _ _) | (with_reducible assumption) | (with_reducible refine Below.alloc ?_ ?_ _) | (with_reducible refine Below.drew ?_) | (with_reducible refine Below.draws ?_ _) | (with_reducible refine Below.setCell ?_ ?_ _) | (refine Below.then ?_ (by with_reducible assumption)) | go_size))) <;> exact (World.cell?_alloc_new w _ T _).trans rfl
theorem pb_new (w : World) (f g j : Int) (o : Obj) (T : TypeId) : PBox ((w.alloc o).alloc (.cells #[.int .i64 f, .int .i64 g, .int .i64 j] T)).drew (w.heap.size + 1) f g j := by
  have h : (w.alloc o).heap.size = w.heap.size + 1 := by simp
  rw [← h]
  refine PBox.ext (w := (w.alloc o).alloc (.cells #[.int .i64 f, .int .i64 g, .int .i64 j] T)) ⟨by simp, ?_, ?_, ?_⟩ (by (repeat' (first | (with_reducible exact Below.refl _ _) | (with_reducible assumption) | (with_reducible refine Below.alloc ?_ ?_ _) | (with_reducible refine Below.drew ?_) | (with_reducible refine Below.draws ?_ _) | (with_reducible refine Below.setCell ?_ ?_ _) | (refine Below.then ?_ (by with_reducible assumption)) | go_size))) <;> exact (World.cell?_alloc_new (w.alloc o) _ T _).trans rfl
set_option maxRecDepth 100000 in
set_option maxHeartbeats 16000000 in
theorem rEasier_is {a b : Option Addr} {n m c d : Nat} {L K : List Ta} {v : Bool} {x : Int} {w : World} (hA : RdL w a n L) (hB : RdL w b m K) (h : easR L K = (v, x)) :
    Calls Try.prog 49 #[.slice a n c, .slice b m d] w fun e w' => e = rBI v x ∧ Below w.heap.size w w' := by
  have HA := Lib.hid hA; have HB := Lib.hid hB
  have HLA := Lib.hid hA.length
  have HLB := Lib.hid hB.length
  have hs := hA.small
  have hs2 := hB.small
  obtain ⟨vl, hvl⟩ : ∃ b, validL L = b := ⟨_, rfl⟩
  obtain ⟨vk, hvk⟩ : ∃ b, validL K = b := ⟨_, rfl⟩
  have HVL := Lib.hid hvl; have HVK := Lib.hid hvk
  unfold easR at h
  rw [hvl, hvk] at h
  cases vl
  · simp at h
    obtain ⟨rfl, rfl⟩ := h
    clear hA hB hvl hvk
    go_enter Try.func49, Try.ntmps49
    go_wp2_with (go_at_call 34; (with_reducible refine (rValid_is HA.out HVL.out).mono ?_); rintro e w1 ⟨rfl, hb1⟩; have B1 := Lib.hid hb1; clear hb1)
    go_ret2
    exact ⟨rfl, B1.out⟩
  · cases vk
    · simp at h
      obtain ⟨rfl, rfl⟩ := h
      clear hA hB hvl hvk
      go_enter Try.func49, Try.ntmps49
      go_wp2_with (first
        | (go_at_call 34; (with_reducible refine (rValid_is HA.out HVL.out).mono ?_); rintro e w1 ⟨rfl, hb1⟩; have B1 := Lib.hid hb1; clear hb1)
        | (go_at_call 34; (with_reducible refine (rValid_is (HB.out.ext B1.out) HVK.out).mono ?_); rintro e w2 ⟨rfl, hb2⟩; have B2 := Lib.hid hb2; clear hb2))
      go_ret2
      exact ⟨rfl, Below.then B1.out B2.out⟩
    · simp at h
      obtain ⟨h1, rfl⟩ := h
      clear hA hB hvl hvk
      by_cases hnm : n = m
      · subst hnm
        have HE0 : Hid (easL (L.drop 0) (K.drop 0) = v) := Lib.hid h1
        clear h1
        go_enter Try.func49, Try.ntmps49
        go_wp2_with (first
          | (go_at_call 34; (with_reducible refine (rValid_is HA.out HVL.out).mono ?_); rintro e w1 ⟨rfl, hb1⟩; have B1 := Lib.hid hb1; clear hb1)
          | (go_at_call 34; (with_reducible refine (rValid_is (HB.out.ext B1.out) HVK.out).mono ?_); rintro e w2 ⟨rfl, hb2⟩; have B2 := Lib.hid (Below.then B1.out hb2); clear hb2))
        go_loopw [6] (fun i wr => ∃ k : Nat, k ≤ n ∧ i = .int .i64 k ∧ easL (L.drop k) (K.drop k) = v ∧ Below w.heap.size w wr) (fun i _ => n - (intOf i).toNat)
        case atStart => exact ⟨0, Nat.zero_le _, rfl, HE0.out, B2.out⟩
        case round =>
          clear HE0 B1 B2 HVL HVK
          obtain ⟨k, hk, rfl, he, hb⟩ := hrel
          have HE := Lib.hid he; have HW := Lib.hid hb
          clear he hb
          by_cases hlt : k < n
          · obtain ⟨t, b1, o1, pa, pn, pc, rfl, hb1, c0, c1, c2, c3, c4, c5, hp, _, hg, HD⟩ := (HA.out.ext HW.out).at_ k hlt
            obtain ⟨u, b2, o2, qa, qn, qc, rfl, hb2, d0, d1, d2, d3, d4, d5, hq, _, hg', HD'⟩ := (HB.out.ext HW.out).at_ k hlt
            have hE := HE.out
            rw [HD.out, HD'.out, easL] at hE
            have HE2 := Lib.hid hE
            have HP := Lib.hid hp; have HQ := Lib.hid hq
            have HPL := Lib.hid hp.length; have HQL := Lib.hid hq.length
            have hps := hp.small; have hqs := hq.small
            have n1 : ¬ b1 = wr.heap.size := by omega
            have n2 : ¬ b2 = wr.heap.size := by omega
            clear HE HD HD' hg hg' hp hq hE
            obtain ⟨p0, p1, p2, p3, p4, ps⟩ := t
            obtain ⟨q0, q1, q2, q3, q4, qs⟩ := u
            simp only [] at c0 c1 c2 c3 c4 c5 d0 d1 d2 d3 d4 d5
            go_wp2_with fail
            go_cut [7, 8] (fun s6 s7 wx => ∃ p q : Nat, s6 = .pointer (some ⟨p, 0, none⟩) ∧ s7 = .pointer (some ⟨q, 0, none⟩) ∧ TBox wx p ⟨p0, p1, p2, p3, p4, ps⟩ pa pn pc ∧ TBox wx q ⟨q0, q1, q2, q3, q4, qs⟩ qa qn qc ∧ Below wr.heap.size wr wx)
            case first =>
              go_region_with (fail)
              all_goals (go_wp2_with fail; go_meet; first | exact ⟨_, _, rfl, rfl, tb_old _ _ _ _ _ _ _ _ _ _ _ _, tb_new _ _ _ _ _ _ _ _ _ _ _ _, by (repeat' (first | (with_reducible exact Below.refl _ _) | (with_reducible assumption) | (with_reducible refine Below.alloc ?_ ?_ _) | (with_reducible refine Below.drew ?_) | (with_reducible refine Below.draws ?_ _) | (with_reducible refine Below.setCell ?_ ?_ _) | (refine Below.then ?_ (by with_reducible assumption)) | go_size))⟩ | exact ⟨_, _, rfl, rfl, tb_new _ _ _ _ _ _ _ _ _ _ _ _, tb_old _ _ _ _ _ _ _ _ _ _ _ _, by (repeat' (first | (with_reducible exact Below.refl _ _) | (with_reducible assumption) | (with_reducible refine Below.alloc ?_ ?_ _) | (with_reducible refine Below.drew ?_) | (with_reducible refine Below.draws ?_ _) | (with_reducible refine Below.setCell ?_ ?_ _) | (refine Below.then ?_ (by with_reducible assumption)) | go_size))⟩)
            case rest =>
              obtain ⟨p, q, rfl, rfl, hP, hP', hBc⟩ := hcut
              have HC := Lib.hid (Below.then HW.out hBc)
              have HPc := Lib.hid (HP.out.ext hBc)
              have HQc := Lib.hid (HQ.out.ext hBc)
              have HTP := Lib.hid hP
              have HTQ := Lib.hid hP'
              clear c0 c1 c2 c3 c4 c5 d0 d1 d2 d3 d4 d5 n1 n2 HP HQ HW
              have f0 := hP.c0; have f1 := hP.c1; have f2 := hP.c2; have f3 := hP.c3; have f4 := hP.c4; have f5 := hP.c5
              have g0 := hP'.c0; have g1 := hP'.c1; have g2 := hP'.c2; have g3 := hP'.c3; have g4 := hP'.c4; have g5 := hP'.c5
              have hl1 := hP.lt; have hl2 := hP'.lt
              simp only [] at f0 f1 f2 f3 f4 f5 g0 g1 g2 g3 g4 g5
              have n1 : ¬ p = wc.heap.size := by omega
              have n2 : ¬ q = wc.heap.size := by omega
              clear hP hP' hBc hb1 hb2
              go_wp2_with fail
              go_cut [9, 10] (fun s6 s7 wx => ∃ i j : Nat, s6 = .pointer (some ⟨i, 0, none⟩) ∧ s7 = .pointer (some ⟨j, 0, none⟩) ∧ PBox wx i p2 p3 p4 ∧ PBox wx j q2 q3 q4 ∧ Below wc.heap.size wc wx)
              case first =>
                go_region_with (fail)
                all_goals (go_wp2_with fail; go_meet; first | exact ⟨_, _, rfl, rfl, pb_old _ _ _ _ _ _, pb_new _ _ _ _ _ _, by (repeat' (first | (with_reducible exact Below.refl _ _) | (with_reducible assumption) | (with_reducible refine Below.alloc ?_ ?_ _) | (with_reducible refine Below.drew ?_) | (with_reducible refine Below.draws ?_ _) | (with_reducible refine Below.setCell ?_ ?_ _) | (refine Below.then ?_ (by with_reducible assumption)) | go_size))⟩ | exact ⟨_, _, rfl, rfl, pb_new _ _ _ _ _ _, pb_old _ _ _ _ _ _, by (repeat' (first | (with_reducible exact Below.refl _ _) | (with_reducible assumption) | (with_reducible refine Below.alloc ?_ ?_ _) | (with_reducible refine Below.drew ?_) | (with_reducible refine Below.draws ?_ _) | (with_reducible refine Below.setCell ?_ ?_ _) | (refine Below.then ?_ (by with_reducible assumption)) | go_size))⟩)
              case rest =>
                obtain ⟨i, j, rfl, rfl, hI, hJ, hBd⟩ := hcut
                have HC2 := Lib.hid (Below.then HC.out hBd)
                have HP2 := Lib.hid (HPc.out.ext hBd)
                have HQ2 := Lib.hid (HQc.out.ext hBd)
                have hP := HTP.out.ext hBd
                have hP' := HTQ.out.ext hBd
                have HTP2 := Lib.hid hP
                have HTQ2 := Lib.hid hP'
                clear f0 f1 f2 f3 f4 f5 g0 g1 g2 g3 g4 g5 hl1 hl2 n1 n2 HPc HQc HTP HTQ HC
                have f0 := hP.c0; have f1 := hP.c1; have f5 := hP.c5
                have g0 := hP'.c0; have g1 := hP'.c1; have g5 := hP'.c5
                have i0 := hI.c0; have i1 := hI.c1; have i2 := hI.c2
                have j0 := hJ.c0; have j1 := hJ.c1; have j2 := hJ.c2
                simp only [] at f0 f1 f5 g0 g1 g5
                have HF : Hid (easT ⟨p0, p1, p2, p3, p4, ps⟩ ⟨q0, q1, q2, q3, q4, qs⟩ = false → v = false) := Lib.hid (fun h => by have := HE2.out; rw [h, Bool.false_and] at this; exact this.symm)
                clear hP hP' hI hJ hBd
                by_cases e0 : p0 = q0
                · by_cases e1 : pn = qn
                  · by_cases e2 : q1 < p1
                    · have e2' : decide (q1 < p1) = true := by simpa using e2
                      obtain rfl : v = false := HF.out (by simp [easT]; intros; omega)
                      subst e0; subst e1
                      go_wp2
                      go_ret2
                      exact ⟨rfl, HC2.out⟩
                    · have e2' : decide (q1 < p1) = false := by simpa using e2
                      by_cases e3 : q2 < p2
                      · have e3' : decide (q2 < p2) = true := by simpa using e3
                        obtain rfl : v = false := HF.out (by simp [easT, loosB]; intros; omega)
                        subst e0; subst e1
                        go_wp2
                        go_ret2
                        exact ⟨rfl, HC2.out⟩
                      · have e3' : decide (q2 < p2) = false := by simpa using e3
                        by_cases e4 : q3 < p3
                        · have e4' : decide (q3 < p3) = true := by simpa using e4
                          obtain rfl : v = false := HF.out (by simp [easT, loosB]; intros; omega)
                          subst e0; subst e1
                          go_wp2
                          go_ret2
                          exact ⟨rfl, HC2.out⟩
                        · have e4' : decide (q3 < p3) = false := by simpa using e4
                          by_cases e5 : p4 < q4
                          · have e5' : decide (p4 < q4) = true := by simpa using e5
                            obtain rfl : v = false := HF.out (by simp [easT, loosB]; intros; omega)
                            subst e0; subst e1
                            go_wp2
                            go_ret2
                            exact ⟨rfl, HC2.out⟩
                          · have e5' : decide (p4 < q4) = false := by simpa using e5
                            have ht : easT ⟨p0, p1, p2, p3, p4, ps⟩ ⟨q0, q1, q2, q3, q4, qs⟩ = easP ps qs := by
                              simp only [easT, loosB]
                              rw [decide_eq_true (show p2 ≤ q2 ∧ p3 ≤ q3 ∧ q4 ≤ p4 by omega), decide_eq_true e0, decide_eq_true (show p1 ≤ q1 by omega)]
                              rfl
                            subst e0; subst e1
                            obtain ⟨z, hz⟩ : ∃ z, easP ps qs = z := ⟨_, rfl⟩
                            have HZ0 : Hid (easP (ps.drop 0) (qs.drop 0) = z) := Lib.hid hz
                            have HE3 : Hid ((z && easL (L.drop (k + 1)) (K.drop (k + 1))) = v) := Lib.hid (by rw [← hz, ← ht]; exact HE2.out)
                            clear HF HE2 ht hz
                            go_wp2
                            go_loopw [11] (fun iv wr => ∃ jj : Nat, jj ≤ pn ∧ iv = .int .i64 jj ∧ easP (ps.drop jj) (qs.drop jj) = z ∧ Below wc.heap.size wc wr) (fun iv _ => pn - (intOf iv).toNat)
                            case atStart => exact ⟨0, Nat.zero_le _, rfl, HZ0.out, Below.refl _ _⟩
                            case round =>
                              clear HZ0 f0 f1 f5 g0 g1 g5 i0 i1 i2 j0 j1 j2 e2 e2' e3 e3' e4 e4' e5 e5'
                              obtain ⟨jj, hj, rfl, he, hB2⟩ := hrel
                              have HB2 := Lib.hid hB2
                              have HZ := Lib.hid he
                              have f5 := (HTP2.out.ext hB2).c5
                              have g5 := (HTQ2.out.ext hB2).c5
                              have hl1 := (HTP2.out.ext hB2).lt
                              have hl2 := (HTQ2.out.ext hB2).lt
                              clear hB2 he
                              by_cases hjt : jj < pn
                              · obtain ⟨x, y, b3, off1, rfl, hb3, a1, a2, hz, HD⟩ := (HP2.out.ext HB2.out).pc_at jj hjt
                                obtain ⟨x', y', b4, off2, rfl, hb4, h1, h2, hz', HD'⟩ := (HQ2.out.ext HB2.out).pc_at jj hjt
                                have hE := HZ.out
                                rw [HD.out, HD'.out, easP] at hE
                                clear HZ HD HD' hz hz'
                                by_cases r1 : y = y'
                                · subst r1
                                  by_cases r2 : x < x'
                                  · have r2' : decide (x < x') = true := by simpa using r2
                                    obtain rfl : z = false := by rw [← hE]; simp [pcE]; intros; omega
                                    obtain rfl : v = false := by rw [← HE3.out, Bool.false_and]
                                    clear hE
                                    go_wp2_with (refine wp_region_later_lit (by kernel_rfl) (by kernel_rfl) ?_; (repeat (go_big_quiet_step (fail))); refine wpQuiet_nil ?_; intro w1 hb1; obtain ⟨hc1, hf1, hz1, hr1⟩ := bfacts hb1; (try simp only [World.size_alloc, World.size_setCell, World.size_drew, World.size_drewN] at hz1 hr1); (try have hw0 : w.heap.size < w1.heap.size := by omega); (try have hw1 : w.heap.size + 1 < w1.heap.size := by omega); (try have hw2 : w.heap.size + 1 + 1 < w1.heap.size := by omega))
                                    go_ret2
                                    exact ⟨rfl, Below.then HC2.out (Below.then HB2.out (by (repeat' (first | (with_reducible exact Below.refl _ _) | (with_reducible assumption) | (with_reducible refine Below.alloc ?_ ?_ _) | (with_reducible refine Below.drew ?_) | (with_reducible refine Below.draws ?_ _) | (with_reducible refine Below.setCell ?_ ?_ _) | (refine Below.then ?_ (by with_reducible assumption)) | go_size))))⟩
                                  · have r2' : decide (x < x') = false := by simpa using r2
                                    have hE2 : easP (ps.drop (jj + 1)) (qs.drop (jj + 1)) = z := by rw [← hE, pcE, decide_eq_true rfl, decide_eq_true (show x' ≤ x by omega)]; rfl
                                    have HZ := Lib.hid hE2
                                    clear hE hE2
                                    go_wp2_with (refine wp_region_later_lit (by kernel_rfl) (by kernel_rfl) ?_; (repeat (go_big_quiet_step (fail))); refine wpQuiet_nil ?_; intro w1 hb1; obtain ⟨hc1, hf1, hz1, hr1⟩ := bfacts hb1; (try simp only [World.size_alloc, World.size_setCell, World.size_drew, World.size_drewN] at hz1 hr1); (try have hw0 : w.heap.size < w1.heap.size := by omega); (try have hw1 : w.heap.size + 1 < w1.heap.size := by omega); (try have hw2 : w.heap.size + 1 + 1 < w1.heap.size := by omega))
                                    go_roundw
                                    case rel => exact ⟨jj + 1, by omega, by go_num, HZ.out, Below.then HB2.out (by (repeat' (first | (with_reducible exact Below.refl _ _) | (with_reducible assumption) | (with_reducible refine Below.alloc ?_ ?_ _) | (with_reducible refine Below.drew ?_) | (with_reducible refine Below.draws ?_ _) | (with_reducible refine Below.setCell ?_ ?_ _) | (refine Below.then ?_ (by with_reducible assumption)) | go_size)))⟩
                                    case measure => simp [intOf]; omega
                                · have r1' : (y != y') = true := by simpa using r1
                                  have r1'' : (y == y') = false := by simpa using r1
                                  have r1d : decide (y = y') = false := by simpa using r1
                                  obtain rfl : z = false := by rw [← hE]; simp [pcE, r1]
                                  obtain rfl : v = false := by rw [← HE3.out, Bool.false_and]
                                  clear hE
                                  go_wp2_with (refine wp_region_later_lit (by kernel_rfl) (by kernel_rfl) ?_; (repeat (go_big_quiet_step (fail))); refine wpQuiet_nil ?_; intro w1 hb1; obtain ⟨hc1, hf1, hz1, hr1⟩ := bfacts hb1; (try simp only [World.size_alloc, World.size_setCell, World.size_drew, World.size_drewN] at hz1 hr1); (try have hw0 : w.heap.size < w1.heap.size := by omega); (try have hw1 : w.heap.size + 1 < w1.heap.size := by omega); (try have hw2 : w.heap.size + 1 + 1 < w1.heap.size := by omega))
                                  go_ret2
                                  exact ⟨rfl, Below.then HC2.out (Below.then HB2.out (by (repeat' (first | (with_reducible exact Below.refl _ _) | (with_reducible assumption) | (with_reducible refine Below.alloc ?_ ?_ _) | (with_reducible refine Below.drew ?_) | (with_reducible refine Below.draws ?_ _) | (with_reducible refine Below.setCell ?_ ?_ _) | (refine Below.then ?_ (by with_reducible assumption)) | go_size))))⟩
                              · obtain rfl : z = true := by rw [← HZ.out, drop_end HPL.out (by omega), drop_end HQL.out (by omega)]; rfl
                                have HE4 := Lib.hid HE3.out
                                rw [Bool.true_and] at HE4
                                clear HZ HE3
                                go_wp2
                                go_roundw
                                case rel => exact ⟨k + 1, by omega, by go_num, HE4.out, Below.then HC2.out HB2.out⟩
                                case measure => simp [intOf]; omega
                  · obtain rfl : v = false := HF.out (by simp only [easT]; rw [easP_len (fun h => e1 (by rw [← HPL.out, ← HQL.out]; exact h))]; simp)
                    subst e0
                    go_wp2
                    go_ret2
                    exact ⟨rfl, HC2.out⟩
                · obtain rfl : v = false := HF.out (by simp [easT, e0])
                  go_wp2
                  go_ret2
                  exact ⟨rfl, HC2.out⟩
          · obtain rfl : v = true := by rw [← HE.out, drop_end HLA.out (by omega), drop_end HLB.out (by omega)]; rfl
            clear HE
            go_wp2
            go_ret2
            exact ⟨rfl, HW.out⟩
      · rw [easL_len (fun h => hnm (by rw [← HLA.out, ← HLB.out, h]))] at h1
        obtain rfl := h1
        go_enter Try.func49, Try.ntmps49
        go_wp2_with (first
          | (go_at_call 34; (with_reducible refine (rValid_is HA.out HVL.out).mono ?_); rintro e w1 ⟨rfl, hb1⟩; have B1 := Lib.hid hb1; clear hb1)
          | (go_at_call 34; (with_reducible refine (rValid_is (HB.out.ext B1.out) HVK.out).mono ?_); rintro e w2 ⟨rfl, hb2⟩; have B2 := Lib.hid (Below.then B1.out hb2); clear hb2))
        go_ret2
        exact ⟨rfl, B2.out⟩
end Go.Proofs.Ytabbmnnohnfbeaa
