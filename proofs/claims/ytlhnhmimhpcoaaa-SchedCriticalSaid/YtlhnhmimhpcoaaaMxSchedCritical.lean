/- The walk of SchedCritical: it returns true. The conditions: the tasks read as named. -/
import Derived.Test.YtlhnhmimhpcoaaaMg17
import Derived.Test.YtlhnhmimhpcoaaaMg18
import Derived.Test.YtlhnhmimhpcoaaaMg12
import Derived.Laws.StructEq
namespace Go.Proofs.Ytlhnhmimhpcoaaa
open Go.RowKit
set_option linter.unusedSimpArgs false
set_option linter.unusedVariables false
theorem eqTwoC (a b x y : Int) (w : World) : (Op.equalIn 10000 44 (.agg #[.int .i64 a, .int .i64 b]) (.agg #[.int .i64 x, .int .i64 y])).run Try.prog w = .ok (a == x && b == y) w :=
  equalIn_pair 44 3 9998 Try.underlying44 Try.underlying3 Try.sizeOf3 Try.isAgg3 a b x y w
theorem eqPcC (a b x y : Int) (w : World) : (Op.equalIn 10000 52 (.agg #[.int .i64 a, .int .i64 b]) (.agg #[.int .i64 x, .int .i64 y])).run Try.prog w = .ok (a == x && b == y) w := by
  have hS : Try.prog.underlying 52 = some (.struct (Try.prog.fieldsOf 52)) := by kernel_rfl
  have hp : Try.prog.stoodInHeld 52 = false := by kernel_rfl
  have u3 := Try.underlying3
  have a3 := Try.isAgg3
  have z3 := Try.sizeOf3
  rw [show (10000 : Nat) = 9999 + 1 from rfl, run_equalIn_agg w 9999 52 _ _ hS hp]
  simp only [Program.fieldsOf, Try.underlying52]
  go_simp
  by_cases e1 : a = x <;> by_cases e2 : b = y <;> simp [e1, e2]
theorem eqSupC (a b : Int) (w : World) : (Op.equalIn 10000 24 (.agg #[.int .i64 a, .int .i64 b]) (.agg #[.int .i64 a, .int .i64 b])).run Try.prog w = .ok true w := by
  have hS : Try.prog.underlying 24 = some (.struct (Try.prog.fieldsOf 24)) := by kernel_rfl
  have hp : Try.prog.stoodInHeld 24 = false := by kernel_rfl
  have u3 := Try.underlying3
  have a3 := Try.isAgg3
  have z3 := Try.sizeOf3
  rw [show (10000 : Nat) = 9999 + 1 from rfl, run_equalIn_agg w 9999 24 _ _ hS hp]
  simp only [Program.fieldsOf, Try.underlying24]
  go_simp
theorem eqPatC (a b c : Int) (w : World) : (Op.equalIn 10000 47 (.agg #[.int .i64 a, .int .i64 b, .int .i64 c]) (.agg #[.int .i64 a, .int .i64 b, .int .i64 c])).run Try.prog w = .ok true w := by
  have hS : Try.prog.underlying 47 = some (.struct (Try.prog.fieldsOf 47)) := by kernel_rfl
  have hp : Try.prog.stoodInHeld 47 = false := by kernel_rfl
  have u3 := Try.underlying3
  have a3 := Try.isAgg3
  have z3 := Try.sizeOf3
  rw [show (10000 : Nat) = 9999 + 1 from rfl, run_equalIn_agg w 9999 47 _ _ hS hp]
  simp only [Program.fieldsOf, Try.underlying47]
  go_simp
theorem cints_eq (a b : Option Addr) (n m c d : Nat) (xs : List Int) (w : World) (hA : Rd w a n 1 (xs.map enc1)) (hB : Rd w b m 1 (xs.map enc1)) :
    Calls Try.prog 27 #[.slice a n c, .slice b m d] w fun e w' => e = .returned (.bool true) ∧ Below w.heap.size w w' := by
  obtain rfl : m = n := by rw [← hA.length, ← hB.length]
  have hs := hA.small
  have HA := Lib.hid hA; have HB := Lib.hid hB
  clear hA hB
  go_enter Try.func27, Try.ntmps27
  go_wp2
  go_loopw [5] (fun i wr => ∃ k : Nat, k ≤ m ∧ i = .int .i64 k ∧ Below w.heap.size w wr) (fun i _ => m - (intOf i).toNat)
  case atStart => exact ⟨0, Nat.zero_le _, rfl, by (repeat' (first | (with_reducible exact Below.refl _ _) | (with_reducible assumption) | (with_reducible refine Below.alloc ?_ ?_ _) | (with_reducible refine Below.drew ?_) | (with_reducible refine Below.draws ?_ _) | (with_reducible refine Below.setCell ?_ ?_ _) | (refine Below.then ?_ (by with_reducible assumption)) | go_size))⟩
  case round =>
    obtain ⟨k, hk, rfl, hb⟩ := hrel
    have HW := Lib.hid hb
    clear hb
    by_cases hlt : k < m
    · obtain ⟨x, b1, o1, rfl, hb1, hc1, hx⟩ := (HA.out.ext HW.out).idx k hlt
      obtain ⟨y, b2, o2, rfl, hb2, hc2, hy⟩ := (HB.out.ext HW.out).idx k hlt
      obtain rfl : x = y := by rw [hx] at hy; simpa using hy
      clear hx hy
      go_wp2_with (refine wp_region_later_lit (by kernel_rfl) (by kernel_rfl) ?_; (repeat (go_big_quiet_step (fail))); refine wpQuiet_nil ?_; intro w1 hb1)
      exact ⟨⟨k + 1, hlt, by go_num, Below.then HW.out hb1⟩, by simp [intOf]; omega⟩
    · go_wp2
      go_ret
      exact ⟨rfl, HW.out⟩
def OutC2 (w : World) (R : Rn) (f s er : Int) (e : Ending) (w' : World) : Prop :=
  ∃ (tA : Option Addr) (tN tC : Nat) (eA : Option Addr) (eN eC : Nat) (bA : Option Addr) (bN bC : Nat) (sA : Option Addr) (sN sC : Nat), e = .returned (.tuple #[.agg #[.slice tA tN tC, .int .i64 f, .int .i64 s, .slice eA eN eC, .slice bA bN bC, .slice sA sN sC], .int .i64 er]) ∧ ReadRun w' ⟨tA, tN, tC, eA, eN, eC, bA, bN, bC, sA, sN, sC⟩ R ∧ Below w.heap.size w w'
theorem OutCr.c2 {w : World} {R : Rn} {er f s : Int} {e : Ending} {w' : World} (h : OutCr w R er e w') (hf : R.fr = f) (hs : R.sl = s) : OutC2 w R f s er e w' := by
  obtain ⟨⟨tA, tN, tC, eA, eN, eC, bA, bN, bC, sA, sN, sC⟩, h1, h2, h3⟩ := h
  subst hf; subst hs
  exact ⟨tA, tN, tC, eA, eN, eC, bA, bN, bC, sA, sN, sC, h1, h2, h3⟩
theorem Crit_c2 {a : Option Addr} {n c : Nat} {L : List Ta} {F S task f s er : Int} {R : Rn} {w : World} (hL : RdL w a n L) (hN : NilOk a n c) (hn : n ≤ 100) (h : critR L F S task = (R, er)) (hf : R.fr = f) (hs : R.sl = s) :
    Calls Try.prog 32 #[.slice a n c, .agg #[.int .i64 F, .int .i64 S], .int .i64 task] w (OutC2 w R f s er) := by
  have := Critical_any a n c L F S task w hL hN hn
  rw [h] at this
  exact this.mono fun e w' q => OutCr.c2 q hf hs
theorem rCrit_c2 {a : Option Addr} {n c : Nat} {L : List Ta} {F S task f s er : Int} {R : Rn} {w : World} (hL : RdL w a n L) (hN : NilOk a n c) (hn : n ≤ 100) (h : critR L F S task = (R, er)) (hf : R.fr = f) (hs : R.sl = s) :
    Calls Try.prog 33 #[.slice a n c, .agg #[.int .i64 F, .int .i64 S], .int .i64 task] w (OutC2 w R f s er) := by
  have := rCritical_any a n c L F S task w hL hN hn
  rw [h] at this
  exact this.mono fun e w' q => OutCr.c2 q hf hs
set_option maxRecDepth 100000 in
set_option maxHeartbeats 8000000 in
theorem critical_walk {w : World} (a : Option Addr) (n c : Nat) (L : List Ta) (hL : RdL w a n L) (hT : ∀ t ∈ L, t.pcs.length ≤ 281474976710656) (hN : NilOk a n c) (F S : Int) (task : Int) (ht : -9223372036854775808 ≤ task ∧ task ≤ 9223372036854775807) :
    Calls Try.prog 10 #[.slice a n c, .agg #[.int .i64 F, .int .i64 S], .int .i64 task] w fun e w' => e = .returned (.bool true) ∧ Below w.heap.size w w' := by
  have hsm := hL.small
  by_cases h100 : n ≤ 100
  · have d100 : decide ((100 : Int) < (n : Int)) = false := by simp; omega
    have HL := Lib.hid hL; have HN := Lib.hid hN
    have hln := hL.length
    by_cases hc : critC L F S task = true
    · have hcr : critR L F S task = (tcR L F S (critL L F task), 0) := if_pos hc
      obtain ⟨R, hR⟩ : ∃ R, tcR L F S (critL L F task) = R := ⟨_, rfl⟩
      rw [hR] at hcr
      have HC1 := Lib.hid (fun (w1 : World) (hb : Below w.heap.size w w1) => Crit_c2 (w := w1) (hL.ext hb) hN h100 hcr (show R.fr = F by rw [← hR]; rfl) (show R.sl = S by rw [← hR]; rfl))
      have HC2 := Lib.hid (fun (w1 : World) (hb : Below w.heap.size w w1) => rCrit_c2 (w := w1) (hL.ext hb) hN h100 hcr (show R.fr = F by rw [← hR]; rfl) (show R.sl = S by rw [← hR]; rfl))
      have HRR := Lib.hid hR
      clear hL hT hN ht hcr hR
      go_enter Try.func10, Try.ntmps10
      go_upto_region 4 with (go_at_call 32; (with_reducible refine (HC1.out _ (by (repeat' (first | (with_reducible exact Below.refl _ _) | (with_reducible assumption) | (with_reducible refine Below.alloc ?_ ?_ _) | (with_reducible refine Below.drew ?_) | (with_reducible refine Below.draws ?_ _) | (with_reducible refine Below.setCell ?_ ?_ _) | (refine Below.then ?_ (by with_reducible assumption)) | go_size)))).mono ?_); rintro e w1 ⟨tA, tN, tC, eA, eN, eC, bA, bN, bC, sA, sN, sC, rfl, hR1, hb1⟩; have HR1 := Lib.hid hR1; have HS1 : Hid (Sup2 w1 w.heap.size F S) := Lib.hid (Sup2.ext ⟨by simp, by simp, by simp⟩ hb1); have B1 : Hid (Below w.heap.size w w1) := Lib.hid (Below.trans (by (repeat' (first | (with_reducible exact Below.refl _ _) | (with_reducible assumption) | (with_reducible refine Below.alloc ?_ ?_ _) | (with_reducible refine Below.drew ?_) | (with_reducible refine Below.draws ?_ _) | (with_reducible refine Below.setCell ?_ ?_ _) | (refine Below.then ?_ (by with_reducible assumption)) | go_size))) (hb1.mono (by simp))); obtain ⟨s0, s1, sz⟩ := HS1.out; clear hb1 hR1)
      (obtain ⟨w1b, hw1b⟩ : ∃ x, x = w1.alloc (.cells #[.slice tA tN tC, .int .i64 F, .int .i64 S, .slice eA eN eC, .slice bA bN bC, .slice sA sN sC] 29) := ⟨_, rfl⟩); (have HX1 : Hid (Blk w1b w1.heap.size #[.slice tA tN tC, .int .i64 F, .int .i64 S, .slice eA eN eC, .slice bA bN bC, .slice sA sN sC]) := Lib.hid (by rw [hw1b]; exact Blk.at _ _ _ _ rfl)); (have hb1b : Below w1.heap.size w1 w1b := by rw [hw1b]; (repeat' (first | (with_reducible exact Below.refl _ _) | (with_reducible assumption) | (with_reducible refine Below.alloc ?_ ?_ _) | (with_reducible refine Below.drew ?_) | (with_reducible refine Below.draws ?_ _) | (with_reducible refine Below.setCell ?_ ?_ _) | (refine Below.then ?_ (by with_reducible assumption)) | go_size))); (have B1b := Lib.hid (Below.then B1.out hb1b)); (have HR1b := Lib.hid (HR1.out.ext hb1b)); (have HS1b := Lib.hid (HS1.out.ext hb1b)); rw [← hw1b]; clear hw1b hb1b s0 s1 sz; (obtain ⟨s0, s1, sz⟩ := HS1b.out)
      go_upto_region 5 with (go_at_call 33; (with_reducible refine (HC2.out _ B1b.out).mono ?_); rintro e w2 ⟨uA, uN, uC, fA, fN, fC, dA, dN, dC, gA, gN, gC, rfl, hR2, hb2⟩; have HR2 := Lib.hid hR2; have HX2 := Lib.hid (HX1.out.extC hb2); have HR12 := Lib.hid (HR1b.out.ext hb2); have B2 := Lib.hid (Below.then B1b.out hb2); clear hb2 hR2 s0 s1 sz)
      obtain ⟨w2b, hw2b⟩ : ∃ x, x = w2.alloc (.cells #[.slice uA uN uC, .int .i64 F, .int .i64 S, .slice fA fN fC, .slice dA dN dC, .slice gA gN gC] 37) := ⟨_, rfl⟩
      have HX3 : Hid (Blk w2b w2.heap.size #[.slice uA uN uC, .int .i64 F, .int .i64 S, .slice fA fN fC, .slice dA dN dC, .slice gA gN gC]) := Lib.hid (by rw [hw2b]; exact Blk.at _ _ _ _ rfl)
      have hb2b : Below w2.heap.size w2 w2b := by rw [hw2b]; (repeat' (first | (with_reducible exact Below.refl _ _) | (with_reducible assumption) | (with_reducible refine Below.alloc ?_ ?_ _) | (with_reducible refine Below.drew ?_) | (with_reducible refine Below.draws ?_ _) | (with_reducible refine Below.setCell ?_ ?_ _) | (refine Below.then ?_ (by with_reducible assumption)) | go_size))
      have HY1 := Lib.hid (HX2.out.extC hb2b)
      have HA := Lib.hid (HR12.out.ext hb2b); have HBR := Lib.hid (HR2.out.ext hb2b)
      have B2b := Lib.hid (Below.then B2.out hb2b)
      rw [← hw2b]
      obtain ⟨q1, hq1⟩ : ∃ q, w1.heap.size = q := ⟨_, rfl⟩
      obtain ⟨q2, hq2⟩ : ∃ q, w2.heap.size = q := ⟨_, rfl⟩
      rw [hq1] at HY1 ⊢; rw [hq2] at HX3 ⊢
      have hRL : R.L = L := by rw [← HRR.out]; rfl
      have hRe : R.ev.length = L.length := by rw [← HRR.out]; show (critL L F task).length = _; simp [critL]
      have hRb : R.bu.length = L.length := by rw [← HRR.out]; show (List.replicate L.length (0 : Int)).length = _; simp
      have hRs : R.sg.length = 0 := by rw [← HRR.out]; rfl
      have k1 := HA.out.t.length; have k2 := HA.out.rd.e.len; have k3 := HA.out.b.length; have k4 := HA.out.s.length
      have k5 := HBR.out.t.length; have k6 := HBR.out.rd.e.len; have k7 := HBR.out.b.length; have k8 := HBR.out.s.length
      rw [hRL] at k1 k5
      simp only [] at k1 k2 k3 k4 k5 k6 k7 k8
      obtain rfl : tN = n := by omega
      obtain rfl : eN = tN := by omega
      obtain rfl : bN = eN := by omega
      obtain rfl : sN = 0 := by omega
      obtain rfl : uN = bN := by omega
      obtain rfl : fN = uN := by omega
      obtain rfl : dN = fN := by omega
      have HRL := Lib.hid hRL
      have HALW : Hid (alwR R = (true, 0)) := Lib.hid (by
        rw [← HRR.out]
        unfold critC at hc
        rw [Bool.and_eq_true, Bool.and_eq_true, inB_iff] at hc
        obtain ⟨h1, h2, h3, h4⟩ := hc
        obtain ⟨tk, rfl⟩ := Int.eq_ofNat_of_zero_le h3
        exact tc_alw h1 h2 (by simp [critL]) (by unfold critL; rw [Int.toNat_natCast]; exact crit_ok h1 h2 (by omega)))
      have HSu := eqSupC
      have m0 := HY1.out.c 0; have m1 := HY1.out.c 1; have m2 := HY1.out.c 2; have m3 := HY1.out.c 3; have m4 := HY1.out.c 4; have m5 := HY1.out.c 5
      have o0 := HX3.out.c 0; have o1 := HX3.out.c 1; have o2 := HX3.out.c 2; have o3 := HX3.out.c 3; have o4 := HX3.out.c 4; have o5 := HX3.out.c 5
      simp at m0 m1 m2 m3 m4 m5 o0 o1 o2 o3 o4 o5
      have mz := HY1.out.l; have oz := HX3.out.l
      clear hw2b hb2b hRL hRe hRb hRs k1 k2 k3 k4 k5 k6 k7 k8 hq1 hq2
      go_upto_region 11 with (go_at_call 27; (with_reducible refine (cints_eq _ _ _ _ _ _ _ _ HA.out.b HBR.out.b).mono ?_); rintro e w3 ⟨rfl, hb3⟩; have HZ1 := Lib.hid (HY1.out.extC hb3); have HZ2 := Lib.hid (HX3.out.extC hb3); have HA3 := Lib.hid (HA.out.ext hb3); have HB3 := Lib.hid (HBR.out.ext hb3); have B3 := Lib.hid (Below.then B2b.out hb3); have n5 := keep_c hb3 m5; have nz := Nat.lt_of_lt_of_le mz hb3.size; clear hb3)
      have HEA := eqTwoC; have HEP := eqPcC; have HEPt := eqPatC
      clear m0 m1 m2 m3 m4 m5 o0 o1 o2 o3 o4 o5 mz oz HSu n5 nz
      go_wp2_with fail
      go_loopw [11] (fun v wr => ∃ i : Nat, i ≤ dN ∧ v = .int .i64 i ∧ Below w3.heap.size w3 wr) (fun v _ => dN - (intOf v).toNat)
      case atStart => exact ⟨0, Nat.zero_le _, rfl, Below.refl _ _⟩
      case round =>
        obtain ⟨i, hi, rfl, hb⟩ := hrel
        obtain ⟨wo, hwo⟩ : ∃ wo : World, wo = wr := ⟨_, rfl⟩
        subst hwo
        have HW := Lib.hid hb
        have HZ1' := HZ1.out.extC hb
        have m0 := HZ1'.c 0; have m3 := HZ1'.c 3
        have o3 := (HZ2.out.extC hb).c 3
        have mz := HZ1'.l; have oz := (HZ2.out.extC hb).l
        by_cases hlt : i < dN
        · simp at m0 m3 o3
          obtain ⟨e1b, e1o, x1, en1, x1c, rfl, e1z, e1c, e1r⟩ := (HA3.out.ext hb).rd.e.at_ i hlt
          obtain ⟨e2b, e2o, x2, en2, x2c, rfl, e2z, e2c, e2r⟩ := (HB3.out.ext hb).rd.e.at_ i hlt
          obtain rfl : en1 = en2 := by rw [← e1r.length, ← e2r.length]
          obtain ⟨t, tb, to_, pa, pn, pc, rfl, tz, t0, t1, t2, t3, t4, t5, tp, -, tg, -⟩ := (HA3.out.ext hb).t.at_ i hlt
          obtain ⟨t', lb, lo, la, ln, lc, rfl, lz, l0, l1, l2, l3, l4, l5, lp, -, lg, -⟩ := (HL.out.ext (Below.then B3.out hb)).at_ i hlt
          obtain rfl : t = t' := by
            rw [HRL.out, lg] at tg; exact (Option.some.inj tg).symm
          obtain rfl : pn = ln := by rw [← tp.length, ← lp.length]
          have HE1 := Lib.hid e1r; have HE2 := Lib.hid e2r; have HP1 := Lib.hid tp; have HP2 := Lib.hid lp
          have hes := e1r.small; have hps := tp.small
          obtain ⟨pri, dl, f, ga, jt, ps⟩ := t
          simp only [] at t0 t1 t2 t3 t4 l0 l1 l2 l3 l4 e1c e2c t5 HP1 HP2
          obtain ⟨evs, hevs⟩ : ∃ l, evAt R.ev i = l := ⟨_, rfl⟩
          have HE1' : Hid (Rd wo x1 en1 2 (evs.map enc2)) := Lib.hid (by rw [← hevs]; exact HE1.out)
          have HE2' : Hid (Rd wo x2 en1 2 (evs.map enc2)) := Lib.hid (by rw [← hevs]; exact HE2.out)
          clear hb e1r e2r tp lp tg lg HZ1' hevs HE1 HE2
          go_upto_region 18 with (refine wp_region_later_lit (by kernel_rfl) (by kernel_rfl) ?_; (repeat (go_big_quiet_step (fail))); refine wpQuiet_nil ?_; intro w5 hb5)
          have HW5 := Lib.hid hb5
          clear hb5
          go_wp2_with fail
          go_loopw [14] (fun v wr => ∃ k : Nat, k ≤ en1 ∧ v = .int .i64 k ∧ Below wo.heap.size wo wr) (fun v _ => en1 - (intOf v).toNat)
          case atStart => exact ⟨0, Nat.zero_le _, rfl, HW5.out⟩
          case round =>
            clear HW5
            obtain ⟨k, hk, rfl, hb⟩ := hrel
            have HW2 := Lib.hid hb
            by_cases hkl : k < en1
            · obtain ⟨a1, a2, g1, h1, rfl, z1, j1, j2, jg, -⟩ := (HE1'.out.ext hb).pc_at' k hkl
              obtain ⟨b1, b2, g2, h2, rfl, z2, r1, r2, rg, -⟩ := (HE2'.out.ext hb).pc_at' k hkl
              have he : (a1, a2) = (b1, b2) := Option.some.inj (jg.symm.trans rg)
              obtain rfl : a1 = b1 := congrArg Prod.fst he
              obtain rfl : a2 = b2 := congrArg Prod.snd he
              clear hb jg rg he m0 m3 o3 t0 t1 t2 t3 t4 t5 l0 l1 l2 l3 l4 l5 e1c e2c
              go_wp2_with (refine wp_region_later_lit (by kernel_rfl) (by kernel_rfl) ?_; (repeat (go_big_quiet_step (fail))); refine wpQuiet_nil ?_; intro w6 hb6)
              exact ⟨⟨k + 1, hkl, by go_num, Below.then HW2.out hb6⟩, by simp [intOf]; omega⟩
            · have hke : k = en1 := by omega
              clear hb hke
              go_wp2_with fail
              obtain ⟨wp, hwp⟩ : ∃ wp : World, wp = wr := ⟨_, rfl⟩
              subst hwp
              go_loopw [15] (fun v wr => ∃ k : Nat, k ≤ pn ∧ v = .int .i64 k ∧ Below wo.heap.size wo wr) (fun v _ => pn - (intOf v).toNat)
              case atStart => exact ⟨0, Nat.zero_le _, rfl, HW2.out⟩
              case round =>
                obtain ⟨k, hk, rfl, hb⟩ := hrel
                have HW3 := Lib.hid hb
                have v5 := (hb.cell (p := ⟨lb, lo + i * 6 + 5, none⟩) lz).trans l5
                have lz' := Nat.lt_of_lt_of_le lz hb.size
                by_cases hkl : k < pn
                · have u5 := (hb.cell (p := ⟨tb, to_ + i * 6 + 5, none⟩) tz).trans t5
                  have tz' := Nat.lt_of_lt_of_le tz hb.size
                  have u0 := (hb.cell (p := ⟨q1, 0, none⟩) mz).trans m0
                  have mz' := Nat.lt_of_lt_of_le mz hb.size
                  obtain ⟨a1, a2, g1, h1, rfl, z1, j1, j2, jg, -⟩ := (HP1.out.ext hb).pc_at' k hkl
                  obtain ⟨b1, b2, g2, h2, rfl, z2, r1, r2, rg, -⟩ := (HP2.out.ext hb).pc_at' k hkl
                  have he : (a1, a2) = (b1, b2) := Option.some.inj (jg.symm.trans rg)
                  obtain rfl : a1 = b1 := congrArg Prod.fst he
                  obtain rfl : a2 = b2 := congrArg Prod.snd he
                  clear hb jg rg he m0 m3 o3 t0 t1 t2 t3 t4 t5 l0 l1 l2 l3 l4 l5 e1c e2c
                  go_wp2_with (refine wp_region_later_lit (by kernel_rfl) (by kernel_rfl) ?_; (repeat (go_big_quiet_step (fail))); refine wpQuiet_nil ?_; intro w6 hb6)
                  exact ⟨⟨k + 1, hkl, by go_num, Below.then HW3.out hb6⟩, by simp [intOf]; omega⟩
                · clear hb m0 m3 o3 t0 t1 t2 t3 t4 t5 l0 l1 l2 l3 l4 l5 e1c e2c
                  go_wp2_with fail
                  exact ⟨⟨i + 1, hlt, by go_num, Below.then HW.out HW3.out⟩, by simp [intOf]; omega⟩
        · have m1 := HZ1'.c 1; have m2 := HZ1'.c 2; have m4 := HZ1'.c 4; have m5 := HZ1'.c 5
          simp at m0 m1 m2 m3 m4 m5 o3
          have HAL := Lib.hid (Allowed_any ⟨tA, dN, tC, eA, dN, eC, bA, dN, bC, sA, 0, sC⟩ R wo (HA3.out.ext hb))
          have hfr : R.fr = F := by rw [← HRR.out]; rfl
          have hsl : R.sl = S := by rw [← HRR.out]; rfl
          rw [HALW.out, hfr, hsl] at HAL
          have HA9 : Hid (Calls Try.prog 20 #[.agg #[.slice tA dN tC, .int .i64 F, .int .i64 S, .slice eA dN eC, .slice bA dN bC, .slice sA 0 sC]] wo fun e w' => e = .returned (.tuple #[.bool true, .int .i64 0]) ∧ Below wo.heap.size wo w') := HAL
          clear hb HZ1' HAL hfr hsl
          go_wp2_with (first | (go_at_call 20; (with_reducible refine HA9.out.mono ?_); rintro e w9 ⟨rfl, hb9⟩; have B9 := Lib.hid hb9; clear hb9) | (go_at_call 14; (with_reducible refine (sane_any _).mono ?_); rintro e w20 ⟨rfl, hb20⟩))
          go_ret
          exact ⟨rfl, Below.then B3.out (Below.then HW.out (Below.then B9.out hb20))⟩
    · have hcr : critR L F S task = (r0N, 1) := if_neg hc
      have HC1 := Lib.hid (fun (w1 : World) (hb : Below w.heap.size w w1) => Crit_c2 (w := w1) (hL.ext hb) hN h100 hcr (show r0N.fr = 0 from rfl) (show r0N.sl = 0 from rfl))
      have HC2 := Lib.hid (fun (w1 : World) (hb : Below w.heap.size w w1) => rCrit_c2 (w := w1) (hL.ext hb) hN h100 hcr (show r0N.fr = 0 from rfl) (show r0N.sl = 0 from rfl))
      clear hL hT hN ht hc hcr
      go_enter Try.func10, Try.ntmps10
      go_upto_region 4 with (go_at_call 32; (with_reducible refine (HC1.out _ (by (repeat' (first | (with_reducible exact Below.refl _ _) | (with_reducible assumption) | (with_reducible refine Below.alloc ?_ ?_ _) | (with_reducible refine Below.drew ?_) | (with_reducible refine Below.draws ?_ _) | (with_reducible refine Below.setCell ?_ ?_ _) | (refine Below.then ?_ (by with_reducible assumption)) | go_size)))).mono ?_); rintro e w1 ⟨tA, tN, tC, eA, eN, eC, bA, bN, bC, sA, sN, sC, rfl, hR1, hb1⟩; have HR1 := Lib.hid hR1; have HS1 : Hid (Sup2 w1 w.heap.size F S) := Lib.hid (Sup2.ext ⟨by simp, by simp, by simp⟩ hb1); have B1 : Hid (Below w.heap.size w w1) := Lib.hid (Below.trans (by (repeat' (first | (with_reducible exact Below.refl _ _) | (with_reducible assumption) | (with_reducible refine Below.alloc ?_ ?_ _) | (with_reducible refine Below.drew ?_) | (with_reducible refine Below.draws ?_ _) | (with_reducible refine Below.setCell ?_ ?_ _) | (refine Below.then ?_ (by with_reducible assumption)) | go_size))) (hb1.mono (by simp))); obtain ⟨s0, s1, sz⟩ := HS1.out; clear hb1 hR1)
      (obtain ⟨w1b, hw1b⟩ : ∃ x, x = w1.alloc (.cells #[.slice tA tN tC, .int .i64 0, .int .i64 0, .slice eA eN eC, .slice bA bN bC, .slice sA sN sC] 29) := ⟨_, rfl⟩); (have HX1 : Hid (Blk w1b w1.heap.size #[.slice tA tN tC, .int .i64 0, .int .i64 0, .slice eA eN eC, .slice bA bN bC, .slice sA sN sC]) := Lib.hid (by rw [hw1b]; exact Blk.at _ _ _ _ rfl)); (have hb1b : Below w1.heap.size w1 w1b := by rw [hw1b]; (repeat' (first | (with_reducible exact Below.refl _ _) | (with_reducible assumption) | (with_reducible refine Below.alloc ?_ ?_ _) | (with_reducible refine Below.drew ?_) | (with_reducible refine Below.draws ?_ _) | (with_reducible refine Below.setCell ?_ ?_ _) | (refine Below.then ?_ (by with_reducible assumption)) | go_size))); (have B1b := Lib.hid (Below.then B1.out hb1b)); (have HR1b := Lib.hid (HR1.out.ext hb1b)); (have HS1b := Lib.hid (HS1.out.ext hb1b)); rw [← hw1b]; clear hw1b hb1b s0 s1 sz; (obtain ⟨s0, s1, sz⟩ := HS1b.out)
      go_wp2_with (first | (go_at_call 33; (with_reducible refine (HC2.out _ B1b.out).mono ?_); rintro e w2 ⟨uA, uN, uC, fA, fN, fC, dA, dN, dC, gA, gN, gC, rfl, hR2, hb2⟩; have HR2 := Lib.hid hR2; have HX2 := Lib.hid (HX1.out.extC hb2); have HR12 := Lib.hid (HR1b.out.ext hb2); have B2 := Lib.hid (Below.then B1b.out hb2); clear hb2 hR2 s0 s1 sz) | (go_at_call 14; (with_reducible refine (sane_any _).mono ?_); rintro e w20 ⟨rfl, hb20⟩))
      go_ret
      exact ⟨rfl, Below.then (Below.then B2.out (by (repeat' (first | (with_reducible exact Below.refl _ _) | (with_reducible assumption) | (with_reducible refine Below.alloc ?_ ?_ _) | (with_reducible refine Below.drew ?_) | (with_reducible refine Below.draws ?_ _) | (with_reducible refine Below.setCell ?_ ?_ _) | (refine Below.then ?_ (by with_reducible assumption)) | go_size)))) hb20⟩
  · have d100 : decide ((100 : Int) < (n : Int)) = true := by simp; omega
    clear hL hT hN ht
    go_enter Try.func10, Try.ntmps10
    go_wp2_with (go_at_call 14; (with_reducible refine (sane_any _).mono ?_); rintro e w20 ⟨rfl, hb20⟩)
    go_ret
    exact ⟨rfl, Below.then (by (repeat' (first | (with_reducible exact Below.refl _ _) | (with_reducible assumption) | (with_reducible refine Below.alloc ?_ ?_ _) | (with_reducible refine Below.drew ?_) | (with_reducible refine Below.draws ?_ _) | (with_reducible refine Below.setCell ?_ ?_ _) | (refine Below.then ?_ (by with_reducible assumption)) | go_size))) hb20⟩
end Go.Proofs.Ytlhnhmimhpcoaaa
