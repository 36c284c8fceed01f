/- The walk of ResponseSlacks: it returns true. The conditions: the tasks read as named; their lists are no longer than memory bears. -/
import Derived.Test.YtabbmnnohnfbeaaRsSlkS
import Derived.Test.YtabbmnnohnfbeaaRsSane
import Derived.BigRegion
namespace Go.Proofs.Ytabbmnnohnfbeaa
open Go.RowKit
set_option linter.unusedSimpArgs false
set_option linter.unusedVariables false
theorem Slack_is {a : Option Addr} {n c : Nat} {F S t x y : Int} {L : List Ta} {w : World} (hL : RdL w a n L) (h : slkR L F S t = (x, y)) :
    Calls Try.prog 45 #[.slice a n c, .agg #[.int .i64 F, .int .i64 S], .int .i64 t] w fun e w' => e = rII x y ∧ Below w.heap.size w w' := by
  have := Slack_any a n c F S t L w hL
  rw [h] at this; exact this
theorem rSlack_is {a : Option Addr} {n c : Nat} {F S t x y : Int} {L : List Ta} {w : World} (hL : RdL w a n L) (hN : NilOk a n c) (h : slkR L F S t = (x, y)) :
    Calls Try.prog 46 #[.slice a n c, .agg #[.int .i64 F, .int .i64 S], .int .i64 t] w fun e w' => e = rII x y ∧ Below w.heap.size w w' := by
  have := rSlack_any a n c F S t L w hL hN
  rw [h] at this; exact this
theorem longL_add {L : List Ta} {t : Nat} (ht : t < L.length) (m k : Int) : longL (longL L t m) t k = longL L t (m + k) := by
  have e : taAt (longL L t m) t = longT (taAt L t) m := by rw [longL_at L ht]; simp
  have e2 : longL (longL L t m) t k = (longL L t m).set t (longT (longT (taAt L t) m) k) := by rw [← e]; rfl
  rw [e2]
  unfold longL
  rw [List.set_set]
  congr 1
  unfold longT
  simp only []
  congr 1
  cases (taAt L t).pcs with
  | nil => rfl
  | cons p ps => simp only [longP]; congr 2; omega
theorem long_valid {L : List Ta} (hv : validL L = true) {t : Nat} (ht : t < L.length) {m : Int} (h0 : 0 ≤ m) (h1 : firstN L t + m ≤ 200) : validL (longL L t m) = true := by
  have hV := valid_of hv
  have hm : taAt L t ∈ L := taAt_mem' (by omega) (by omega)
  have hpc : ∀ u ∈ longL L t m, ∀ p ∈ u.pcs, (1 ≤ p.1 ∧ p.1 ≤ 200) ∧ (-1 ≤ p.2 ∧ p.2 ≤ 5) := fun u hu p hp => by
    rcases longL_mem hu with h | rfl
    · exact hV.r.piece u h p hp
    · simp only [longT] at hp
      cases hps : (taAt L t).pcs with
      | nil => rw [hps] at hp; simp [longP] at hp
      | cons q qs =>
        rw [hps] at hp
        have hf : firstN L t = q.1 := by unfold firstN ticksAt; simp only [Int.toNat_zero]; rw [hps]; rfl
        rw [hf] at h1
        simp only [longP, List.mem_cons] at hp
        have hq := hV.r.piece _ hm q (by rw [hps]; simp)
        rcases hp with rfl | hp
        · simp only []; omega
        · exact hV.r.piece _ hm p (by rw [hps]; simp [hp])
  have hv4 := hV
  unfold validL
  rw [Bool.and_eq_true, List.all_eq_true]
  constructor
  · unfold rightB
    rw [Bool.and_eq_true, decide_eq_true_eq, List.all_eq_true]
    refine ⟨by rw [longL_len]; exact hV.r.len, fun u hu => ?_⟩
    have h3 : (0 ≤ u.pri ∧ u.pri ≤ 99) ∧ 1 ≤ u.pcs.length ∧ u.pcs.length ≤ 8 := by
      rcases longL_mem hu with h | rfl
      · exact ⟨hV.r.pri u h, hV.r.pcs u h⟩
      · exact ⟨hV.r.pri (taAt L t) hm, by simp only [longT, longP_len]; exact hV.r.pcs (taAt L t) hm⟩
    unfold taskB
    rw [Bool.and_eq_true, Bool.and_eq_true, inB_iff, inB_iff, List.all_eq_true]
    refine ⟨⟨h3.1, by omega⟩, fun q hq => ?_⟩
    have := hpc u hu q hq
    unfold pieceB
    simp only [Bool.and_eq_true, inB_iff]
    omega
  · intro u hu
    rcases longL_mem hu with h | rfl
    · exact patB_iff.2 ⟨hV.vp u h, hV.dl u h⟩
    · exact patB_iff.2 ⟨hV.vp (taAt L t) hm, hV.dl (taAt L t) hm⟩
structure SlkOk (L : List Ta) (F S : Int) (q : Nat) (x : Int) : Prop where
  lt : q < L.length
  v : ValidT L
  x0 : 0 ≤ x ∧ x ≤ 200
  f : 1 ≤ firstN L q ∧ firstN L q ≤ 200
  acc : firstN L q + x ≤ 200 → accE (longL L q x) F S = 0
  late : firstN L q + x + 1 ≤ 200 → accE (longL L q (x + 1)) F S = 15
theorem slkR_ok {L : List Ta} {F S t x : Int} (h : slkR L F S t = (x, 0)) : ∃ q : Nat, t = q ∧ SlkOk L F S q x := by
  unfold slkR at h
  split at h
  · rename_i hc
    rw [Bool.and_eq_true] at hc
    obtain ⟨h1, h2⟩ := hc
    obtain ⟨h3, h4⟩ := inB_iff.1 h2
    obtain ⟨q, rfl⟩ := Int.eq_ofNat_of_zero_le h3
    split at h
    · rename_i ha
      simp at h
      have hvs : validL L = true ∧ supB F S = true := by unfold okB at h1; simpa using h1
      have hq : q < L.length := by omega
      have hI := slkN_is (L := L) hq ha
      rw [h] at hI
      have hf := first_bd (valid_of hvs.1).r hq
      have h5 := hI.lo; have h6 := hI.hi
      refine ⟨q, rfl, ⟨hq, valid_of hvs.1, ⟨hI.lo, hI.hi⟩, hf, fun hx => ?_, fun hx => ?_⟩⟩
      · unfold accE okB
        rw [long_valid hvs.1 hq h5 hx, hvs.2, hI.is]; rfl
      · unfold accE okB
        rcases hI.top with h7 | h7
        · omega
        · rw [long_valid hvs.1 hq (by omega) (by omega), hvs.2, h7]; rfl
    · simp at h
  · simp at h
set_option maxRecDepth 100000 in
set_option maxHeartbeats 8000000 in
theorem slacks_walk {w : World} (a : Option Addr) (n c : Nat) (L : List Ta) (hL : RdL w a n L) (hT : ∀ t ∈ L, t.pcs.length ≤ 281474976710656) (hN : NilOk a n c) (F S : Int) (t : Int) (ht : -9223372036854775808 ≤ t ∧ t ≤ 9223372036854775807) :
    Calls Try.prog 11 #[.slice a n c, .agg #[.int .i64 F, .int .i64 S], .int .i64 t] w fun e w' => e = .returned (.bool true) ∧ Below w.heap.size w w' := by
  have HM := Lib.hid (many_any a n c L _ (hL.ext (show Below w.heap.size w (w.alloc (.cells #[.int .i64 F, .int .i64 S] 24)) by (repeat' (first | (with_reducible exact Below.refl _ _) | (with_reducible assumption) | (with_reducible refine Below.alloc ?_ ?_ _) | (with_reducible refine Below.drew ?_) | (with_reducible refine Below.draws ?_ _) | (with_reducible refine Below.setCell ?_ ?_ _) | (refine Below.then ?_ (by with_reducible assumption)) | go_size)))) hT)
  have HR := Lib.hid hL; have HNN := Lib.hid hN
  have hll := hL.length
  obtain ⟨m1, hm1⟩ : ∃ x, manyL n L = x := ⟨_, rfl⟩
  rw [hm1] at HM
  obtain ⟨x, y, hsl⟩ : ∃ x y, slkR L F S t = (x, y) := ⟨_, _, rfl⟩
  have HSL := Lib.hid hsl
  cases m1
  · by_cases hy : y = 0
    · subst hy
      obtain ⟨q, rfl, hO⟩ := slkR_ok hsl
      have HO := Lib.hid hO
      have hqn : q < n := by have := hO.lt; omega
      have hn5 : n ≤ 5 := by rw [← hll]; exact hO.v.r.len
      have HP : Hid (∀ t ∈ L, t.pcs.length ≤ 1000) := Lib.hid (fun t ht => by have := (hO.v.r.pcs t ht).2; omega)
      have HLL := Lib.hid hll
      clear hL hT hN hm1 hsl hO hll
      go_enter Try.func11, Try.ntmps11
      go_wp2_with (first
          | (go_at_call 15; refine (HM.out).mono ?_; rintro e w1 ⟨rfl, rfl⟩)
          | (go_at_call 45; (with_reducible refine (Slack_is (HR.out.ext (by (repeat' (first | (with_reducible exact Below.refl _ _) | (with_reducible assumption) | (with_reducible refine Below.alloc ?_ ?_ _) | (with_reducible refine Below.drew ?_) | (with_reducible refine Below.draws ?_ _) | (with_reducible refine Below.setCell ?_ ?_ _) | (refine Below.then ?_ (by with_reducible assumption)) | go_size)))) HSL.out).mono ?_); rintro e w1 ⟨rfl, hb1⟩; obtain ⟨hc1, hf1, hz1, hr1⟩ := bfacts hb1; (try simp only [World.size_alloc, World.size_setCell, World.size_drew, World.size_drewN] at hz1 hr1); (try have hs1_w_0 : w.heap.size < w1.heap.size := by omega))
          | (go_at_call 46; (with_reducible refine (rSlack_is (HR.out.ext (by (repeat' (first | (with_reducible exact Below.refl _ _) | (with_reducible assumption) | (with_reducible refine Below.alloc ?_ ?_ _) | (with_reducible refine Below.drew ?_) | (with_reducible refine Below.draws ?_ _) | (with_reducible refine Below.setCell ?_ ?_ _) | (refine Below.then ?_ (by with_reducible assumption)) | go_size)))) HNN.out HSL.out).mono ?_); rintro e w2 ⟨rfl, hb2⟩; obtain ⟨hc2, hf2, hz2, hr2⟩ := bfacts hb2; (try simp only [World.size_alloc, World.size_setCell, World.size_drew, World.size_drewN] at hz2 hr2); (try have hs2_w_0 : w.heap.size < w2.heap.size := by omega))
          | (go_at_call 17; (with_reducible refine (sane_any _).mono ?_); rintro e w8 ⟨rfl, hb8⟩)
          | (go_at_call 29; (with_reducible refine (copied_M _ _ _ L (by omega) HP.out _ (HR.out.ext (by (repeat' (first | (with_reducible exact Below.refl _ _) | (with_reducible assumption) | (with_reducible refine Below.alloc ?_ ?_ _) | (with_reducible refine Below.drew ?_) | (with_reducible refine Below.draws ?_ _) | (with_reducible refine Below.setCell ?_ ?_ _) | (refine Below.then ?_ (by with_reducible assumption)) | go_size)))) HNN.out).mono ?_); rintro e w3 ⟨a3, c3, g3, rfl, hm3, hg3, hb3⟩; obtain ⟨hc3, hf3, hz3, hr3⟩ := bfacts hb3; (try simp only [World.size_alloc, World.size_setCell, World.size_drew, World.size_drewN] at hz3 hr3); (try have hs3_w_0 : w.heap.size < w3.heap.size := by omega); have HM3 := Lib.hid hm3; have HG3 := Lib.hid hg3; clear hm3 hg3))
      have hBW : Below w.heap.size w w3 := by (repeat' (first | (with_reducible exact Below.refl _ _) | (with_reducible assumption) | (with_reducible refine Below.alloc ?_ ?_ _) | (with_reducible refine Below.drew ?_) | (with_reducible refine Below.draws ?_ _) | (with_reducible refine Below.setCell ?_ ?_ _) | (refine Below.then ?_ (by with_reducible assumption)) | go_size))
      have HBW := Lib.hid hBW
      obtain ⟨qb, rfl, hq1, hq2⟩ := HM3.out.addr (by omega)
      have hgl : g3.length = n := HM3.out.rd.length
      obtain ⟨t, ht⟩ : ∃ t, g3[q]? = some t := ⟨_, List.getElem?_eq_getElem (by omega)⟩
      obtain ⟨u, b, off, pa, pn, pc, rfl, hb, hgu, hplu, HKc⟩ := HR.out.cells q hqn
      obtain ⟨d0, d1, d2, d3, d4, d5, hbw, hpp⟩ := HKc.out w3 hBW
      have htu : t.ta = u := by
        have : (g3.map TaV.ta)[q]? = some t.ta := by rw [List.getElem?_map, ht]; rfl
        rw [HG3.out, hgu] at this
        simpa using this.symm
      have hpl := HO.out.v.r.pcs _ (List.mem_of_getElem? hgu)
      have hpcs : t.pcs = u.pcs := by rw [← htu]; rfl
      have hpn : t.pcs.length = t.n := by have := (HM3.out.rd.ok _ (List.mem_of_getElem? ht)).1.length; simpa using this
      rw [← hpcs] at hpl hplu hpp
      obtain ⟨pb, hpa, hp1, hp2, _⟩ := (HM3.out.own.ok _ (List.mem_of_getElem? ht)).addr (by omega)
      obtain ⟨pt, py, b3, o3, rfl, hb3', z0, z1, hgp, _⟩ := hpp.pc_at 0 (by omega)
      have hb3w : b3 < w.heap.size := by
        obtain ⟨_, _, _, _, _, _, _, hpp0⟩ := HKc.out w (Below.refl _ _)
        obtain ⟨b', off', e, hb', _⟩ := hpp0.at_ (by omega)
        simp at e
        omega
      obtain ⟨c5, f5⟩ := HM3.out.at_ ht 5 (by omega)
      obtain ⟨y0, g0⟩ := HM3.out.piece ht hpa hgp 0 (by omega)
      obtain ⟨g4, t4, hM4, hg4, ht4, ha4, hn4, hc4', hp4⟩ := HM3.out.long ht hpa hgp x
      rw [HG3.out] at hg4
      have hf : firstN L q = pt := by unfold firstN ticksAt; rw [taAt_of hgu]; simp only [Int.toNat_zero]; rw [← hpcs, hgp]; rfl
      have hFb := HO.out.f
      have hXb := HO.out.x0
      have HAC0 : Hid (pt + x ≤ 200 → accE (longL L q x) F S = 0) := Lib.hid (by rw [← hf]; exact HO.out.acc)
      have HLT0 : Hid (pt + x + 1 ≤ 200 → accE (longL L q (x + 1)) F S = 15) := Lib.hid (by rw [← hf]; exact HO.out.late)
      rw [hf] at hFb
      simp [encTa, hpa] at c5
      simp [enc2] at y0
      simp only [Nat.zero_mul, Nat.add_zero] at g0 z0
      have HM4 : Hid (MutT w2.heap.size (w3.setCell ⟨pb, 0, none⟩ (.int .i64 (pt + x))).drew (some ⟨qb, 0, none⟩) n c3 g4) := Lib.hid (hM4.ext (Below.refl _ _).drew)
      have HRD : Hid (RdL (w3.setCell ⟨pb, 0, none⟩ (.int .i64 (pt + x))).drew (some ⟨qb, 0, none⟩) n (longL L q x)) := Lib.hid (by rw [← hg4]; exact HM4.out.rdL)
      have HG4 := Lib.hid hg4; have HT4 := Lib.hid ht4; have HA4 : Hid (t4.a = some ⟨pb, 0, none⟩) := Lib.hid (ha4.trans hpa); have HP4 := Lib.hid hp4
      have hwr : IntKind.i64.wrap (pt + x) = pt + x := IntWalk.i64_in _ (by omega)
      have hwr2 : IntKind.i64.wrap (pt + x + 1) = pt + x + 1 := IntWalk.i64_in _ (by omega)
      have hn0 : 0 < t.n := by omega
      have hn0' : 0 < pn := by omega
      have e1 : ¬ b3 = pb := by omega
      have e2 : ¬ pb = b3 := by omega
      have e3 : ¬ w.heap.size = pb := by omega
      have e4 : ¬ pb = w.heap.size := by omega
      have HQ := Lib.hid HO.out.lt
      clear ht hM4 hg4 ht4 ha4 hn4 hc4' hp4 hpa hgp hpl hplu hpn hpp hgu htu hpcs HM3
      by_cases h1 : pt + x ≤ 200
      · have HAC := Lib.hid (HAC0.out h1)
        have h1' : decide (pt + x ≤ 200) = true := by simpa using h1
        by_cases h2 : pt + x + 1 ≤ 200
        · have h2' : decide (200 < pt + x + 1) = false := by simp; omega
          have h3' : (x == 200) = false := by simp; omega
          have HLT := Lib.hid (HLT0.out h2)
          go_wp2_with fail
          go_region
          go_wp2_with (go_at_call 16; (with_reducible refine (Accept_is HRD.out HAC.out).mono ?_); rintro e w4 ⟨rfl, hb4⟩; obtain ⟨hc4, hf4, hz4, hr4⟩ := bfacts hb4; (try simp only [World.size_alloc, World.size_setCell, World.size_drew, World.size_drewN] at hz4 hr4); (try have hs4_w_0 : w.heap.size < w4.heap.size := by omega); (try have hs4_w3_0 : w3.heap.size < w4.heap.size := by omega))
          obtain ⟨g5, t5, hM5, hg5, _⟩ := (HM4.out.ext hb4).long HT4.out HA4.out HP4.out 1
          have HRD2 : Hid (RdL (w4.setCell ⟨pb, 0, none⟩ (.int .i64 (pt + x + 1))).drew (some ⟨qb, 0, none⟩) n (longL L q (x + 1))) := Lib.hid (by
            rw [← longL_add HQ.out, ← HG4.out, ← hg5]
            exact (hM5.ext (Below.refl _ _).drew).rdL)
          clear hM5 hg5
          go_region
          go_wp2_with (first | (go_at_call 16; (with_reducible refine (Accept_is HRD2.out HLT.out).mono ?_); rintro e w5 ⟨rfl, hb5⟩; obtain ⟨hc5, hf5, hz5, hr5⟩ := bfacts hb5; (try simp only [World.size_alloc, World.size_setCell, World.size_drew, World.size_drewN] at hz5 hr5); (try have hs5_w_0 : w.heap.size < w5.heap.size := by omega); (try have hs5_w3_0 : w3.heap.size < w5.heap.size := by omega)) | (go_at_call 17; (with_reducible refine (sane_any _).mono ?_); rintro e w8 ⟨rfl, hb8⟩))
          go_ret
          exact ⟨rfl, by (repeat' (first | (with_reducible exact Below.refl _ _) | (with_reducible assumption) | (with_reducible refine Below.alloc ?_ ?_ _) | (with_reducible refine Below.drew ?_) | (with_reducible refine Below.draws ?_ _) | (with_reducible refine Below.setCell ?_ ?_ _) | (refine Below.then ?_ (by with_reducible assumption)) | go_size))⟩
        · have h2' : decide (200 < pt + x + 1) = true := by simp; omega
          go_wp2_with fail
          go_region
          go_wp2_with (go_at_call 16; (with_reducible refine (Accept_is HRD.out HAC.out).mono ?_); rintro e w4 ⟨rfl, hb4⟩; obtain ⟨hc4, hf4, hz4, hr4⟩ := bfacts hb4; (try simp only [World.size_alloc, World.size_setCell, World.size_drew, World.size_drewN] at hz4 hr4); (try have hs4_w_0 : w.heap.size < w4.heap.size := by omega); (try have hs4_w3_0 : w3.heap.size < w4.heap.size := by omega))
          go_region
          go_wp2_with (go_at_call 17; (with_reducible refine (sane_any _).mono ?_); rintro e w8 ⟨rfl, hb8⟩)
          go_ret
          exact ⟨rfl, by (repeat' (first | (with_reducible exact Below.refl _ _) | (with_reducible assumption) | (with_reducible refine Below.alloc ?_ ?_ _) | (with_reducible refine Below.drew ?_) | (with_reducible refine Below.draws ?_ _) | (with_reducible refine Below.setCell ?_ ?_ _) | (refine Below.then ?_ (by with_reducible assumption)) | go_size))⟩
      · have h1' : decide (pt + x ≤ 200) = false := by simpa using h1
        have h2' : decide (200 < pt + x + 1) = true := by simp; omega
        go_wp2_with fail
        go_region
        go_wp2_with fail
        go_region
        go_wp2_with (go_at_call 17; (with_reducible refine (sane_any _).mono ?_); rintro e w8 ⟨rfl, hb8⟩)
        go_ret
        exact ⟨rfl, by (repeat' (first | (with_reducible exact Below.refl _ _) | (with_reducible assumption) | (with_reducible refine Below.alloc ?_ ?_ _) | (with_reducible refine Below.drew ?_) | (with_reducible refine Below.draws ?_ _) | (with_reducible refine Below.setCell ?_ ?_ _) | (refine Below.then ?_ (by with_reducible assumption)) | go_size))⟩
    · have hy' : (y != 0) = true := by simpa using hy
      clear hL hT hN hm1 hsl
      go_enter Try.func11, Try.ntmps11
      go_wp2_with (first
          | (go_at_call 15; refine (HM.out).mono ?_; rintro e w1 ⟨rfl, rfl⟩)
          | (go_at_call 45; (with_reducible refine (Slack_is (HR.out.ext (by (repeat' (first | (with_reducible exact Below.refl _ _) | (with_reducible assumption) | (with_reducible refine Below.alloc ?_ ?_ _) | (with_reducible refine Below.drew ?_) | (with_reducible refine Below.draws ?_ _) | (with_reducible refine Below.setCell ?_ ?_ _) | (refine Below.then ?_ (by with_reducible assumption)) | go_size)))) HSL.out).mono ?_); rintro e w1 ⟨rfl, hb1⟩; obtain ⟨hc1, hf1, hz1, hr1⟩ := bfacts hb1; (try simp only [World.size_alloc, World.size_setCell, World.size_drew, World.size_drewN] at hz1 hr1); (try have hs1_w_0 : w.heap.size < w1.heap.size := by omega))
          | (go_at_call 46; (with_reducible refine (rSlack_is (HR.out.ext (by (repeat' (first | (with_reducible exact Below.refl _ _) | (with_reducible assumption) | (with_reducible refine Below.alloc ?_ ?_ _) | (with_reducible refine Below.drew ?_) | (with_reducible refine Below.draws ?_ _) | (with_reducible refine Below.setCell ?_ ?_ _) | (refine Below.then ?_ (by with_reducible assumption)) | go_size)))) HNN.out HSL.out).mono ?_); rintro e w2 ⟨rfl, hb2⟩; obtain ⟨hc2, hf2, hz2, hr2⟩ := bfacts hb2; (try simp only [World.size_alloc, World.size_setCell, World.size_drew, World.size_drewN] at hz2 hr2); (try have hs2_w_0 : w.heap.size < w2.heap.size := by omega))
          | (go_at_call 17; (with_reducible refine (sane_any _).mono ?_); rintro e w8 ⟨rfl, hb8⟩))
      go_ret
      exact ⟨rfl, by (repeat' (first | (with_reducible exact Below.refl _ _) | (with_reducible assumption) | (with_reducible refine Below.alloc ?_ ?_ _) | (with_reducible refine Below.drew ?_) | (with_reducible refine Below.draws ?_ _) | (with_reducible refine Below.setCell ?_ ?_ _) | (refine Below.then ?_ (by with_reducible assumption)) | go_size))⟩
  · clear hL hT hN hm1 hsl
    go_enter Try.func11, Try.ntmps11
    go_wp2_with (first
          | (go_at_call 15; refine (HM.out).mono ?_; rintro e w1 ⟨rfl, rfl⟩)
          | (go_at_call 45; (with_reducible refine (Slack_is (HR.out.ext (by (repeat' (first | (with_reducible exact Below.refl _ _) | (with_reducible assumption) | (with_reducible refine Below.alloc ?_ ?_ _) | (with_reducible refine Below.drew ?_) | (with_reducible refine Below.draws ?_ _) | (with_reducible refine Below.setCell ?_ ?_ _) | (refine Below.then ?_ (by with_reducible assumption)) | go_size)))) HSL.out).mono ?_); rintro e w1 ⟨rfl, hb1⟩; obtain ⟨hc1, hf1, hz1, hr1⟩ := bfacts hb1; (try simp only [World.size_alloc, World.size_setCell, World.size_drew, World.size_drewN] at hz1 hr1); (try have hs1_w_0 : w.heap.size < w1.heap.size := by omega))
          | (go_at_call 46; (with_reducible refine (rSlack_is (HR.out.ext (by (repeat' (first | (with_reducible exact Below.refl _ _) | (with_reducible assumption) | (with_reducible refine Below.alloc ?_ ?_ _) | (with_reducible refine Below.drew ?_) | (with_reducible refine Below.draws ?_ _) | (with_reducible refine Below.setCell ?_ ?_ _) | (refine Below.then ?_ (by with_reducible assumption)) | go_size)))) HNN.out HSL.out).mono ?_); rintro e w2 ⟨rfl, hb2⟩; obtain ⟨hc2, hf2, hz2, hr2⟩ := bfacts hb2; (try simp only [World.size_alloc, World.size_setCell, World.size_drew, World.size_drewN] at hz2 hr2); (try have hs2_w_0 : w.heap.size < w2.heap.size := by omega))
          | (go_at_call 17; (with_reducible refine (sane_any _).mono ?_); rintro e w8 ⟨rfl, hb8⟩))
    go_ret
    exact ⟨rfl, by (repeat' (first | (with_reducible exact Below.refl _ _) | (with_reducible assumption) | (with_reducible refine Below.alloc ?_ ?_ _) | (with_reducible refine Below.drew ?_) | (with_reducible refine Below.draws ?_ _) | (with_reducible refine Below.setCell ?_ ?_ _) | (refine Below.then ?_ (by with_reducible assumption)) | go_size))⟩
end Go.Proofs.Ytabbmnnohnfbeaa
