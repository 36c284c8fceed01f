/- Contracts of Serve and Busy of both sides. The conditions: the slots and the requests read as named. -/
import Derived.Test.YtgldgomjlcojaaaSvRef2
namespace Go.Proofs.Ytgldgomjlcojaaa
open Go.RowKit
set_option linter.unusedSimpArgs false
set_option linter.unusedVariables false
theorem serve_is {a0 a : Option Addr} {n0 c0 n c : Nat} {l : List P2} {q : List Rq} {w : World} (hL : Rd w a0 n0 2 (l.map enc2)) (hQ : Rd w a n 3 (q.map encQ)) {R : List Int × List Int × Int} (hR : srvR l q = R) :
    Calls Try.prog 63 #[.slice a0 n0 c0, .slice a n c] w (OutSv w R.1 R.2.1 R.2.2) := hR ▸ serve_any a0 a n0 c0 n c l q w hL hQ
theorem Serve_is {a0 a : Option Addr} {n0 c0 n c : Nat} {l : List P2} {q : List Rq} {w : World} (hL : Rd w a0 n0 2 (l.map enc2)) (hQ : Rd w a n 3 (q.map encQ)) {R : List Int × List Int × Int} (hR : srvR l q = R) :
    Calls Try.prog 36 #[.slice a0 n0 c0, .slice a n c] w (OutIE w.heap.size w R.2.1 R.2.2) := by
  have HS := Lib.hid (serve_is (c0 := c0) (c := c) hL hQ hR)
  clear hL hQ hR
  go_enter Try.func36, Try.ntmps36
  go_wp2_with (go_at_call 63; (with_reducible refine HS.out.mono ?_); rintro e w1 ⟨a1, n1, c1, a2, n2, c2, rfl, h1, h2, hb⟩)
  go_ret2
  exact ⟨_, _, _, rfl, h2, hb⟩
theorem rServe_is {a0 a : Option Addr} {n0 c0 n c : Nat} {l : List P2} {q : List Rq} {w : World} (hL : Rd w a0 n0 2 (l.map enc2)) (hQ : Rd w a n 3 (q.map encQ)) {R : List Int × List Int × Int} (hR : srvR l q = R) :
    Calls Try.prog 38 #[.slice a0 n0 c0, .slice a n c] w (OutIE w.heap.size w R.2.1 R.2.2) := by
  have HS := Lib.hid (served_is a0 a n0 c0 n c l q w hL hQ R hR)
  clear hL hQ hR
  go_enter Try.func38, Try.ntmps38
  go_wp2_with (go_at_call 64; (with_reducible refine HS.out.mono ?_); rintro e w1 ⟨a1, n1, c1, a2, n2, c2, rfl, h1, h2, hb⟩)
  go_ret2
  exact ⟨_, _, _, rfl, h2, hb⟩
/-- does request k use the tick? -/
def useB (T : List Int) (q : List Rq) (t : Nat) (k : Nat) : Bool := decide (bgN T q k ≤ t) && decide (t < enN T q k) && hitB T (rqAt q k).m t
def busyF (T : List Int) (q : List Rq) (t : Nat) : Nat → Nat → Int
  | 0, _ => -1
  | f + 1, k => if useB T q t k = true then k else busyF T q t f (k + 1)
def busyR (l : List P2) (q : List Rq) (t : Int) : P2 := if inB t 0 1000000 = true then (if (srvR l q).2.2 = 0 then (busyF (tableS l) q t.toNat q.length 0, 0) else (0, (srvR l q).2.2)) else (0, 1)
theorem srv_zero {l : List P2} {q : List Rq} (h : (srvR l q).2.2 = 0) : validS l = true ∧ q.all okQ = true ∧ ¬ 40 < q.length ∧ srvR l q = (begL (tableS l) q, endL (tableS l) q, 0) ∧ OkS (tableS l) q := by
  have h0 : srvE l q = 0 := by
    unfold srvR at h
    split at h
    · assumption
    · exact h
  have hR : srvR l q = (begL (tableS l) q, endL (tableS l) q, 0) := by unfold srvR; rw [if_pos h0]
  unfold srvE at h0
  split at h0
  · rename_i h1
    rw [Bool.and_eq_true] at h1
    split at h0
    · omega
    · split at h0
      · omega
      · rename_i h2 h3
        exact ⟨h1.1, h1.2, h2, hR, okS_of h1.1 h1.2 (by simpa using h3)⟩
  · omega
theorem begL_get {T : List Int} {q : List Rq} {k : Nat} (h : k < q.length) : (begL T q)[k]? = some (bgN T q k : Int) := by unfold begL; rw [List.getElem?_map, idxs_get h]; rfl
theorem endL_get {T : List Int} {q : List Rq} {k : Nat} (h : k < q.length) : (endL T q)[k]? = some (enN T q k : Int) := by unfold endL; rw [List.getElem?_map, idxs_get h]; rfl
set_option maxRecDepth 100000 in
set_option maxHeartbeats 4000000 in
theorem Busy_is {a0 a : Option Addr} {n0 c0 n c : Nat} {l : List P2} {q : List Rq} {t : Int} {w : World} (hL : Rd w a0 n0 2 (l.map enc2)) (hQ : Rd w a n 3 (q.map encQ)) {R : P2} (hR : busyR l q t = R) :
    Calls Try.prog 39 #[.slice a0 n0 c0, .slice a n c, .int .i64 t] w fun e w' => e = rII R.1 R.2 ∧ Below w.heap.size w w' := by
  have hs := hQ.small
  have hql := hQ.length
  have HS := Lib.hid (serve_is (c0 := c0) (c := c) hL hQ rfl)
  have HL := Lib.hid hL; have HQ := Lib.hid hQ
  cases ht : inB t 0 1000000
  · have e : R = (0, 1) := by rw [← hR]; unfold busyR; rw [ht]; rfl
    subst e
    have HT := Lib.hid ht
    clear hL hQ hR ht
    go_enter Try.func39, Try.ntmps39
    go_wp2_with (go_at_call 56; (with_reducible refine (within_val HT.out).mono ?_); rintro e w1 ⟨rfl, rfl⟩)
    go_ret2
    exact ⟨rII_eq rfl rfl, by (repeat' (first | (with_reducible exact Below.refl _ _) | (with_reducible assumption) | (with_reducible refine Below.alloc ?_ ?_ _) | (with_reducible refine Below.drew ?_) | (with_reducible refine Below.draws ?_ _) | (with_reducible refine Below.setCell ?_ ?_ _) | (refine Below.then ?_ (by with_reducible assumption)) | go_size))⟩
  · have HT := Lib.hid ht
    by_cases h0 : (srvR l q).2.2 = 0
    · obtain ⟨hv, hk, h40, hSR, hOK⟩ := srv_zero h0
      obtain ⟨htl, htl4⟩ := tableS_len hv
      obtain ⟨⟨B1, B2, B3⟩, hB⟩ : ∃ B, srvR l q = B := ⟨_, rfl⟩
      have hR' := hR
      unfold busyR at hR'
      rw [ht, if_pos rfl, if_pos h0] at hR'
      subst hR'
      rw [inB_iff] at ht
      obtain ⟨tt, rfl⟩ := Int.eq_ofNat_of_zero_le ht.1
      rw [Int.toNat_natCast]
      rw [hB] at HS
      rw [hSR] at hB
      simp only [Prod.mk.injEq] at hB
      obtain ⟨rfl, rfl, rfl⟩ := hB
      obtain ⟨T, hT⟩ : ∃ T, tableS l = T := ⟨_, rfl⟩
      rw [hT] at hOK htl htl4 HS ⊢
      have HTT := Lib.hid hT; have HOK := Lib.hid hOK; have HV := Lib.hid hv
      obtain ⟨X, hX⟩ : ∃ X, busyF T q tt q.length 0 = X := ⟨_, rfl⟩
      rw [hX]
      have HX : Hid (busyF T q tt (n - 0) 0 = X) := Lib.hid (by rw [Nat.sub_zero, ← hql]; exact hX)
      have HQL := Lib.hid hql
      clear hL hQ hR h0 hv hk hSR hOK hT hX ht
      go_enter Try.func39, Try.ntmps39
      go_wp2_with (first
        | (go_at_call 56; (with_reducible refine (within_val HT.out).mono ?_); rintro e w1 ⟨rfl, rfl⟩)
        | (go_at_call 63; (with_reducible refine HS.out.mono ?_); rintro e w1 ⟨a1, n1, c1, a2, n2, c2, rfl, h1, h2, hb1⟩; have B1 := Lib.hid hb1; have R1 := Lib.hid (ownsI_rd h1); have R2 := Lib.hid (ownsI_rd h2); clear h1 h2 hb1)
        | (go_at_call 45; (with_reducible refine (turning_any _ _ _ l _ (HL.out.ext B1.out) HV.out).mono ?_); rw [HTT.out]; rintro e w2 ⟨h, rfl, hrows, hb2⟩; have HRW := Lib.hid hrows.rdW; have B2 := Lib.hid hb2; clear hrows hb2))
      obtain ⟨qb, hqb⟩ : ∃ x, x = w2.heap.size := ⟨_, rfl⟩
      obtain ⟨wq, hwq⟩ : ∃ wq, wq = w2.alloc (.cells #[.slice (h 0).a (h 0).n (h 0).c, .slice (h 1).a (h 1).n (h 1).c, .slice (h 2).a (h 2).n (h 2).c, .slice (h 3).a (h 3).n (h 3).c, .slice (h 4).a (h 4).n (h 4).c] 59) := ⟨_, rfl⟩
      have hbq : Below w2.heap.size w2 wq := by rw [hwq]; (repeat' (first | (with_reducible exact Below.refl _ _) | (with_reducible assumption) | (with_reducible refine Below.alloc ?_ ?_ _) | (with_reducible refine Below.drew ?_) | (with_reducible refine Below.draws ?_ _) | (with_reducible refine Below.setCell ?_ ?_ _) | (refine Below.then ?_ (by with_reducible assumption)) | go_size))
      have HWC : Hid (WhC qb wq h) := Lib.hid (by rw [hwq, hqb]; exact WhC.mk' w2 h _)
      rw [← hwq, ← hqb]
      have HRW2 := Lib.hid (HRW.out.ext hbq)
      have hB3 : Below w1.heap.size w1 wq := B2.out.trans (hbq.mono B2.out.size)
      have HR1 := Lib.hid (R1.out.ext hB3)
      have HR2 := Lib.hid (R2.out.ext hB3)
      have HBQ := Lib.hid (Below.then B1.out hB3)
      have hn1 : n1 = n := by rw [← R1.out.length]; simp [begL, idxs_len, HQL.out]
      have hn2 : n2 = n := by rw [← R2.out.length]; simp [endL, idxs_len, HQL.out]
      subst hn1
      subst hn2
      clear hwq hqb hbq HRW R1 R2 hB3 B1 B2 HS HT
      have hn0 := HRW2.out.len
      obtain ⟨r, hr⟩ : ∃ r, tt % T.length = r := ⟨_, rfl⟩
      have hrl : r < T.length := hr ▸ Nat.mod_lt _ (by omega)
      have hrm : (tt : Int) % ((h 0).n : Int) = (r : Int) := by rw [hn0, Int.mod_nat, hr]
      obtain ⟨y, b3, off3, hax, hb3, hcx, hy⟩ := (HRW2.out.row 0 (by omega)).idx r (by rw [hn0]; exact hrl)
      have hhit : ∀ m : Int, hitB T m tt = decide (y = m) := fun m => hit_at (by rw [hr]; exact hy)
      have HHIT := Lib.hid hhit
      have hrn : r < (h 0).n := by omega
      have i1 : (0 : Int) < ((h 0).n : Int) := by omega
      have HC0 : Hid (wq.cell? ⟨qb, 0, none⟩ = some (.slice (some ⟨b3, off3, none⟩) (h 0).n (h 0).c)) := Lib.hid (by have := HWC.out.c0; rw [this]; unfold sl; rw [hax])
      clear hhit hax hy hr hn0
      go_loopw [31] (fun i wr => ∃ k : Nat, k ≤ n2 ∧ i = .int .i64 k ∧ busyF T q tt (n2 - k) k = X ∧ Below wq.heap.size wq wr) (fun i _ => n2 - (intOf i).toNat)
      case atStart => exact ⟨0, Nat.zero_le _, rfl, HX.out, Below.refl _ _⟩
      case round =>
        clear HX
        obtain ⟨k, hk, rfl, hX, hB⟩ := hrel
        have HX := Lib.hid hX; have HB := Lib.hid hB
        clear hX hB
        by_cases hlt : k < n2
        · have hXs := HX.out
          rw [show n2 - k = (n2 - (k + 1)) + 1 by omega, busyF] at hXs
          obtain ⟨⟨m, o, tk⟩, b, off, rfl, hb, hg, d1, d2, d3, _⟩ := (HQ.out.ext (HBQ.out.trans (HB.out.mono HBQ.out.size))).rq k hlt
          simp only [] at d1 d2 d3
          obtain ⟨x1, bb, ob, rfl, hbb, e1, g1⟩ := (HR1.out.ext HB.out).idx k hlt
          obtain ⟨x2, be, oe, rfl, hbe, e2, g2⟩ := (HR2.out.ext HB.out).idx k hlt
          rw [begL_get (by rw [HQL.out]; exact hlt)] at g1
          rw [endL_get (by rw [HQL.out]; exact hlt)] at g2
          simp only [Option.some.injEq] at g1 g2
          have hu : useB T q tt k = (decide (bgN T q k ≤ tt) && decide (tt < enN T q k) && decide (y = m)) := by unfold useB; rw [HHIT.out, rqAt_of hg]
          rw [hu] at hXs
          obtain ⟨BG, hBG⟩ : ∃ B, bgN T q (k : Int) = B := ⟨_, rfl⟩
          obtain ⟨EN, hEN⟩ : ∃ B, enN T q (k : Int) = B := ⟨_, rfl⟩
          rw [hBG] at g1 hXs
          rw [hEN] at g2 hXs
          subst g1
          subst g2
          have v0 := (HB.out.cell (p := ⟨qb, 0, none⟩) HWC.out.lt).trans HC0.out
          have v1 := (HB.out.cell (p := ⟨qb, 1, none⟩) HWC.out.lt).trans HWC.out.c1
          have v2 := (HB.out.cell (p := ⟨qb, 2, none⟩) HWC.out.lt).trans HWC.out.c2
          have v3 := (HB.out.cell (p := ⟨qb, 3, none⟩) HWC.out.lt).trans HWC.out.c3
          have v4 := (HB.out.cell (p := ⟨qb, 4, none⟩) HWC.out.lt).trans HWC.out.c4
          have v5 := (HB.out.cell (p := ⟨b3, off3 + r, none⟩) hb3).trans hcx
          unfold sl at v1 v2 v3 v4
          have hqz : qb < wr.heap.size := Nat.lt_of_lt_of_le HWC.out.lt HB.out.size
          have hb3z : b3 < wr.heap.size := Nat.lt_of_lt_of_le hb3 HB.out.size
          clear hu hg hBG hEN
          by_cases q1 : BG ≤ tt
          · have q1' : decide ((BG : Int) ≤ (tt : Int)) = true := by simp; omega
            have q1'' : decide (BG ≤ tt) = true := by simpa using q1
            by_cases q2 : tt < EN
            · have q2' : decide ((tt : Int) < (EN : Int)) = true := by simp; omega
              have q2'' : decide (tt < EN) = true := by simpa using q2
              rw [q1'', q2'', show (true && true && decide (y = m)) = decide (y = m) from rfl] at hXs
              by_cases q3 : y = m
              · rw [if_pos (by simpa using q3)] at hXs
                have q3' : (y == m) = true := by simpa using q3
                subst hXs
                subst q3
                go_wp2_with (refine wp_region_later_lit (by kernel_rfl) (by kernel_rfl) ?_; (repeat (go_big_quiet_step ((go_at_call 55; exact later_of (period5 _ _ _ _ _ _ _ _ _ _ _ _ _ _ _ _))))); refine wpQuiet_nil ?_; intro w7 hb7)
                go_ret2
                exact ⟨rII_eq rfl rfl, HBQ.out.trans ((Below.then (Below.alloc HB.out HB.out.size _) hb7).mono HBQ.out.size)⟩
              · rw [if_neg (by simpa using q3)] at hXs
                have q3' : (y == m) = false := by simpa using q3
                have HXS := Lib.hid hXs
                clear hXs
                go_wp2_with (refine wp_region_later_lit (by kernel_rfl) (by kernel_rfl) ?_; (repeat (go_big_quiet_step ((go_at_call 55; exact later_of (period5 _ _ _ _ _ _ _ _ _ _ _ _ _ _ _ _))))); refine wpQuiet_nil ?_; intro w8 hb8)
                go_roundw
                case rel => exact ⟨k + 1, hlt, by go_num, HXS.out, Below.then (Below.alloc HB.out HB.out.size _) hb8⟩
                case measure => simp [intOf]; omega
            · have q2' : decide ((tt : Int) < (EN : Int)) = false := by simp; omega
              have q2'' : decide (tt < EN) = false := by simpa using q2
              rw [q1'', q2'', show (true && false && decide (y = m)) = false from rfl, if_neg (by simp)] at hXs
              have HXS := Lib.hid hXs
              clear hXs
              go_wp2_with (refine wp_region_later_lit (by kernel_rfl) (by kernel_rfl) ?_; (repeat (go_big_quiet_step (fail))); refine wpQuiet_nil ?_; intro w5 hb5)
              go_roundw
              case rel => exact ⟨k + 1, hlt, by go_num, HXS.out, Below.then (Below.alloc HB.out HB.out.size _) hb5⟩
              case measure => simp [intOf]; omega
          · have q1' : decide ((BG : Int) ≤ (tt : Int)) = false := by simp; omega
            have q1'' : decide (BG ≤ tt) = false := by simpa using q1
            rw [q1'', show (false && decide (tt < EN) && decide (y = m)) = false from rfl, if_neg (by simp)] at hXs
            have HXS := Lib.hid hXs
            clear hXs
            go_wp2_with (refine wp_region_later_lit (by kernel_rfl) (by kernel_rfl) ?_; (repeat (go_big_quiet_step (fail))); refine wpQuiet_nil ?_; intro w6 hb6)
            go_roundw
            case rel => exact ⟨k + 1, hlt, by go_num, HXS.out, Below.then (Below.alloc HB.out HB.out.size _) hb6⟩
            case measure => simp [intOf]; omega
        · have hX0 : X = -1 := by have := HX.out; rw [show n2 - k = 0 by omega] at this; exact this.symm
          subst hX0
          go_wp2
          go_ret2
          exact ⟨rII_eq rfl rfl, HBQ.out.trans (HB.out.mono HBQ.out.size)⟩
    · obtain ⟨⟨B1, B2, E⟩, hB⟩ : ∃ B, srvR l q = B := ⟨_, rfl⟩
      have e : R = (0, E) := by rw [← hR]; unfold busyR; rw [ht, if_pos rfl, if_neg h0, hB]
      subst e
      rw [hB] at HS h0
      simp only [] at h0
      have hz : (E != 0) = true := by simpa using h0
      clear hL hQ hR ht h0
      go_enter Try.func39, Try.ntmps39
      go_wp2_with (first
        | (go_at_call 56; (with_reducible refine (within_val HT.out).mono ?_); rintro e w1 ⟨rfl, rfl⟩)
        | (go_at_call 63; (with_reducible refine HS.out.mono ?_); rintro e w1 ⟨a1, n1, c1, a2, n2, c2, rfl, h1, h2, hb⟩))
      go_ret2
      exact ⟨rII_eq rfl rfl, by (repeat' (first | (with_reducible exact Below.refl _ _) | (with_reducible assumption) | (with_reducible refine Below.alloc ?_ ?_ _) | (with_reducible refine Below.drew ?_) | (with_reducible refine Below.draws ?_ _) | (with_reducible refine Below.setCell ?_ ?_ _) | (refine Below.then ?_ (by with_reducible assumption)) | go_size))⟩
set_option maxRecDepth 100000 in
set_option maxHeartbeats 4000000 in
theorem rBusy_is {a0 a : Option Addr} {n0 c0 n c : Nat} {l : List P2} {q : List Rq} {t : Int} {w : World} (hL : Rd w a0 n0 2 (l.map enc2)) (hQ : Rd w a n 3 (q.map encQ)) {R : P2} (hR : busyR l q t = R) :
    Calls Try.prog 40 #[.slice a0 n0 c0, .slice a n c, .int .i64 t] w fun e w' => e = rII R.1 R.2 ∧ Below w.heap.size w w' := by
  have hs := hQ.small
  have hql := hQ.length
  have HS := Lib.hid (served_is a0 a n0 c0 n c l q w hL hQ _ rfl)
  have HL := Lib.hid hL; have HQ := Lib.hid hQ
  cases ht : inB t 0 1000000
  · have e : R = (0, 1) := by rw [← hR]; unfold busyR; rw [ht]; rfl
    subst e
    have hn : ¬ (0 ≤ t ∧ t ≤ 1000000) := by rw [← inB_iff, ht]; simp
    clear hL hQ hR ht
    by_cases z1 : t < 0
    · go_enter Try.func40, Try.ntmps40
      go_wp2
      go_ret2
      exact ⟨rII_eq rfl rfl, by (repeat' (first | (with_reducible exact Below.refl _ _) | (with_reducible assumption) | (with_reducible refine Below.alloc ?_ ?_ _) | (with_reducible refine Below.drew ?_) | (with_reducible refine Below.draws ?_ _) | (with_reducible refine Below.setCell ?_ ?_ _) | (refine Below.then ?_ (by with_reducible assumption)) | go_size))⟩
    · have z2 : 1000000 < t := by omega
      go_enter Try.func40, Try.ntmps40
      go_wp2
      go_ret2
      exact ⟨rII_eq rfl rfl, by (repeat' (first | (with_reducible exact Below.refl _ _) | (with_reducible assumption) | (with_reducible refine Below.alloc ?_ ?_ _) | (with_reducible refine Below.drew ?_) | (with_reducible refine Below.draws ?_ _) | (with_reducible refine Below.setCell ?_ ?_ _) | (refine Below.then ?_ (by with_reducible assumption)) | go_size))⟩
  · have ht' := inB_iff.1 ht
    obtain ⟨tt, rfl⟩ := Int.eq_ofNat_of_zero_le ht'.1
    have z1 : ¬ (tt : Int) < 0 := by omega
    have z2 : ¬ 1000000 < (tt : Int) := by omega
    have z3 : ¬ 1000000 < tt := by omega
    by_cases h0 : (srvR l q).2.2 = 0
    · obtain ⟨hv, hk, h40, hSR, hOK⟩ := srv_zero h0
      obtain ⟨htl, htl4⟩ := tableS_len hv
      obtain ⟨⟨B1, B2, B3⟩, hB⟩ : ∃ B, srvR l q = B := ⟨_, rfl⟩
      have hR' := hR
      unfold busyR at hR'
      rw [ht, if_pos rfl, if_pos h0, Int.toNat_natCast] at hR'
      subst hR'
      rw [hB] at HS
      rw [hSR] at hB
      simp only [Prod.mk.injEq] at hB
      obtain ⟨rfl, rfl, rfl⟩ := hB
      obtain ⟨T, hT⟩ : ∃ T, tableS l = T := ⟨_, rfl⟩
      rw [hT] at hOK htl htl4 HS ⊢
      have HTT := Lib.hid hT.symm; have HOK := Lib.hid hOK; have HV := Lib.hid hv
      obtain ⟨X, hX⟩ : ∃ X, busyF T q tt q.length 0 = X := ⟨_, rfl⟩
      rw [hX]
      have HX : Hid (busyF T q tt (n - 0) 0 = X) := Lib.hid (by rw [Nat.sub_zero, ← hql]; exact hX)
      have HQL := Lib.hid hql
      clear hL hQ hR h0 hv hk hSR hOK hT hX ht ht'
      go_enter Try.func40, Try.ntmps40
      go_wp2_with (first
        | (go_at_call 64; (with_reducible refine HS.out.mono ?_); rintro e w1 ⟨a1, n1, c1, a2, n2, c2, rfl, h1, h2, hb1⟩; have B1 := Lib.hid hb1; have R1 := Lib.hid (ownsI_rd h1); have R2 := Lib.hid (ownsI_rd h2); clear h1 h2 hb1)
        | (go_at_call 48; (with_reducible refine (table_val (HL.out.ext B1.out) HV.out HTT.out).mono ?_); rintro e wq ⟨a5, n5, c5, rfl, hown5, hb5⟩; have HTR := Lib.hid (ownsI_rd hown5); have B2 := Lib.hid hb5; clear hown5 hb5))
      have HR1 := Lib.hid (R1.out.ext B2.out)
      have HR2 := Lib.hid (R2.out.ext B2.out)
      have HBQ := Lib.hid (Below.then B1.out B2.out)
      have hn1 : n1 = n := by rw [← R1.out.length]; simp [begL, idxs_len, HQL.out]
      have hn2 : n2 = n := by rw [← R2.out.length]; simp [endL, idxs_len, HQL.out]
      have hn5 : n5 = T.length := HTR.out.length.symm
      subst hn1
      subst hn2
      clear R1 R2 B1 B2 HS
      obtain ⟨r, hr⟩ : ∃ r, tt % T.length = r := ⟨_, rfl⟩
      have hrl : r < T.length := hr ▸ Nat.mod_lt _ (by omega)
      have hrm : (tt : Int) % (n5 : Int) = (r : Int) := by rw [hn5, Int.mod_nat, hr]
      have hrn : r < n5 := by omega
      obtain ⟨y, b3, off3, hax, hb3, hcx, hy⟩ := HTR.out.idx r hrn
      have hhit : ∀ m : Int, hitB T m tt = decide (y = m) := fun m => hit_at (by rw [hr]; exact hy)
      have HHIT := Lib.hid hhit
      have i1 : (0 : Int) < (n5 : Int) := by omega
      have h5s : n5 ≤ 400 := by omega
      subst hax
      have HN5 := Lib.hid hn5
      clear hhit hy hr hn5 HTR
      go_loopw [12] (fun i wr => ∃ k : Nat, k ≤ n2 ∧ i = .int .i64 k ∧ busyF T q tt (n2 - k) k = X ∧ Below wq.heap.size wq wr) (fun i _ => n2 - (intOf i).toNat)
      case atStart => exact ⟨0, Nat.zero_le _, rfl, HX.out, Below.refl _ _⟩
      case round =>
        clear HX
        obtain ⟨k, hk, rfl, hX, hB⟩ := hrel
        have HX := Lib.hid hX; have HB := Lib.hid hB
        clear hX hB
        by_cases hlt : k < n2
        · have hXs := HX.out
          rw [show n2 - k = (n2 - (k + 1)) + 1 by omega, busyF] at hXs
          obtain ⟨⟨m, o, tk⟩, b, off, rfl, hb, hg, d1, d2, d3, _⟩ := (HQ.out.ext (HBQ.out.trans (HB.out.mono HBQ.out.size))).rq k hlt
          simp only [] at d1 d2 d3
          obtain ⟨x1, bb, ob, rfl, hbb, e1, g1⟩ := (HR1.out.ext HB.out).idx k hlt
          obtain ⟨x2, be, oe, rfl, hbe, e2, g2⟩ := (HR2.out.ext HB.out).idx k hlt
          rw [begL_get (by rw [HQL.out]; exact hlt)] at g1
          rw [endL_get (by rw [HQL.out]; exact hlt)] at g2
          simp only [Option.some.injEq] at g1 g2
          have hu : useB T q tt k = (decide (bgN T q k ≤ tt) && decide (tt < enN T q k) && decide (y = m)) := by unfold useB; rw [HHIT.out, rqAt_of hg]
          rw [hu] at hXs
          obtain ⟨BG, hBG⟩ : ∃ B, bgN T q (k : Int) = B := ⟨_, rfl⟩
          obtain ⟨EN, hEN⟩ : ∃ B, enN T q (k : Int) = B := ⟨_, rfl⟩
          rw [hBG] at g1 hXs
          rw [hEN] at g2 hXs
          subst g1
          subst g2
          have v5 := (HB.out.cell (p := ⟨b3, off3 + r, none⟩) hb3).trans hcx
          clear hu hg hBG hEN
          by_cases q1 : BG ≤ tt
          · have q1' : decide ((BG : Int) ≤ (tt : Int)) = true := by simp; omega
            have q1'' : decide (BG ≤ tt) = true := by simpa using q1
            by_cases q2 : tt < EN
            · have q2' : decide ((tt : Int) < (EN : Int)) = true := by simp; omega
              have q2'' : decide (tt < EN) = true := by simpa using q2
              rw [q1'', q2'', show (true && true && decide (y = m)) = decide (y = m) from rfl] at hXs
              by_cases q3 : y = m
              · rw [if_pos (by simpa using q3)] at hXs
                have q3' : (y == m) = true := by simpa using q3
                subst hXs
                subst q3
                go_wp2_with fail
                go_region
                all_goals
                  go_wp2_with fail
                  go_ret2
                  exact ⟨rII_eq rfl rfl, HBQ.out.trans ((Below.then HB.out (Below.refl _ _).drew).mono HBQ.out.size)⟩
              · rw [if_neg (by simpa using q3)] at hXs
                have q3' : (y == m) = false := by simpa using q3
                have HXS := Lib.hid hXs
                clear hXs
                go_wp2_with fail
                go_region
                all_goals
                  go_wp2_with fail
                  go_roundw
                  case rel => exact ⟨k + 1, hlt, by go_num, HXS.out, Below.then HB.out (Below.refl _ _).drew⟩
                  case measure => simp [intOf]; omega
            · have q2' : decide ((tt : Int) < (EN : Int)) = false := by simp; omega
              have q2'' : decide (tt < EN) = false := by simpa using q2
              rw [q1'', q2'', show (true && false && decide (y = m)) = false from rfl, if_neg (by simp)] at hXs
              have HXS := Lib.hid hXs
              clear hXs
              go_wp2_with (refine wp_region_later_lit (by kernel_rfl) (by kernel_rfl) ?_; (repeat (go_big_quiet_step (fail))); refine wpQuiet_nil ?_; intro w5 hb5)
              go_roundw
              case rel => exact ⟨k + 1, hlt, by go_num, HXS.out, Below.then HB.out hb5⟩
              case measure => simp [intOf]; omega
          · have q1' : decide ((BG : Int) ≤ (tt : Int)) = false := by simp; omega
            have q1'' : decide (BG ≤ tt) = false := by simpa using q1
            rw [q1'', show (false && decide (tt < EN) && decide (y = m)) = false from rfl, if_neg (by simp)] at hXs
            have HXS := Lib.hid hXs
            clear hXs
            go_wp2_with (refine wp_region_later_lit (by kernel_rfl) (by kernel_rfl) ?_; (repeat (go_big_quiet_step (fail))); refine wpQuiet_nil ?_; intro w6 hb6)
            go_roundw
            case rel => exact ⟨k + 1, hlt, by go_num, HXS.out, Below.then HB.out hb6⟩
            case measure => simp [intOf]; omega
        · have hX0 : X = -1 := by have := HX.out; rw [show n2 - k = 0 by omega] at this; exact this.symm
          subst hX0
          go_wp2
          go_ret2
          exact ⟨rII_eq rfl rfl, HBQ.out.trans (HB.out.mono HBQ.out.size)⟩
    · obtain ⟨⟨B1, B2, E⟩, hB⟩ : ∃ B, srvR l q = B := ⟨_, rfl⟩
      have e : R = (0, E) := by rw [← hR]; unfold busyR; rw [ht, if_pos rfl, if_neg h0, hB]
      subst e
      rw [hB] at HS h0
      simp only [] at h0
      have hz : (E != 0) = true := by simpa using h0
      clear hL hQ hR ht h0
      go_enter Try.func40, Try.ntmps40
      go_wp2_with (go_at_call 64; (with_reducible refine HS.out.mono ?_); rintro e w1 ⟨a1, n1, c1, a2, n2, c2, rfl, h1, h2, hb⟩)
      go_ret2
      exact ⟨rII_eq rfl rfl, by (repeat' (first | (with_reducible exact Below.refl _ _) | (with_reducible assumption) | (with_reducible refine Below.alloc ?_ ?_ _) | (with_reducible refine Below.drew ?_) | (with_reducible refine Below.draws ?_ _) | (with_reducible refine Below.setCell ?_ ?_ _) | (refine Below.then ?_ (by with_reducible assumption)) | go_size))⟩
end Go.Proofs.Ytgldgomjlcojaaa
