/- Slack: the contract of raised. The conditions: the tasks read as named and are valid. -/
import Derived.Test.YtabbmnnohnfbeaaRsSlkW
namespace Go.Proofs.Ytabbmnnohnfbeaa
open Go.RowKit
set_option linter.unusedSimpArgs false
set_option linter.unusedVariables false
theorem rank_pos {L : List Ta} {r : Nat} {x : Int} (h : (rankL L)[r]? = some x) : cnt L x = r := by
  have hm := rank_mem.1 (List.mem_of_getElem? h)
  have h2 := rank_at hm.1 hm.2
  have hl := (List.getElem?_eq_some_iff.1 h).1
  exact ((List.getElem?_inj hl (rank_nodup L)).1 (h.trans h2.symm)).symm
theorem accB_rank {K L : List Ta} (hs : SameT K L) (F S : Int) : (rankL L).all (fun k => meetB K F S k) = accB K F S := by
  rw [Bool.eq_iff_iff, List.all_eq_true, accB_iff]
  constructor
  · intro h j hj
    exact h j (rank_mem.2 ⟨by omega, by rw [← hs.len]; omega⟩)
  · intro h k hk
    obtain ⟨h0, h1⟩ := rank_mem.1 hk
    obtain ⟨j, rfl⟩ := Int.eq_ofNat_of_zero_le h0
    exact h j (by rw [hs.len]; omega)
theorem demN_rank {K L : List Ta} (hs : SameT K L) {i w : Int} (h0 : 0 ≤ i) (h1 : i < L.length) : demL K w ((rankL L).take (cnt L i)) (ownN K i) = demN K i w := by
  rw [← hs.rank, ← hs.cnt]; exact demN_take h0 (by rw [hs.len]; exact h1)
theorem longL_fix (L : List Ta) {t : Nat} (ht : t < L.length) (m : Int) (i : Int) : (taAt (longL L t m) i).jit = (taAt L i).jit ∧ (taAt (longL L t m) i).gap = (taAt L i).gap ∧ (taAt (longL L t m) i).dl = (taAt L i).dl := by
  rw [longL_at L ht]
  split
  · rename_i e
    have : taAt L t = taAt L i := by unfold taAt; rw [Int.toNat_natCast, e]
    rw [this]; exact ⟨rfl, rfl, rfl⟩
  · exact ⟨rfl, rfl, rfl⟩
set_option maxRecDepth 100000 in
set_option maxHeartbeats 8000000 in
theorem raised_any (a : Option Addr) (n c t : Nat) (m F S : Int) (L : List Ta) (w : World) (hL : RdL w a n L) (hv : ValidT L) (hS : supB F S = true) (ht : t < n) (h0 : 0 ≤ m ∧ m ≤ 200) :
    Calls Try.prog 88 #[.slice a n c, .agg #[.int .i64 F, .int .i64 S], .int .i64 (t : Nat), .int .i64 m] w fun e w' => e = .returned (.bool (accB (longL L t m) F S)) ∧ Below w.heap.size w w' := by
  have hll := hL.length
  have hn5 : n ≤ 5 := by rw [← hll]; exact hv.r.len
  have htl : t < L.length := by omega
  have hsame := longL_same L htl m
  obtain ⟨K, hK⟩ : ∃ K, longL L t m = K := ⟨_, rfl⟩
  have hv4 := hv.long htl h0.1 h0.2
  have hfix := longL_fix L htl m
  rw [hK] at hsame hv4
  simp only [hK] at hfix
  have HFX := Lib.hid hfix
  have hkl : K.length = n := by rw [hsame.len, hll]
  have HKL := Lib.hid hkl
  clear hfix hkl
  obtain ⟨R, hR⟩ : ∃ R, accB K F S = R := ⟨_, rfl⟩
  obtain ⟨rk, hrk⟩ : ∃ rk, rankL L = rk := ⟨_, rfl⟩
  have HA : Hid ((rk.drop 0).all (fun k => meetB K F S k) = R) := Lib.hid (by rw [← hR, ← hrk]; exact accB_rank hsame F S)
  have HRK : Hid (ranksR L = (rk, 0)) := Lib.hid (by rw [ranksR, hv.rb, ← hrk]; rfl)
  have HRM : Hid (∀ x ∈ rk, 0 ≤ x ∧ x < n) := Lib.hid (fun x hx => by rw [← hrk] at hx; have := rank_mem.1 hx; omega)
  have HRP : Hid (∀ (r : Nat) (x : Int), rk[r]? = some x → cnt L x = r) := Lib.hid (fun r x h => by rw [← hrk] at h; exact rank_pos h)
  have HDN : Hid (∀ (i : Nat) (v : Int), i < n → demL K v (rk.take (cnt L i)) (ownN K i) = demN K i v) := Lib.hid (fun i v hi => by rw [← hrk]; exact demN_rank hsame (by omega) (by omega))
  have hrl : rk.length = n := by rw [← hrk, rank_len, hll]
  have HRL := Lib.hid hrl
  have HV := Lib.hid hv; have HV4 := Lib.hid hv4; have HS := Lib.hid hS; have HR := Lib.hid hL; have HK := Lib.hid hK; have HSM := Lib.hid hsame
  -- the first piece
  obtain ⟨u, b, off, pa, pn, pc, rfl, hb, hg, hpl, HC0⟩ := hL.cells t ht
  obtain ⟨d0, d1, d2, d3, d4, d5, hbw, hpp⟩ := HC0.out w (Below.refl _ _)
  have hum := List.mem_of_getElem? hg
  have hpn := hv.r.pcs u hum
  rw [hpl] at hpn
  obtain ⟨pt, py, b3, o3, rfl, hb3, z0, z1, hgp, _⟩ := hpp.pc_at 0 (by omega)
  simp only [Nat.zero_mul, Nat.add_zero, Nat.zero_add] at z0 z1
  have hfn : firstN L t = pt := by unfold firstN ticksAt; rw [taAt_of hg]; simp only [Int.toNat_zero]; rw [hgp]; rfl
  have hfb := first_bd hv.r htl
  rw [hfn] at hfb
  have HFN := Lib.hid hfn
  have hwr : IntKind.i64.wrap (pt + m) = pt + m := IntWalk.i64_in _ (by omega)
  rw [hK, hR]
  clear hL hv hv4 hS hK hR hrk hrl hsame hg hpp hum hgp hfn hpl hll
  have hx1 : b < w.heap.size + 1 := by omega
  have hy1 : b3 < w.heap.size + 1 := by omega
  have hx2 : b < w.heap.size + 1 + 1 := by omega
  have hy2 : b3 < w.heap.size + 1 + 1 := by omega
  have hx3 : b < w.heap.size + 1 + 1 + 1 := by omega
  have hy3 : b3 < w.heap.size + 1 + 1 + 1 := by omega
  have hx4 : b < w.heap.size + 1 + 1 + 1 + 1 := by omega
  have hy4 : b3 < w.heap.size + 1 + 1 + 1 + 1 := by omega
  have hx5 : b < w.heap.size + 1 + 1 + 1 + 1 + 1 := by omega
  have hy5 : b3 < w.heap.size + 1 + 1 + 1 + 1 + 1 := by omega
  go_enter Try.func88, Try.ntmps88
  go_wp2_with (go_at_call 72; (with_reducible refine (Ranks_is (HR.out.ext (by (repeat' (first | (with_reducible exact Below.refl _ _) | (with_reducible assumption) | (with_reducible refine Below.alloc ?_ ?_ _) | (with_reducible refine Below.drew ?_) | (with_reducible refine Below.draws ?_ _) | (with_reducible refine Below.setCell ?_ ?_ _) | (refine Below.then ?_ (by with_reducible assumption)) | go_size)))) HRK.out).mono ?_); rintro e w1 ⟨a1, n1, c1, rfl, ho1, hb1⟩; have R1 := Lib.hid (ownsI_rd ho1); have hca1 := owns_cap ho1; clear ho1)
  have B1 := Lib.hid (Below.then (show Below w.heap.size w _ by (repeat' (first | (with_reducible exact Below.refl _ _) | (with_reducible assumption) | (with_reducible refine Below.alloc ?_ ?_ _) | (with_reducible refine Below.drew ?_) | (with_reducible refine Below.draws ?_ _) | (with_reducible refine Below.setCell ?_ ?_ _) | (refine Below.then ?_ (by with_reducible assumption)) | go_size))) hb1)
  have HC : Hid (SlkC L t m (some ⟨b, off, none⟩) n c w.heap.size (w.heap.size + 1 + 1) (w.heap.size + 1 + 1 + 1 + 1 + 1) (w.heap.size + 1 + 1 + 1) w1) := Lib.hid (by
    refine SlkC.ext ?_ hb1
    refine ⟨by simp [go_sem], by simp [go_sem], by simp [go_sem, HFN.out], by simp [go_sem], HR.out.ext (by (repeat' (first | (with_reducible exact Below.refl _ _) | (with_reducible assumption) | (with_reducible refine Below.alloc ?_ ?_ _) | (with_reducible refine Below.drew ?_) | (with_reducible refine Below.draws ?_ _) | (with_reducible refine Below.setCell ?_ ?_ _) | (refine Below.then ?_ (by with_reducible assumption)) | go_size)))⟩)
  have hs0 : w1.cell? ⟨w.heap.size + 1, 0, none⟩ = some (.int .i64 F) := keep_cell' hb1 (by simp [go_sem])
  have hs1 : w1.cell? ⟨w.heap.size + 1, 1, none⟩ = some (.int .i64 S) := keep_cell' hb1 (by simp [go_sem])
  have hlz := hb1.size
  simp only [World.size_alloc] at hlz
  clear hb1
  have hn1 : n1 = n := by have := R1.out.length; have := HRL.out; omega
  subst hn1
  clear d0 d1 d2 d3 d4 d5 z0 z1 hx1 hx2 hx3 hx4 hx5 hy1 hy2 hy3 hy4 hy5 HC0 HRK hb hbw hb3 hwr hpn hfb HFN
  obtain ⟨lb, hlb⟩ : ∃ x, w.heap.size = x := ⟨_, rfl⟩
  obtain ⟨sb, hsb⟩ : ∃ x, lb + 1 = x := ⟨_, rfl⟩
  obtain ⟨tb, htb⟩ : ∃ x, sb + 1 = x := ⟨_, rfl⟩
  obtain ⟨mb, hmb⟩ : ∃ x, tb + 1 = x := ⟨_, rfl⟩
  obtain ⟨fb, hfb⟩ : ∃ x, mb + 1 = x := ⟨_, rfl⟩
  obtain ⟨gb, hgb⟩ : ∃ x, fb + 1 = x := ⟨_, rfl⟩
  have hlb' := Lib.hid hlb
  simp only [hlb, hsb, htb, hmb, hfb, hgb] at HC hs0 hs1 hlz ⊢
  have HS0 := Lib.hid hs0; have HS1 := Lib.hid hs1
  have hbl : lb < w1.heap.size ∧ sb < w1.heap.size ∧ tb < w1.heap.size ∧ mb < w1.heap.size := by omega
  clear hs0 hs1 hlb hsb htb hmb hfb hgb
  go_loopw [46] (fun i wr => ∃ r : Nat, r ≤ n1 ∧ i = .int .i64 r ∧ (rk.drop r).all (fun k => meetB K F S k) = R ∧ Below w1.heap.size w1 wr) (fun i _ => n1 - (intOf i).toNat)
  case atStart => exact ⟨0, Nat.zero_le _, rfl, HA.out, Below.refl _ _⟩
  case round =>
    clear HA
    obtain ⟨r, hr, rfl, he, hB⟩ := hrel
    have HE := Lib.hid he; have HB := Lib.hid hB
    clear he hB
    by_cases hlt : r < n1
    · obtain ⟨x, b1, o1, rfl, hb1, hc1, hx1⟩ := (R1.out.ext HB.out).idx r hlt
      obtain ⟨hx0, hxn⟩ := HRM.out x (List.mem_of_getElem? hx1)
      obtain ⟨q, rfl⟩ := Int.eq_ofNat_of_zero_le hx0
      have hcq := HRP.out r _ hx1
      have hE := HE.out
      have hrd : rk.drop r = (q : Int) :: rk.drop (r + 1) := by obtain ⟨h1, h2⟩ := List.getElem?_eq_some_iff.1 hx1; rw [List.drop_eq_getElem_cons h1, h2]
      rw [hrd, List.all_cons] at hE
      obtain ⟨W, hW⟩ : ∃ W, winN K F S q = W := ⟨_, rfl⟩
      have HW : Hid (winFrom K F S q (2001 - 1) 1 = W) := Lib.hid hW
      have hqn : q < n1 := by omega
      have HCQ := Lib.hid hcq
      have hme : meetB K F S q = (decide (0 < W) && decide ((taAt K q).jit + W ≤ (taAt K q).dl)) := by rw [← hW]; rfl
      have HME := Lib.hid hme
      have HE1 := Lib.hid hE
      clear hE hx1 hrd hW hcq HE hme
      go_wp2_with fail
      rename World => W2
      go_loopw [17, 18] (fun lt i wr => ∃ v : Nat, 1 ≤ v ∧ v ≤ 2001 ∧ lt = .bool true ∧ i = .int .i64 v ∧ winFrom K F S q (2001 - v) v = W ∧ Below w1.heap.size w1 wr) (fun _ i _ => 2001 - (intOf i).toNat)
      case atStart => exact ⟨1, Nat.le_refl _, by omega, rfl, rfl, HW.out, HB.out⟩
      case round =>
        obtain ⟨v, hv1, hv2, rfl, rfl, he, hB2⟩ := hrel
        have HE := Lib.hid he; have HB2 := Lib.hid hB2
        have hl1 := hB2.size
        clear he hB2 HW hb1 hc1
        have HCr := Lib.hid (HC.out.ext HB2.out)
        have hm0 : 0 ≤ m ∧ m ≤ 200 := h0
        by_cases hv3 : v ≤ 2000
        · have hv3' : decide ((v : Int) ≤ 2000) = true := by simp; omega
          obtain ⟨D, hD⟩ : ∃ D, demN K q v = D := ⟨_, rfl⟩
          obtain ⟨Y, hY⟩ : ∃ Y, leastN F S v = Y := ⟨_, rfl⟩
          have HY : Hid (lstR F S v = (Y, 0)) := Lib.hid (by rw [lstR_ok HS.out (by omega), hY])
          obtain ⟨cq, hcq⟩ : ∃ x, costT (taAt K q) = x := ⟨_, rfl⟩
          obtain ⟨bq, hbq⟩ : ∃ x, blockN K q = x := ⟨_, rfl⟩
          have hqk : taAt K q ∈ K := taAt_mem' (by omega) (by rw [HKL.out]; omega)
          have hcb := costT_bd4 HV4.out.r hqk
          have hbb := blockN_bd4 HV4.out.r q
          rw [hcq] at hcb; rw [hbq] at hbb
          have HA3 : Hid (demL K v ((rk.take r).drop 0) (cq + bq) = D) := Lib.hid (by rw [← hD, ← HDN.out q v hqn, HCQ.out, ← hcq, ← hbq]; rfl)
          have HBD : Hid (∀ (j : Nat) (x : Int), x ≤ demL K v ((rk.take r).drop j) x ∧ demL K v ((rk.take r).drop j) x ≤ x + 16160016000) := Lib.hid (fun j x => by
            have h1 := demL_bd4 HV4.out (w := v) ⟨by omega, by omega⟩ ((rk.take r).drop j) x (fun k hk => by
              have := HRM.out k (List.mem_of_mem_take (List.mem_of_mem_drop hk))
              rw [HKL.out]; omega)
            have h2 : ((rk.take r).drop j).length ≤ 5 := by
              rw [List.length_drop, List.length_take, HRL.out]; omega
            have h3 : (3232003200 : Int) * (((rk.take r).drop j).length : Int) ≤ 3232003200 * 5 := Int.mul_le_mul_of_nonneg_left (by omega) (by omega)
            omega)
          have hDB : D ≤ 16160019600 := by have := (HBD.out 0 (cq + bq)).2; rw [HA3.out] at this; omega
          have hE := HE.out
          rw [show 2001 - v = (2001 - (v + 1)) + 1 by omega, winFrom_step, hD, hY] at hE
          have HE2 := Lib.hid hE
          have HCQ2 : Hid (costT (taAt (longL L t m) q) = cq) := Lib.hid (by rw [HK.out]; exact hcq)
          have HBQ2 : Hid (blockN (longL L t m) q = bq) := Lib.hid (by rw [HK.out]; exact hbq)
          have hrc : r ≤ c1 := by omega
          clear hE HE hD hY hcq hbq hqk
          go_wp2_with (first
            | (go_at_call 121; (with_reducible refine (costs_is HV.out ht hqn h0 HCr.out HCQ2.out).mono ?_); rintro e w3 ⟨rfl, hb3⟩; have B3 := Lib.hid hb3; clear hb3)
            | (go_at_call 119; (with_reducible refine (locked_is HV.out ht hqn h0 (HCr.out.ext B3.out) HBQ2.out).mono ?_); rintro e w4 ⟨rfl, hb4⟩; have B4 := Lib.hid hb4; clear hb4))
          have HB4 : Hid (Below w1.heap.size w1 w4) := Lib.hid (Below.then (Below.then HB2.out B3.out) B4.out)
          clear B3 B4 HCr HB2 hl1 HCQ2 HBQ2
          go_loopw [19, 69] (fun nd i wr => ∃ (j : Nat) (s : Int), j ≤ r ∧ nd = .int .i64 s ∧ i = .int .i64 j ∧ 0 ≤ s ∧ demL K v ((rk.take r).drop j) s = D ∧ Below w1.heap.size w1 wr) (fun _ i _ => r - (intOf i).toNat)
          case atStart => exact ⟨0, cq + bq, Nat.zero_le _, rfl, rfl, by omega, HA3.out, HB4.out⟩
          case round =>
            clear HA3 HB4
            obtain ⟨j, s, hj, rfl, rfl, hs, he, hB5⟩ := hrel
            have HE5 := Lib.hid he; have HB5 := Lib.hid hB5
            have hl5 := hB5.size
            have HC5 := Lib.hid (HC.out.ext hB5)
            clear he hB5
            have e5 := HC5.out.l0
            have hlb5 : lb < wr.heap.size := by omega
            by_cases hjr : j < r
            · obtain ⟨x, b1', o1', e1, hb1, hc1, hx1⟩ := (R1.out.ext HB5.out).idx j (by omega)
              simp at e1
              obtain ⟨rfl, rfl⟩ := e1
              obtain ⟨hx0', hxn'⟩ := HRM.out x (List.mem_of_getElem? hx1)
              obtain ⟨p, rfl⟩ := Int.eq_ofNat_of_zero_le hx0'
              obtain ⟨u, b2, off2, pa, pn2, pc2, e2, hb2, hgu, hpl, HKc⟩ := HC5.out.rd.cells p (by omega)
              simp at e2
              obtain ⟨rfl, rfl⟩ := e2
              obtain ⟨d0, d1, d2, d3, d4, d5, hbw, hpp⟩ := HKc.out wr (Below.refl _ _)
              have hum := List.mem_of_getElem? hgu
              have HVP := Lib.hid (HV.out.vp u hum)
              obtain ⟨mo, hmo⟩ : ∃ x, mostN u.gap u.jit v = x := ⟨_, rfl⟩
              obtain ⟨ct, hct⟩ : ∃ x, costT (taAt K p) = x := ⟨_, rfl⟩
              have hmb := mostN_bd (HV.out.gap u hum).1 (HV.out.jit u hum) (w := v) ⟨by omega, by omega⟩
              have hpk : taAt K p ∈ K := taAt_mem' (by omega) (by rw [HKL.out]; omega)
              have hcb2 := costT_bd4 HV4.out.r hpk
              have hdb := demT_bd4 HV4.out hpk (w := v) ⟨by omega, by omega⟩
              have hfx := HFX.out p
              rw [taAt_of hgu] at hfx
              have hd2 : demT (taAt K p) v = mo * ct := by rw [demT, hfx.1, hfx.2.1, hmo, hct]
              rw [hd2] at hdb
              rw [hmo] at hmb
              rw [hct] at hcb2
              have HMO := Lib.hid hmo
              have HCT : Hid (costT (taAt (longL L t m) p) = ct) := Lib.hid (by rw [HK.out]; exact hct)
              have hE5 := HE5.out
              have hjt : (rk.take r)[j]? = some (p : Int) := by rw [List.getElem?_take_of_lt hjr]; exact hx1
              have hkd : (rk.take r).drop j = (p : Int) :: (rk.take r).drop (j + 1) := by obtain ⟨h1, h2⟩ := List.getElem?_eq_some_iff.1 hjt; rw [List.drop_eq_getElem_cons h1, h2]
              rw [hkd, demL_cons, hd2] at hE5
              have HE6 := Lib.hid hE5
              have hsb := (HBD.out (j + 1) (s + mo * ct)).1
              rw [hE5] at hsb
              have hvb : 0 ≤ (v : Int) ∧ (v : Int) ≤ 1000000 := by omega
              have hpn : p < n1 := by omega
              clear hE5 hkd hjt hx1 hgu hum hd2 hpl hmo hct hpp hfx hpk HE5
              go_wp2_with (first
                | (go_at_call 110; (with_reducible refine (most_is HVP.out hvb HMO.out).mono ?_); rintro e w3 ⟨rfl, hb3⟩; have B3 := Lib.hid hb3; clear hb3)
                | (go_at_call 121; (with_reducible refine (costs_is HV.out ht hpn h0 (HC5.out.ext B3.out) HCT.out).mono ?_); rintro e w4 ⟨rfl, hb4⟩; have B4 := Lib.hid hb4; clear hb4))
              go_roundw
              case rel => exact ⟨j + 1, s + mo * ct, by omega, by go_num, by go_num, by omega, HE6.out, Below.then (Below.then HB5.out B3.out) B4.out⟩
              case measure => simp [intOf]; omega
            · have hE5 := HE5.out
              rw [List.drop_of_length_le (by rw [List.length_take, HRL.out]; omega)] at hE5
              obtain rfl : s = D := hE5
              have HS0' := Lib.hid (keep_cell' HB5.out HS0.out)
              have HS1' := Lib.hid (keep_cell' HB5.out HS1.out)
              have z0 := HS0'.out; have z1 := HS1'.out
              obtain ⟨u, b2, off2, pa, pn2, pc2, e2, hb2, hgu, hpl, HKc⟩ := HC5.out.rd.cells q (by omega)
              simp at e2
              obtain ⟨rfl, rfl⟩ := e2
              obtain ⟨d0, d1, d2, d3, d4, d5, hbw, hpp⟩ := HKc.out wr (Below.refl _ _)
              have hum := List.mem_of_getElem? hgu
              have hjb := HV.out.jit u hum
              have hfx := HFX.out q
              rw [taAt_of hgu] at hfx
              have hwj : IntKind.i64.wrap (u.jit + v) = u.jit + v := IntWalk.i64_in _ (by omega)
              have hME := HME.out
              rw [hfx.1, hfx.2.2] at hME
              clear hfx hgu hum hpl hpp HE5
              by_cases hxy : s ≤ Y
              · have hE2 := HE2.out
                rw [if_pos hxy] at hE2
                subst hE2
                have hE1 := HE1.out
                rw [hME, decide_eq_true (show (0 : Int) < v by omega), Bool.true_and] at hE1
                have hxy' : decide (s ≤ Y) = true := by simpa using hxy
                by_cases hdl : u.jit + v ≤ u.dl
                · have hdl' : decide (u.dl < u.jit + v) = false := by simp; omega
                  rw [decide_eq_true hdl, Bool.true_and] at hE1
                  have HE7 := Lib.hid hE1
                  clear hE1 hME
                  go_wp2_with (go_at_call 26; (with_reducible refine (Least_is HY.out).mono ?_); rintro e w3 ⟨rfl, hb3⟩; have B3 := Lib.hid hb3; have f0 := keep_cell' hb3 e5; have f2 := keep_cell' hb3 d2; have f3 := keep_cell' hb3 d3; have f4 := keep_cell' hb3 d4; have f1 := keep_cell' hb3 d1; have hlw := hb3.size; clear hb3)
                  go_region
                  go_wp2_with fail
                  go_roundw
                  case rel => exact ⟨r + 1, by omega, by go_num, HE7.out, (Below.then HB5.out B3.out).drew⟩
                  case measure => simp [intOf]; omega
                · have hdl' : decide (u.dl < u.jit + v) = true := by simp; omega
                  rw [decide_eq_false hdl, Bool.false_and] at hE1
                  subst hE1
                  clear hME
                  go_wp2_with (go_at_call 26; (with_reducible refine (Least_is HY.out).mono ?_); rintro e w3 ⟨rfl, hb3⟩; have B3 := Lib.hid hb3; have f0 := keep_cell' hb3 e5; have f2 := keep_cell' hb3 d2; have f3 := keep_cell' hb3 d3; have f4 := keep_cell' hb3 d4; have f1 := keep_cell' hb3 d1; have hlw := hb3.size; clear hb3)
                  go_region
                  go_wp2_with fail
                  go_ret
                  exact ⟨rfl, Below.then B1.out (Below.then HB5.out B3.out).drew⟩
              · have hE2 := HE2.out
                rw [if_neg hxy] at hE2
                have HE7 := Lib.hid hE2
                have hxy' : decide (s ≤ Y) = false := by simpa using hxy
                clear hE2 hME
                go_wp2_with (go_at_call 26; (with_reducible refine (Least_is HY.out).mono ?_); rintro e w3 ⟨rfl, hb3⟩; have B3 := Lib.hid hb3; have f0 := keep_cell' hb3 e5; have f2 := keep_cell' hb3 d2; have f3 := keep_cell' hb3 d3; have f4 := keep_cell' hb3 d4; have f1 := keep_cell' hb3 d1; have hlw := hb3.size; clear hb3)
                go_roundw
                case rel => exact ⟨v + 1, by omega, by omega, rfl, by go_num, HE7.out, Below.then HB5.out B3.out⟩
                case measure => simp [intOf]; omega
        · have hv3' : decide ((v : Int) ≤ 2000) = false := by simp; omega
          have hE := HE.out
          rw [show 2001 - v = 0 by omega, winFrom] at hE
          subst hE
          have hE1 := HE1.out
          rw [HME.out] at hE1
          obtain rfl : R = false := by rw [← hE1]; rfl
          go_wp2
          go_ret
          exact ⟨rfl, Below.then B1.out HB2.out⟩
    · have hE := HE.out
      rw [List.drop_of_length_le (by rw [HRL.out]; omega), List.all_nil] at hE
      subst hE
      go_wp2
      go_ret
      exact ⟨rfl, Below.then B1.out HB.out⟩
end Go.Proofs.Ytabbmnnohnfbeaa
