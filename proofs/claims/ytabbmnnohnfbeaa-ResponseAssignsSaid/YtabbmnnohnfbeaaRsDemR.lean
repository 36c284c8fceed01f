/- The contracts of blocking and demand of the reference. The conditions: the tasks read as named and are valid. -/
import Derived.Test.YtabbmnnohnfbeaaRsDemW
namespace Go.Proofs.Ytabbmnnohnfbeaa
open Go.RowKit
set_option linter.unusedSimpArgs false
set_option linter.unusedVariables false
theorem maxB_app (L : List Ta) (m : Int) (a b : List P2) : maxB L m (a ++ b) = maxB L (maxB L m a) b := by unfold maxB; rw [List.foldl_append]
set_option maxRecDepth 10000 in
set_option maxHeartbeats 4000000 in
theorem rblk_any (a : Option Addr) (n c q : Nat) (L : List Ta) (w : World) (hL : RdL w a n L) (hv : Right L) (hqn : q < n) :
    Calls Try.prog 111 #[.slice a n c, .int .i64 (q : Nat)] w fun e w' => e = .returned (.int .i64 (blockN L q)) ∧ Below w.heap.size w w' := by
  have hll := hL.length
  have hs := hL.small
  have HR := Lib.hid hL
  obtain ⟨R, hR⟩ : ∃ R, blockN L q = R := ⟨_, rfl⟩
  have HA : Hid (maxB L 0 (blkFrom L q (n - 0) 0) = R) := Lib.hid (by rw [← hR, blockN, blockL, hll]; rfl)
  have HCI : Hid (∀ l : Int, -1 ≤ ceilG L l ∧ ceilG L l < n) := Lib.hid (fun l => by have := isCeil L l; rw [hll] at this; exact ⟨this.lo, this.hi⟩)
  have HCP : Hid (∀ (k : Nat) (u : Ta) (j : Nat) (p : P2), L[k]? = some u → u.pcs[j]? = some p → 0 ≤ ceilG L p.2) := Lib.hid (fun k u j p hk hj => by
    have hc := isCeil L p.2
    rcases Int.lt_or_le (ceilG L p.2) 0 with h | h
    · exact absurd ⟨p, by rw [taAt_of hk]; exact List.mem_of_getElem? hj, rfl⟩ (hc.none_ h k (List.getElem?_eq_some_iff.1 hk).1)
    · exact h)
  rw [hR]
  clear hL hv hll hR
  go_enter Try.func111, Try.ntmps111
  go_wp2
  go_loopw [5, 6] (fun v i wr => ∃ (k : Nat) (s : Int), k ≤ n ∧ v = .int .i64 s ∧ i = .int .i64 k ∧ maxB L s (blkFrom L q (n - k) k) = R ∧ Below w.heap.size w wr) (fun _ i _ => n - (intOf i).toNat)
  case atStart => exact ⟨0, 0, Nat.zero_le _, rfl, rfl, HA.out, Below.refl _ _⟩
  case round =>
    clear HA
    obtain ⟨k, s, hk, rfl, rfl, he, hB⟩ := hrel
    have HE := Lib.hid he; have HB := Lib.hid hB
    clear he hB
    by_cases hlt : k < n
    · obtain ⟨u, b, off, pa, pn, pc, rfl, hb, c0, c1, c2, c3, c4, c5, hp, _, hg, HD⟩ := HR.out.at_ k hlt
      have hE := HE.out
      rw [show n - k = (n - (k + 1)) + 1 by omega, blkFrom_step, taAt_of hg] at hE
      have hps := hp.small
      have HPL := Lib.hid hp.length
      have HP := Lib.hid hp
      have HCK : Hid (∀ (j : Nat) (p : P2), u.pcs[j]? = some p → 0 ≤ ceilG L p.2) := Lib.hid (fun j p => HCP.out k u j p hg)
      have HTK : Hid (∀ (j : Nat) (p : P2), u.pcs[j]? = some p → ticksAt L ((k : Int), (j : Int)) = p.1) := Lib.hid (fun j p hj => by
        rw [ticksAt, taAt_of hg, Int.toNat_natCast, hj]; rfl)
      cases hq : aheadB L q k
      · rw [hq] at hE
        have HE2 : Hid (maxB L s (blkFrom L q (n - (k + 1)) (k + 1)) = R) := Lib.hid (by simpa using hE)
        have HQ := Lib.hid hq
        clear hg HD hp hE HE hq
        go_wp2
        go_loopw [5, 7] (fun v i wr' => v = .int .i64 s ∧ i = .int .i64 0 ∧ Below w.heap.size w wr') (fun _ i _ => 1 - (intOf i).toNat)
        case atStart => exact ⟨rfl, rfl, HB.out⟩
        case round =>
          obtain ⟨rfl, rfl, hB2⟩ := hrel
          have HB2 := Lib.hid hB2
          have d5 := (hB2.cell (p := ⟨b, off + k * 6 + 5, none⟩) hb).trans c5
          clear hB2
          by_cases hpn : 0 < pn
          · have hpn' : (0 : Int) < (pn : Int) := by omega
            go_wp2_with (go_at_call 59; (with_reducible refine (rahead_is (HR.out.ext HB2.out) ⟨by omega, by omega⟩ ⟨by omega, by omega⟩ HQ.out).mono ?_); rintro e w3 ⟨rfl, hb3⟩; have B3 := Lib.hid hb3; clear hb3)
            go_roundw
            case rel => exact ⟨k + 1, s, by omega, rfl, by go_num, HE2.out, Below.then HB2.out B3.out⟩
            case measure => simp [intOf]; omega
          · have hpn' : decide ((0 : Int) < (pn : Int)) = false := by simp; omega
            have hpn'' : decide (0 < pn) = false := by simp; omega
            go_wp2
            go_roundw
            case rel => exact ⟨k + 1, s, by omega, rfl, by go_num, HE2.out, HB2.out⟩
            case measure => simp [intOf]; omega
      · rw [hq] at hE
        have HE2 : Hid (maxB L s (blkP L q k 0 (u.pcs.drop 0) ++ blkFrom L q (n - (k + 1)) (k + 1)) = R) := Lib.hid (by simpa using hE)
        have HQ := Lib.hid hq
        clear hg HD hp hE HE hq
        go_wp2
        go_loopw [5, 7] (fun v i wr' => ∃ (j : Nat) (s : Int), j ≤ pn ∧ v = .int .i64 s ∧ i = .int .i64 j ∧ maxB L s (blkP L q k j (u.pcs.drop j) ++ blkFrom L q (n - (k + 1)) (k + 1)) = R ∧ Below w.heap.size w wr') (fun _ i _ => pn - (intOf i).toNat)
        case atStart => exact ⟨0, s, Nat.zero_le _, rfl, rfl, HE2.out, HB.out⟩
        case round =>
          clear HE2
          obtain ⟨j, s, hj, rfl, rfl, he, hB2⟩ := hrel
          have HE2 := Lib.hid he; have HB2 := Lib.hid hB2
          have d5 := (hB2.cell (p := ⟨b, off + k * 6 + 5, none⟩) hb).trans c5
          clear he hB2
          by_cases hjt : j < pn
          · obtain ⟨x, y, b1, off1, rfl, hbb, e2, e3, hpg, HD2⟩ := (HP.out.ext HB2.out).pc_at j hjt
            have hc0 := HCK.out j (x, y) hpg
            have hc1 := (HCI.out y).2
            have htk := HTK.out j (x, y) hpg
            have hE := HE2.out
            rw [HD2.out, blkP] at hE
            obtain ⟨cl, hcl⟩ : ∃ cl, ceilG L y = cl := ⟨_, rfl⟩
            simp only [] at hE hc0 htk
            rw [hcl] at hE hc0 hc1
            clear hpg HD2
            have HC := Lib.hid hcl
            clear hcl
            by_cases p1 : 0 ≤ y
            · cases hq2 : aheadB L q cl
              · rw [if_pos ⟨p1, hq2⟩, List.cons_append, maxB_cons, htk] at hE
                have HE3 := Lib.hid hE
                have HQ2 := Lib.hid hq2
                clear hE hq2 HE2 htk
                go_wp2_with (first
                  | (go_at_call 59; (with_reducible refine (rahead_is (HR.out.ext HB2.out) ⟨by omega, by omega⟩ ⟨by omega, by omega⟩ HQ.out).mono ?_); rintro e w3 ⟨rfl, hb3⟩; have B3 := Lib.hid hb3; have x5 := (hb3.cell (p := ⟨b, off + k * 6 + 5, none⟩) (Nat.lt_of_lt_of_le hb HB2.out.size)).trans d5; have x2 := (hb3.cell (p := ⟨b1, off1 + j * 2, none⟩) hbb).trans e2; have x3 := (hb3.cell (p := ⟨b1, off1 + j * 2 + 1, none⟩) hbb).trans e3; have hz3 := hb3.size; clear hb3)
                  | (go_at_call 104; (with_reducible refine (rCeil_is ((HR.out.ext HB2.out).ext (Below.alloc B3.out B3.out.size _)) HC.out).mono ?_); rintro e w4 ⟨rfl, hb4⟩; have B4 := Lib.hid hb4; have t0 := (hb4.cell (p := ⟨w3.heap.size, 0, none⟩) (by simp)).trans (show _ = some (.int .i64 x) by simp [go_sem]); have hz4 := hb4.size; simp only [World.size_alloc] at hz4; clear hb4)
                  | (go_at_call 59; (with_reducible refine (rahead_is (((HR.out.ext HB2.out).ext (Below.alloc B3.out B3.out.size _)).ext B4.out) ⟨by omega, by omega⟩ ⟨by omega, by omega⟩ HQ2.out).mono ?_); rintro e w5 ⟨rfl, hb5⟩; have B5 := Lib.hid hb5; have t1 := (hb5.cell (p := ⟨w3.heap.size, 0, none⟩) (by simp only []; omega)).trans t0; clear hb5))
                go_roundw
                case rel => exact ⟨j + 1, max s x, by omega, rfl, by go_num, HE3.out, Below.then (Below.then (Below.then HB2.out (Below.alloc B3.out B3.out.size _)) B4.out) B5.out⟩
                case measure => simp [intOf]; omega
              · rw [if_neg (by rw [hq2]; simp)] at hE
                have HE3 := Lib.hid hE
                have HQ2 := Lib.hid hq2
                clear hE hq2 HE2 htk
                go_wp2_with (first
                  | (go_at_call 59; (with_reducible refine (rahead_is (HR.out.ext HB2.out) ⟨by omega, by omega⟩ ⟨by omega, by omega⟩ HQ.out).mono ?_); rintro e w3 ⟨rfl, hb3⟩; have B3 := Lib.hid hb3; have x5 := (hb3.cell (p := ⟨b, off + k * 6 + 5, none⟩) (Nat.lt_of_lt_of_le hb HB2.out.size)).trans d5; have x2 := (hb3.cell (p := ⟨b1, off1 + j * 2, none⟩) hbb).trans e2; have x3 := (hb3.cell (p := ⟨b1, off1 + j * 2 + 1, none⟩) hbb).trans e3; have hz3 := hb3.size; clear hb3)
                  | (go_at_call 104; (with_reducible refine (rCeil_is ((HR.out.ext HB2.out).ext (Below.alloc B3.out B3.out.size _)) HC.out).mono ?_); rintro e w4 ⟨rfl, hb4⟩; have B4 := Lib.hid hb4; clear hb4)
                  | (go_at_call 59; (with_reducible refine (rahead_is (((HR.out.ext HB2.out).ext (Below.alloc B3.out B3.out.size _)).ext B4.out) ⟨by omega, by omega⟩ ⟨by omega, by omega⟩ HQ2.out).mono ?_); rintro e w5 ⟨rfl, hb5⟩; have B5 := Lib.hid hb5; clear hb5))
                go_roundw
                case rel => exact ⟨j + 1, s, by omega, rfl, by go_num, HE3.out, Below.then (Below.then (Below.then HB2.out (Below.alloc B3.out B3.out.size _)) B4.out) B5.out⟩
                case measure => simp [intOf]; omega
            · have p1' : decide (0 ≤ y) = false := by simpa using p1
              rw [if_neg (fun q => p1 q.1)] at hE
              have HE3 := Lib.hid hE
              clear hE HE2 htk
              go_wp2_with (go_at_call 59; (with_reducible refine (rahead_is (HR.out.ext HB2.out) ⟨by omega, by omega⟩ ⟨by omega, by omega⟩ HQ.out).mono ?_); rintro e w3 ⟨rfl, hb3⟩; have B3 := Lib.hid hb3; have x5 := (hb3.cell (p := ⟨b, off + k * 6 + 5, none⟩) (Nat.lt_of_lt_of_le hb HB2.out.size)).trans d5; have x2 := (hb3.cell (p := ⟨b1, off1 + j * 2, none⟩) hbb).trans e2; have x3 := (hb3.cell (p := ⟨b1, off1 + j * 2 + 1, none⟩) hbb).trans e3; have hz3 := hb3.size; clear hb3)
              go_roundw
              case rel => exact ⟨j + 1, s, by omega, rfl, by go_num, HE3.out, Below.then HB2.out (Below.alloc B3.out B3.out.size _)⟩
              case measure => simp [intOf]; omega
          · have hE := HE2.out
            rw [drop_end HPL.out (by omega), blkP, List.nil_append] at hE
            have HE3 := Lib.hid hE
            clear hE
            go_wp2
            go_roundw
            case rel => exact ⟨k + 1, s, by omega, rfl, by go_num, HE3.out, HB2.out⟩
            case measure => simp [intOf]; omega
    · have hE := HE.out
      rw [show n - k = 0 by omega, blkFrom] at hE
      obtain rfl : s = R := hE
      go_wp2
      go_ret
      exact ⟨rfl, HB.out⟩
theorem rblk_is {a : Option Addr} {n c q : Nat} {L : List Ta} {x : Int} {w : World} (hL : RdL w a n L) (hv : Right L) (hqn : q < n) (h : blockN L q = x) :
    Calls Try.prog 111 #[.slice a n c, .int .i64 (q : Nat)] w fun e w' => e = .returned (.int .i64 x) ∧ Below w.heap.size w w' := by subst h; exact rblk_any a n c q L w hL hv hqn
theorem aheadF_drop {L : List Ta} {n q j : Nat} (hj : j < n) : (((idxs n).drop j).filter (fun x => aheadB L x q)) = (if aheadB L j q = true then (j : Int) :: ((idxs n).drop (j + 1)).filter (fun x => aheadB L x q) else ((idxs n).drop (j + 1)).filter (fun x => aheadB L x q)) := by
  rw [idxs_drop hj, List.filter_cons]
set_option maxRecDepth 10000 in
set_option maxHeartbeats 4000000 in
theorem rdem_any (a : Option Addr) (n c q : Nat) (L : List Ta) (v : Int) (w : World) (hL : RdL w a n L) (hv : ValidT L) (hq : q < n) (h0 : 0 ≤ v ∧ v ≤ 1000000) :
    Calls Try.prog 71 #[.slice a n c, .int .i64 (q : Nat), .int .i64 v] w fun e w' => e = .returned (.int .i64 (demN L q v)) ∧ Below w.heap.size w w' := by
  have hll := hL.length
  have hs := hL.small
  have hn5 := hv.r.len
  rw [hll] at hn5
  have hown := ownN_bd hv.r (i := q) (by omega) (by omega)
  obtain ⟨R, hR⟩ : ∃ R, demN L q v = R := ⟨_, rfl⟩
  obtain ⟨ow, how⟩ : ∃ x, ownN L q = x := ⟨_, rfl⟩
  have HA : Hid (demL L v (((idxs n).drop 0).filter (fun x => aheadB L x q)) ow = R) := Lib.hid (by rw [← hR, ← how, demN, aheadL, hll]; rfl)
  have HBD : Hid (∀ (j : Nat) (x : Int), x ≤ demL L v (((idxs n).drop j).filter (fun y => aheadB L y q)) x ∧ demL L v (((idxs n).drop j).filter (fun y => aheadB L y q)) x ≤ x + 8080008000) := Lib.hid (fun j x => by
    have h1 := demL_bd hv h0 (((idxs n).drop j).filter (fun y => aheadB L y q)) x (fun k hk => by
      have := idxs_mem.1 (List.mem_of_mem_drop (List.mem_filter.1 hk).1)
      rw [hll]; exact this)
    have h2 : (((idxs n).drop j).filter (fun y => aheadB L y q)).length ≤ 5 := Nat.le_trans (List.length_filter_le _ _) (by rw [List.length_drop, idxs_len]; omega)
    have h3 : (1616001600 : Int) * ((((idxs n).drop j).filter (fun y => aheadB L y q)).length : Int) ≤ 1616001600 * 5 := Int.mul_le_mul_of_nonneg_left (by omega) (by omega)
    omega)
  have hRB : R ≤ 8080009800 := by have := (HBD.out 0 ow).2; rw [HA.out] at this; omega
  rw [how] at hown
  obtain ⟨u, b, off, pa, pn, pc, rfl, hb, hg, hpl, HK⟩ := hL.cells q hq
  have hum := List.mem_of_getElem? hg
  have hpn := hv.r.pcs u hum
  rw [hpl] at hpn
  have HPV : Hid (∀ p ∈ u.pcs, 1 ≤ p.1 ∧ p.1 ≤ 200) := Lib.hid (fun p hp => (hv.r.piece u hum p hp).1)
  obtain ⟨cu, hcu⟩ : ∃ x, costT u = x := ⟨_, rfl⟩
  obtain ⟨bn, hbn⟩ : ∃ x, blockN L q = x := ⟨_, rfl⟩
  have hsum : cu + bn = ow := by rw [← how, ownN, taAt_of hg, hcu, hbn]
  have hcb := costT_bd hv.r hum
  have hbb := blockN_bd hv.r q
  rw [hcu] at hcb
  rw [hbn] at hbb
  have HCU := Lib.hid hcu
  have HBN := Lib.hid hbn
  have HV := Lib.hid hv
  have HR := Lib.hid hL
  have HLL := Lib.hid hll
  obtain ⟨k0, k1, k2, k3, k4, k5, hbw, hpp⟩ := HK.out w (Below.refl _ _)
  have HPP := Lib.hid hpp
  rw [hR]
  clear hL hv hll hR how hcu hbn hum hg hpp hpl
  go_enter Try.func71, Try.ntmps71
  go_wp2_with (first
    | (go_at_call 60; (with_reducible refine (rcost_is HPP.out HPV.out hpn.2 HCU.out).mono ?_); rintro e w1 ⟨rfl, hb1⟩; have B1 := Lib.hid hb1; clear hb1)
    | (go_at_call 111; (with_reducible refine (rblk_is (HR.out.ext B1.out) HV.out.r hq HBN.out).mono ?_); rintro e w2 ⟨rfl, hb2⟩; have B2 := Lib.hid hb2; clear hb2))
  clear k0 k1 k2 k3 k4 k5 HPP HPV HK
  have HB0 : Hid (Below w.heap.size w w2) := Lib.hid (Below.then B1.out B2.out)
  go_loopw [7, 8] (fun u i wr => ∃ (k : Nat) (s : Int), k ≤ n ∧ u = .int .i64 s ∧ i = .int .i64 k ∧ 0 ≤ s ∧ demL L v (((idxs n).drop k).filter (fun x => aheadB L x q)) s = R ∧ Below w.heap.size w wr) (fun _ i _ => n - (intOf i).toNat)
  case atStart => exact ⟨0, ow, Nat.zero_le _, rfl, rfl, by omega, HA.out, HB0.out⟩
  case round =>
    clear HA HB0 B1 B2
    obtain ⟨k, s, hk, rfl, rfl, hs0, he, hB⟩ := hrel
    have HE := Lib.hid he; have HB := Lib.hid hB
    clear he hB
    by_cases hlt : k < n
    · obtain ⟨t, b', off', pa, pn, pc, e3, hb2, hg, hpl, HK⟩ := HR.out.cells k hlt
      simp at e3
      obtain ⟨rfl, rfl⟩ := e3
      have hum := List.mem_of_getElem? hg
      have hpn := HV.out.r.pcs t hum
      rw [hpl] at hpn
      have HPV : Hid (∀ p ∈ t.pcs, 1 ≤ p.1 ∧ p.1 ≤ 200) := Lib.hid (fun p hp => (HV.out.r.piece t hum p hp).1)
      have HVP := Lib.hid (HV.out.vp t hum)
      have hE := HE.out
      rw [aheadF_drop hlt] at hE
      cases hq2 : aheadB L k q
      · rw [hq2] at hE
        have HE2 : Hid (demL L v (((idxs n).drop (k + 1)).filter (fun x => aheadB L x q)) s = R) := Lib.hid (by simpa using hE)
        have HQ := Lib.hid hq2
        clear hE hq2 hg hum hpl
        go_wp2_with (go_at_call 59; (with_reducible refine (rahead_is (HR.out.ext HB.out) ⟨by omega, by omega⟩ ⟨by omega, by omega⟩ HQ.out).mono ?_); rintro e w3 ⟨rfl, hb3⟩; have B3 := Lib.hid hb3; clear hb3)
        go_roundw
        case rel => exact ⟨k + 1, s, by omega, rfl, by go_num, hs0, HE2.out, (by repeat (first | (with_reducible exact Below.refl _ _) | (refine Below.then ?_ (Hid.out (by with_reducible assumption)))))⟩
        case measure => simp [intOf]; omega
      · obtain ⟨mo, hmo⟩ : ∃ x, mostN t.gap t.jit v = x := ⟨_, rfl⟩
        obtain ⟨ct, hct⟩ : ∃ x, costT t = x := ⟨_, rfl⟩
        have hmb := mostN_bd (HV.out.gap t hum).1 (HV.out.jit t hum) h0
        have hcb2 := costT_bd HV.out.r hum
        have hdb := demT_bd HV.out hum h0
        have hd2 : demT t v = mo * ct := by rw [demT, hmo, hct]
        rw [hd2] at hdb
        rw [hmo] at hmb
        rw [hct] at hcb2
        have HMO := Lib.hid hmo
        have HCT := Lib.hid hct
        rw [hq2, if_pos rfl, demL_cons, taAt_of hg, hd2] at hE
        have HE2 := Lib.hid hE
        have hsb := (HBD.out (k + 1) (s + mo * ct)).1
        rw [hE] at hsb
        have HQ := Lib.hid hq2
        clear hE hq2 hg hum hpl hd2 hmo hct
        go_wp2_with (first
          | (go_at_call 59; (with_reducible refine (rahead_is (HR.out.ext HB.out) ⟨by omega, by omega⟩ ⟨by omega, by omega⟩ HQ.out).mono ?_); rintro e w3 ⟨rfl, hb3⟩; have B3 := Lib.hid hb3; obtain ⟨j0, j1, j2, j3, j4, j5, hbw3, hpp3⟩ := HK.out w3 (Below.then HB.out hb3); clear hb3 hpp3)
          | (go_at_call 112; (with_reducible refine (rmost_is HVP.out h0 HMO.out).mono ?_); rintro e w4 ⟨rfl, hb4⟩; have B4 := Lib.hid hb4; obtain ⟨m0, m1, m2, m3, m4, m5, hbw4, hpp4⟩ := HK.out w4 (by repeat (first | (with_reducible exact Below.refl _ _) | (refine Below.then ?_ (Hid.out (by with_reducible assumption))))); have HPP := Lib.hid hpp4; clear hb4 hpp4)
          | (go_at_call 60; (with_reducible refine (rcost_is HPP.out HPV.out hpn.2 HCT.out).mono ?_); rintro e w5 ⟨rfl, hb5⟩; have B5 := Lib.hid hb5; clear hb5))
        go_roundw
        case rel => exact ⟨k + 1, s + mo * ct, by omega, by go_num, by go_num, by omega, HE2.out, (by repeat (first | (with_reducible exact Below.refl _ _) | (refine Below.then ?_ (Hid.out (by with_reducible assumption)))))⟩
        case measure => simp [intOf]; omega
    · have hE := HE.out
      rw [List.drop_of_length_le (by rw [idxs_len]; omega)] at hE
      obtain rfl : s = R := hE
      go_wp2
      go_ret
      exact ⟨rfl, HB.out⟩
theorem rdem_is {a : Option Addr} {n c q : Nat} {L : List Ta} {v x : Int} {w : World} (hL : RdL w a n L) (hv : ValidT L) (hq : q < n) (h0 : 0 ≤ v ∧ v ≤ 1000000) (h : demN L q v = x) :
    Calls Try.prog 71 #[.slice a n c, .int .i64 (q : Nat), .int .i64 v] w fun e w' => e = .returned (.int .i64 x) ∧ Below w.heap.size w w' := by subst h; exact rdem_any a n c q L v w hL hv hq h0
end Go.Proofs.Ytabbmnnohnfbeaa
