/- The contracts of the reference up to accepted, at tasks whose pieces have up to 400 ticks. The conditions: the tasks read as named. Printed by mklong.py out of the texts for valid tasks. -/
import Derived.Test.YtabbmnnohnfbeaaRsAcc
namespace Go.Proofs.Ytabbmnnohnfbeaa
open Go.RowKit
set_option linter.unusedSimpArgs false
set_option linter.unusedVariables false
structure Right4 (L : List Ta) : Prop where
  len : L.length ≤ 5
  pcs : ∀ t ∈ L, 1 ≤ t.pcs.length ∧ t.pcs.length ≤ 8
  piece : ∀ t ∈ L, ∀ p ∈ t.pcs, (1 ≤ p.1 ∧ p.1 ≤ 400) ∧ (-1 ≤ p.2 ∧ p.2 ≤ 5)
structure ValidT4 (L : List Ta) : Prop where
  r : Right4 L
  first : ∀ t ∈ L, 0 ≤ t.first ∧ t.first ≤ 10000
  gap : ∀ t ∈ L, 1 ≤ t.gap ∧ t.gap ≤ 10000
  jit : ∀ t ∈ L, 0 ≤ t.jit ∧ t.jit ≤ 10000
  dl : ∀ t ∈ L, 1 ≤ t.dl ∧ t.dl ≤ t.gap
  vp : ∀ t ∈ L, vpat t.first t.gap t.jit = true
theorem costP_bd4 : ∀ (ps : List P2), (∀ p ∈ ps, 1 ≤ p.1 ∧ p.1 ≤ 400) → (ps.length : Int) ≤ costP ps ∧ costP ps ≤ 400 * ps.length
  | [], _ => by simp [costP]
  | p :: ps, h => by
    have h1 := costP_bd4 ps (fun q hq => h q (by simp [hq]))
    have h2 := h p (by simp)
    rw [costP, List.length_cons]
    omega
theorem costT_bd4 {L : List Ta} (hv : Right4 L) {t : Ta} (h : t ∈ L) : 1 ≤ costT t ∧ costT t ≤ 3200 := by
  have := costP_bd4 t.pcs (fun p hp => (hv.piece t h p hp).1)
  have := hv.pcs t h
  unfold costT; omega
set_option maxHeartbeats 1000000 in
theorem rcost_any4 (p d fi ga ji : Int) (pa : Option Addr) (pn pc : Nat) (ps : List P2) (w : World) (hp : Rd w pa pn 2 (ps.map enc2)) (hv : ∀ q ∈ ps, 1 ≤ q.1 ∧ q.1 ≤ 400) (hn : pn ≤ 8) :
    Calls Try.prog 60 #[.agg #[.int .i64 p, .int .i64 d, .int .i64 fi, .int .i64 ga, .int .i64 ji, .slice pa pn pc]] w fun e w' => e = .returned (.int .i64 (costP ps)) ∧ Below w.heap.size w w' := by
  have hb := costP_bd4 ps hv
  have hl := hp.length
  rw [hl] at hb
  obtain ⟨R, hR⟩ : ∃ R, costP ps = R := ⟨_, rfl⟩
  have HA : Hid (0 + costP (ps.drop 0) = R) := Lib.hid (by rw [Int.zero_add]; exact hR)
  have HQ : Hid (∀ k : Nat, 0 ≤ costP (ps.drop k)) := Lib.hid (fun k => by
    have := costP_bd4 (ps.drop k) (fun q hq => hv q (List.mem_of_mem_drop hq))
    omega)
  rw [hR] at hb ⊢
  have hps := hp.small
  have HP := Lib.hid (hp.ext (Below.alloc (Below.refl _ _) (Nat.le_refl _) (.cells #[.int .i64 p, .int .i64 d, .int .i64 fi, .int .i64 ga, .int .i64 ji, .slice pa pn pc] 52)))
  have HL := Lib.hid hl
  have HV := Lib.hid hv
  clear hp hl hR hv
  go_enter Try.func60, Try.ntmps60
  go_wp2
  go_loop [3, 4] (fun v i => ∃ (k : Nat) (m : Int), k ≤ pn ∧ v = .int .i64 m ∧ i = .int .i64 k ∧ 0 ≤ m ∧ m + costP (ps.drop k) = R) (fun _ i => pn - (intOf i).toNat)
  case atStart => exact ⟨0, 0, Nat.zero_le _, rfl, rfl, by omega, HA.out⟩
  case round =>
    clear HA
    obtain ⟨k, m, hk, rfl, rfl, hm, he⟩ := hrel
    have HE := Lib.hid he
    clear he
    by_cases hlt : k < pn
    · obtain ⟨x, y, b, off, rfl, hbb, e1, e2, hpg, HD⟩ := HP.out.pc_at k hlt
      have hE := HE.out
      rw [costP_drop hpg] at hE
      have hx := HV.out (x, y) (List.mem_of_getElem? hpg)
      have hr := HQ.out (k + 1)
      simp only [] at hE hx
      have HE2 : Hid (m + x + costP (ps.drop (k + 1)) = R) := Lib.hid (by omega)
      have hmx : m + x ≤ 3200 := by omega
      clear hpg HD hE
      go_wp2
      go_round
      case rel => exact ⟨k + 1, m + x, by omega, rfl, by go_num, by omega, HE2.out⟩
      case measure => simp [intOf]; omega
    · have hE := HE.out
      rw [drop_end HL.out (by omega), costP, Int.add_zero] at hE
      subst hE
      go_wp2
      go_ret
      exact ⟨rfl, by (repeat' (first | (with_reducible exact Below.refl _ _) | (with_reducible assumption) | (with_reducible refine Below.alloc ?_ ?_ _) | (with_reducible refine Below.drew ?_) | (with_reducible refine Below.draws ?_ _) | (with_reducible refine Below.setCell ?_ ?_ _) | (refine Below.then ?_ (by with_reducible assumption)) | go_size))⟩
theorem rcost_is4 {t : Ta} {pa : Option Addr} {pn pc : Nat} {x : Int} {w : World} (hp : Rd w pa pn 2 (t.pcs.map enc2)) (hv : ∀ q ∈ t.pcs, 1 ≤ q.1 ∧ q.1 ≤ 400) (hn : pn ≤ 8) (h : costT t = x) :
    Calls Try.prog 60 #[.agg #[.int .i64 t.pri, .int .i64 t.dl, .int .i64 t.first, .int .i64 t.gap, .int .i64 t.jit, .slice pa pn pc]] w fun e w' => e = .returned (.int .i64 x) ∧ Below w.heap.size w w' := by
  subst h; exact rcost_any4 _ _ _ _ _ pa pn pc t.pcs w hp hv hn
theorem demT_bd4 {L : List Ta} (hv : ValidT4 L) {t : Ta} (ht : t ∈ L) {w : Int} (h0 : 0 ≤ w ∧ w ≤ 1000000) : 0 ≤ demT t w ∧ demT t w ≤ 3232003200 := by
  have h1 := mostN_bd (hv.gap t ht).1 (hv.jit t ht) h0
  have h2 := costT_bd4 hv.r ht
  unfold demT
  constructor
  · exact Int.mul_nonneg h1.1 (by omega)
  · have := Int.mul_le_mul h1.2 h2.2 (by omega) (by omega)
    omega
theorem demL_bd4 {L : List Ta} (hv : ValidT4 L) {w : Int} (h0 : 0 ≤ w ∧ w ≤ 1000000) : ∀ (ks : List Int) (n : Int), (∀ k ∈ ks, 0 ≤ k ∧ k < L.length) → n ≤ demL L w ks n ∧ demL L w ks n ≤ n + 3232003200 * ks.length
  | [], n, _ => by simp [demL]
  | k :: ks, n, hk => by
    have h1 := hk k (by simp)
    have h2 := demT_bd4 hv (taAt_mem' h1.1 h1.2) h0
    have h3 := demL_bd4 hv h0 ks (n + demT (taAt L k) w) (fun j hj => hk j (by simp [hj]))
    have e : demL L w (k :: ks) n = demL L w ks (n + demT (taAt L k) w) := rfl
    rw [e, List.length_cons]
    omega
theorem blockN_bd4 {L : List Ta} (hv : Right4 L) (t : Int) : 0 ≤ blockN L t ∧ blockN L t ≤ 400 := by
  have key : ∀ (bs : List P2) (m : Int), (∀ b ∈ bs, IsBlk L t b) → 0 ≤ m ∧ m ≤ 400 → 0 ≤ bs.foldl (fun m b => max m (ticksAt L b)) m ∧ bs.foldl (fun m b => max m (ticksAt L b)) m ≤ 400 := by
    intro bs
    induction bs with
    | nil => intro m _ h; exact h
    | cons b bs ih =>
      intro m hb h
      have h1 := hb b (by simp)
      have h2 : 1 ≤ ticksAt L b ∧ ticksAt L b ≤ 400 := by
        have hm := taAt_mem' h1.j0 h1.j1
        have hk := h1.k1
        have hk0 := h1.k0
        have e : (taAt L b.1).pcs[b.2.toNat]? = some ((taAt L b.1).pcs[b.2.toNat]'(by omega)) := List.getElem?_eq_getElem (by omega)
        have := (hv.piece _ hm _ (List.mem_of_getElem? e)).1
        rw [ticksAt, e]; exact this
      refine ih _ (fun c hc => hb c (by simp [hc])) ?_
      show 0 ≤ max m (ticksAt L b) ∧ max m (ticksAt L b) ≤ 400
      omega
  exact key _ 0 (fun b hb => blockL_mem hb) (by omega)
theorem ownN_bd4 {L : List Ta} (hv : Right4 L) {i : Int} (h0 : 0 ≤ i) (h1 : i < L.length) : 1 ≤ ownN L i ∧ ownN L i ≤ 3600 := by
  have := blockN_bd4 hv i
  have := costT_bd4 hv (taAt_mem' h0 h1)
  unfold ownN; omega
set_option maxRecDepth 10000 in
set_option maxHeartbeats 4000000 in
theorem rblk_any4 (a : Option Addr) (n c q : Nat) (L : List Ta) (w : World) (hL : RdL w a n L) (hv : Right4 L) (hqn : q < n) :
    Calls Try.prog 111 #[.slice a n c, .int .i64 (q : Nat)] w fun e w' => e = .returned (.int .i64 (blockN L q)) ∧ Below w.heap.size w w' := by
  have hll := hL.length
  have hs := hL.small
  have HR := Lib.hid hL
  obtain ⟨R, hR⟩ : ∃ R, blockN L q = R := ⟨_, rfl⟩
  have HA : Hid (maxB L 0 (blkFrom L q (n - 0) 0) = R) := Lib.hid (by rw [← hR, blockN, blockL, hll]; rfl)
  have HCI : Hid (∀ l : Int, -1 ≤ ceilG L l ∧ ceilG L l < n) := Lib.hid (fun l => by have := isCeil L l; rw [hll] at this; exact ⟨this.lo, this.hi⟩)
  have HCP : Hid (∀ (k : Nat) (u : Ta) (j : Nat) (p : P2), L[k]? = some u → u.pcs[j]? = some p → 0 ≤ ceilG L p.2) := Lib.hid (fun k u j p hk hj => by
    have hc := isCeil L p.2
    rcases Int.lt_or_le (ceilG L p.2) 0 with h | h
    · exact absurd ⟨p, by rw [taAt_of hk]; exact List.mem_of_getElem? hj, rfl⟩ (hc.none_ h k (List.getElem?_eq_some_iff.1 hk).1)
    · exact h)
  rw [hR]
  clear hL hv hll hR
  go_enter Try.func111, Try.ntmps111
  go_wp2
  go_loopw [5, 6] (fun v i wr => ∃ (k : Nat) (s : Int), k ≤ n ∧ v = .int .i64 s ∧ i = .int .i64 k ∧ maxB L s (blkFrom L q (n - k) k) = R ∧ Below w.heap.size w wr) (fun _ i _ => n - (intOf i).toNat)
  case atStart => exact ⟨0, 0, Nat.zero_le _, rfl, rfl, HA.out, Below.refl _ _⟩
  case round =>
    clear HA
    obtain ⟨k, s, hk, rfl, rfl, he, hB⟩ := hrel
    have HE := Lib.hid he; have HB := Lib.hid hB
    clear he hB
    by_cases hlt : k < n
    · obtain ⟨u, b, off, pa, pn, pc, rfl, hb, c0, c1, c2, c3, c4, c5, hp, _, hg, HD⟩ := HR.out.at_ k hlt
      have hE := HE.out
      rw [show n - k = (n - (k + 1)) + 1 by omega, blkFrom_step, taAt_of hg] at hE
      have hps := hp.small
      have HPL := Lib.hid hp.length
      have HP := Lib.hid hp
      have HCK : Hid (∀ (j : Nat) (p : P2), u.pcs[j]? = some p → 0 ≤ ceilG L p.2) := Lib.hid (fun j p => HCP.out k u j p hg)
      have HTK : Hid (∀ (j : Nat) (p : P2), u.pcs[j]? = some p → ticksAt L ((k : Int), (j : Int)) = p.1) := Lib.hid (fun j p hj => by
        rw [ticksAt, taAt_of hg, Int.toNat_natCast, hj]; rfl)
      cases hq : aheadB L q k
      · rw [hq] at hE
        have HE2 : Hid (maxB L s (blkFrom L q (n - (k + 1)) (k + 1)) = R) := Lib.hid (by simpa using hE)
        have HQ := Lib.hid hq
        clear hg HD hp hE HE hq
        go_wp2
        go_loopw [5, 7] (fun v i wr' => v = .int .i64 s ∧ i = .int .i64 0 ∧ Below w.heap.size w wr') (fun _ i _ => 1 - (intOf i).toNat)
        case atStart => exact ⟨rfl, rfl, HB.out⟩
        case round =>
          obtain ⟨rfl, rfl, hB2⟩ := hrel
          have HB2 := Lib.hid hB2
          have d5 := (hB2.cell (p := ⟨b, off + k * 6 + 5, none⟩) hb).trans c5
          clear hB2
          by_cases hpn : 0 < pn
          · have hpn' : (0 : Int) < (pn : Int) := by omega
            go_wp2_with (go_at_call 59; (with_reducible refine (rahead_is (HR.out.ext HB2.out) ⟨by omega, by omega⟩ ⟨by omega, by omega⟩ HQ.out).mono ?_); rintro e w3 ⟨rfl, hb3⟩; have B3 := Lib.hid hb3; clear hb3)
            go_roundw
            case rel => exact ⟨k + 1, s, by omega, rfl, by go_num, HE2.out, Below.then HB2.out B3.out⟩
            case measure => simp [intOf]; omega
          · have hpn' : decide ((0 : Int) < (pn : Int)) = false := by simp; omega
            have hpn'' : decide (0 < pn) = false := by simp; omega
            go_wp2
            go_roundw
            case rel => exact ⟨k + 1, s, by omega, rfl, by go_num, HE2.out, HB2.out⟩
            case measure => simp [intOf]; omega
      · rw [hq] at hE
        have HE2 : Hid (maxB L s (blkP L q k 0 (u.pcs.drop 0) ++ blkFrom L q (n - (k + 1)) (k + 1)) = R) := Lib.hid (by simpa using hE)
        have HQ := Lib.hid hq
        clear hg HD hp hE HE hq
        go_wp2
        go_loopw [5, 7] (fun v i wr' => ∃ (j : Nat) (s : Int), j ≤ pn ∧ v = .int .i64 s ∧ i = .int .i64 j ∧ maxB L s (blkP L q k j (u.pcs.drop j) ++ blkFrom L q (n - (k + 1)) (k + 1)) = R ∧ Below w.heap.size w wr') (fun _ i _ => pn - (intOf i).toNat)
        case atStart => exact ⟨0, s, Nat.zero_le _, rfl, rfl, HE2.out, HB.out⟩
        case round =>
          clear HE2
          obtain ⟨j, s, hj, rfl, rfl, he, hB2⟩ := hrel
          have HE2 := Lib.hid he; have HB2 := Lib.hid hB2
          have d5 := (hB2.cell (p := ⟨b, off + k * 6 + 5, none⟩) hb).trans c5
          clear he hB2
          by_cases hjt : j < pn
          · obtain ⟨x, y, b1, off1, rfl, hbb, e2, e3, hpg, HD2⟩ := (HP.out.ext HB2.out).pc_at j hjt
            have hc0 := HCK.out j (x, y) hpg
            have hc1 := (HCI.out y).2
            have htk := HTK.out j (x, y) hpg
            have hE := HE2.out
            rw [HD2.out, blkP] at hE
            obtain ⟨cl, hcl⟩ : ∃ cl, ceilG L y = cl := ⟨_, rfl⟩
            simp only [] at hE hc0 htk
            rw [hcl] at hE hc0 hc1
            clear hpg HD2
            have HC := Lib.hid hcl
            clear hcl
            by_cases p1 : 0 ≤ y
            · cases hq2 : aheadB L q cl
              · rw [if_pos ⟨p1, hq2⟩, List.cons_append, maxB_cons, htk] at hE
                have HE3 := Lib.hid hE
                have HQ2 := Lib.hid hq2
                clear hE hq2 HE2 htk
                go_wp2_with (first
                  | (go_at_call 59; (with_reducible refine (rahead_is (HR.out.ext HB2.out) ⟨by omega, by omega⟩ ⟨by omega, by omega⟩ HQ.out).mono ?_); rintro e w3 ⟨rfl, hb3⟩; have B3 := Lib.hid hb3; have x5 := (hb3.cell (p := ⟨b, off + k * 6 + 5, none⟩) (Nat.lt_of_lt_of_le hb HB2.out.size)).trans d5; have x2 := (hb3.cell (p := ⟨b1, off1 + j * 2, none⟩) hbb).trans e2; have x3 := (hb3.cell (p := ⟨b1, off1 + j * 2 + 1, none⟩) hbb).trans e3; have hz3 := hb3.size; clear hb3)
                  | (go_at_call 104; (with_reducible refine (rCeil_is ((HR.out.ext HB2.out).ext (Below.alloc B3.out B3.out.size _)) HC.out).mono ?_); rintro e w4 ⟨rfl, hb4⟩; have B4 := Lib.hid hb4; have t0 := (hb4.cell (p := ⟨w3.heap.size, 0, none⟩) (by simp)).trans (show _ = some (.int .i64 x) by simp [go_sem]); have hz4 := hb4.size; simp only [World.size_alloc] at hz4; clear hb4)
                  | (go_at_call 59; (with_reducible refine (rahead_is (((HR.out.ext HB2.out).ext (Below.alloc B3.out B3.out.size _)).ext B4.out) ⟨by omega, by omega⟩ ⟨by omega, by omega⟩ HQ2.out).mono ?_); rintro e w5 ⟨rfl, hb5⟩; have B5 := Lib.hid hb5; have t1 := (hb5.cell (p := ⟨w3.heap.size, 0, none⟩) (by simp only []; omega)).trans t0; clear hb5))
                go_roundw
                case rel => exact ⟨j + 1, max s x, by omega, rfl, by go_num, HE3.out, Below.then (Below.then (Below.then HB2.out (Below.alloc B3.out B3.out.size _)) B4.out) B5.out⟩
                case measure => simp [intOf]; omega
              · rw [if_neg (by rw [hq2]; simp)] at hE
                have HE3 := Lib.hid hE
                have HQ2 := Lib.hid hq2
                clear hE hq2 HE2 htk
                go_wp2_with (first
                  | (go_at_call 59; (with_reducible refine (rahead_is (HR.out.ext HB2.out) ⟨by omega, by omega⟩ ⟨by omega, by omega⟩ HQ.out).mono ?_); rintro e w3 ⟨rfl, hb3⟩; have B3 := Lib.hid hb3; have x5 := (hb3.cell (p := ⟨b, off + k * 6 + 5, none⟩) (Nat.lt_of_lt_of_le hb HB2.out.size)).trans d5; have x2 := (hb3.cell (p := ⟨b1, off1 + j * 2, none⟩) hbb).trans e2; have x3 := (hb3.cell (p := ⟨b1, off1 + j * 2 + 1, none⟩) hbb).trans e3; have hz3 := hb3.size; clear hb3)
                  | (go_at_call 104; (with_reducible refine (rCeil_is ((HR.out.ext HB2.out).ext (Below.alloc B3.out B3.out.size _)) HC.out).mono ?_); rintro e w4 ⟨rfl, hb4⟩; have B4 := Lib.hid hb4; clear hb4)
                  | (go_at_call 59; (with_reducible refine (rahead_is (((HR.out.ext HB2.out).ext (Below.alloc B3.out B3.out.size _)).ext B4.out) ⟨by omega, by omega⟩ ⟨by omega, by omega⟩ HQ2.out).mono ?_); rintro e w5 ⟨rfl, hb5⟩; have B5 := Lib.hid hb5; clear hb5))
                go_roundw
                case rel => exact ⟨j + 1, s, by omega, rfl, by go_num, HE3.out, Below.then (Below.then (Below.then HB2.out (Below.alloc B3.out B3.out.size _)) B4.out) B5.out⟩
                case measure => simp [intOf]; omega
            · have p1' : decide (0 ≤ y) = false := by simpa using p1
              rw [if_neg (fun q => p1 q.1)] at hE
              have HE3 := Lib.hid hE
              clear hE HE2 htk
              go_wp2_with (go_at_call 59; (with_reducible refine (rahead_is (HR.out.ext HB2.out) ⟨by omega, by omega⟩ ⟨by omega, by omega⟩ HQ.out).mono ?_); rintro e w3 ⟨rfl, hb3⟩; have B3 := Lib.hid hb3; have x5 := (hb3.cell (p := ⟨b, off + k * 6 + 5, none⟩) (Nat.lt_of_lt_of_le hb HB2.out.size)).trans d5; have x2 := (hb3.cell (p := ⟨b1, off1 + j * 2, none⟩) hbb).trans e2; have x3 := (hb3.cell (p := ⟨b1, off1 + j * 2 + 1, none⟩) hbb).trans e3; have hz3 := hb3.size; clear hb3)
              go_roundw
              case rel => exact ⟨j + 1, s, by omega, rfl, by go_num, HE3.out, Below.then HB2.out (Below.alloc B3.out B3.out.size _)⟩
              case measure => simp [intOf]; omega
          · have hE := HE2.out
            rw [drop_end HPL.out (by omega), blkP, List.nil_append] at hE
            have HE3 := Lib.hid hE
            clear hE
            go_wp2
            go_roundw
            case rel => exact ⟨k + 1, s, by omega, rfl, by go_num, HE3.out, HB2.out⟩
            case measure => simp [intOf]; omega
    · have hE := HE.out
      rw [show n - k = 0 by omega, blkFrom] at hE
      obtain rfl : s = R := hE
      go_wp2
      go_ret
      exact ⟨rfl, HB.out⟩
theorem rblk_is4 {a : Option Addr} {n c q : Nat} {L : List Ta} {x : Int} {w : World} (hL : RdL w a n L) (hv : Right4 L) (hqn : q < n) (h : blockN L q = x) :
    Calls Try.prog 111 #[.slice a n c, .int .i64 (q : Nat)] w fun e w' => e = .returned (.int .i64 x) ∧ Below w.heap.size w w' := by subst h; exact rblk_any4 a n c q L w hL hv hqn
set_option maxRecDepth 10000 in
set_option maxHeartbeats 4000000 in
theorem rdem_any4 (a : Option Addr) (n c q : Nat) (L : List Ta) (v : Int) (w : World) (hL : RdL w a n L) (hv : ValidT4 L) (hq : q < n) (h0 : 0 ≤ v ∧ v ≤ 1000000) :
    Calls Try.prog 71 #[.slice a n c, .int .i64 (q : Nat), .int .i64 v] w fun e w' => e = .returned (.int .i64 (demN L q v)) ∧ Below w.heap.size w w' := by
  have hll := hL.length
  have hs := hL.small
  have hn5 := hv.r.len
  rw [hll] at hn5
  have hown := ownN_bd4 hv.r (i := q) (by omega) (by omega)
  obtain ⟨R, hR⟩ : ∃ R, demN L q v = R := ⟨_, rfl⟩
  obtain ⟨ow, how⟩ : ∃ x, ownN L q = x := ⟨_, rfl⟩
  have HA : Hid (demL L v (((idxs n).drop 0).filter (fun x => aheadB L x q)) ow = R) := Lib.hid (by rw [← hR, ← how, demN, aheadL, hll]; rfl)
  have HBD : Hid (∀ (j : Nat) (x : Int), x ≤ demL L v (((idxs n).drop j).filter (fun y => aheadB L y q)) x ∧ demL L v (((idxs n).drop j).filter (fun y => aheadB L y q)) x ≤ x + 16160016000) := Lib.hid (fun j x => by
    have h1 := demL_bd4 hv h0 (((idxs n).drop j).filter (fun y => aheadB L y q)) x (fun k hk => by
      have := idxs_mem.1 (List.mem_of_mem_drop (List.mem_filter.1 hk).1)
      rw [hll]; exact this)
    have h2 : (((idxs n).drop j).filter (fun y => aheadB L y q)).length ≤ 5 := Nat.le_trans (List.length_filter_le _ _) (by rw [List.length_drop, idxs_len]; omega)
    have h3 : (3232003200 : Int) * ((((idxs n).drop j).filter (fun y => aheadB L y q)).length : Int) ≤ 3232003200 * 5 := Int.mul_le_mul_of_nonneg_left (by omega) (by omega)
    omega)
  have hRB : R ≤ 16160019600 := by have := (HBD.out 0 ow).2; rw [HA.out] at this; omega
  rw [how] at hown
  obtain ⟨u, b, off, pa, pn, pc, rfl, hb, hg, hpl, HK⟩ := hL.cells q hq
  have hum := List.mem_of_getElem? hg
  have hpn := hv.r.pcs u hum
  rw [hpl] at hpn
  have HPV : Hid (∀ p ∈ u.pcs, 1 ≤ p.1 ∧ p.1 ≤ 400) := Lib.hid (fun p hp => (hv.r.piece u hum p hp).1)
  obtain ⟨cu, hcu⟩ : ∃ x, costT u = x := ⟨_, rfl⟩
  obtain ⟨bn, hbn⟩ : ∃ x, blockN L q = x := ⟨_, rfl⟩
  have hsum : cu + bn = ow := by rw [← how, ownN, taAt_of hg, hcu, hbn]
  have hcb := costT_bd4 hv.r hum
  have hbb := blockN_bd4 hv.r q
  rw [hcu] at hcb
  rw [hbn] at hbb
  have HCU := Lib.hid hcu
  have HBN := Lib.hid hbn
  have HV := Lib.hid hv
  have HR := Lib.hid hL
  have HLL := Lib.hid hll
  obtain ⟨k0, k1, k2, k3, k4, k5, hbw, hpp⟩ := HK.out w (Below.refl _ _)
  have HPP := Lib.hid hpp
  rw [hR]
  clear hL hv hll hR how hcu hbn hum hg hpp hpl
  go_enter Try.func71, Try.ntmps71
  go_wp2_with (first
    | (go_at_call 60; (with_reducible refine (rcost_is4 HPP.out HPV.out hpn.2 HCU.out).mono ?_); rintro e w1 ⟨rfl, hb1⟩; have B1 := Lib.hid hb1; clear hb1)
    | (go_at_call 111; (with_reducible refine (rblk_is4 (HR.out.ext B1.out) HV.out.r hq HBN.out).mono ?_); rintro e w2 ⟨rfl, hb2⟩; have B2 := Lib.hid hb2; clear hb2))
  clear k0 k1 k2 k3 k4 k5 HPP HPV HK
  have HB0 : Hid (Below w.heap.size w w2) := Lib.hid (Below.then B1.out B2.out)
  go_loopw [7, 8] (fun u i wr => ∃ (k : Nat) (s : Int), k ≤ n ∧ u = .int .i64 s ∧ i = .int .i64 k ∧ 0 ≤ s ∧ demL L v (((idxs n).drop k).filter (fun x => aheadB L x q)) s = R ∧ Below w.heap.size w wr) (fun _ i _ => n - (intOf i).toNat)
  case atStart => exact ⟨0, ow, Nat.zero_le _, rfl, rfl, by omega, HA.out, HB0.out⟩
  case round =>
    clear HA HB0 B1 B2
    obtain ⟨k, s, hk, rfl, rfl, hs0, he, hB⟩ := hrel
    have HE := Lib.hid he; have HB := Lib.hid hB
    clear he hB
    by_cases hlt : k < n
    · obtain ⟨t, b', off', pa, pn, pc, e3, hb2, hg, hpl, HK⟩ := HR.out.cells k hlt
      simp at e3
      obtain ⟨rfl, rfl⟩ := e3
      have hum := List.mem_of_getElem? hg
      have hpn := HV.out.r.pcs t hum
      rw [hpl] at hpn
      have HPV : Hid (∀ p ∈ t.pcs, 1 ≤ p.1 ∧ p.1 ≤ 400) := Lib.hid (fun p hp => (HV.out.r.piece t hum p hp).1)
      have HVP := Lib.hid (HV.out.vp t hum)
      have hE := HE.out
      rw [aheadF_drop hlt] at hE
      cases hq2 : aheadB L k q
      · rw [hq2] at hE
        have HE2 : Hid (demL L v (((idxs n).drop (k + 1)).filter (fun x => aheadB L x q)) s = R) := Lib.hid (by simpa using hE)
        have HQ := Lib.hid hq2
        clear hE hq2 hg hum hpl
        go_wp2_with (go_at_call 59; (with_reducible refine (rahead_is (HR.out.ext HB.out) ⟨by omega, by omega⟩ ⟨by omega, by omega⟩ HQ.out).mono ?_); rintro e w3 ⟨rfl, hb3⟩; have B3 := Lib.hid hb3; clear hb3)
        go_roundw
        case rel => exact ⟨k + 1, s, by omega, rfl, by go_num, hs0, HE2.out, (by repeat (first | (with_reducible exact Below.refl _ _) | (refine Below.then ?_ (Hid.out (by with_reducible assumption)))))⟩
        case measure => simp [intOf]; omega
      · obtain ⟨mo, hmo⟩ : ∃ x, mostN t.gap t.jit v = x := ⟨_, rfl⟩
        obtain ⟨ct, hct⟩ : ∃ x, costT t = x := ⟨_, rfl⟩
        have hmb := mostN_bd (HV.out.gap t hum).1 (HV.out.jit t hum) h0
        have hcb2 := costT_bd4 HV.out.r hum
        have hdb := demT_bd4 HV.out hum h0
        have hd2 : demT t v = mo * ct := by rw [demT, hmo, hct]
        rw [hd2] at hdb
        rw [hmo] at hmb
        rw [hct] at hcb2
        have HMO := Lib.hid hmo
        have HCT := Lib.hid hct
        rw [hq2, if_pos rfl, demL_cons, taAt_of hg, hd2] at hE
        have HE2 := Lib.hid hE
        have hsb := (HBD.out (k + 1) (s + mo * ct)).1
        rw [hE] at hsb
        have HQ := Lib.hid hq2
        clear hE hq2 hg hum hpl hd2 hmo hct
        go_wp2_with (first
          | (go_at_call 59; (with_reducible refine (rahead_is (HR.out.ext HB.out) ⟨by omega, by omega⟩ ⟨by omega, by omega⟩ HQ.out).mono ?_); rintro e w3 ⟨rfl, hb3⟩; have B3 := Lib.hid hb3; obtain ⟨j0, j1, j2, j3, j4, j5, hbw3, hpp3⟩ := HK.out w3 (Below.then HB.out hb3); clear hb3 hpp3)
          | (go_at_call 112; (with_reducible refine (rmost_is HVP.out h0 HMO.out).mono ?_); rintro e w4 ⟨rfl, hb4⟩; have B4 := Lib.hid hb4; obtain ⟨m0, m1, m2, m3, m4, m5, hbw4, hpp4⟩ := HK.out w4 (by repeat (first | (with_reducible exact Below.refl _ _) | (refine Below.then ?_ (Hid.out (by with_reducible assumption))))); have HPP := Lib.hid hpp4; clear hb4 hpp4)
          | (go_at_call 60; (with_reducible refine (rcost_is4 HPP.out HPV.out hpn.2 HCT.out).mono ?_); rintro e w5 ⟨rfl, hb5⟩; have B5 := Lib.hid hb5; clear hb5))
        go_roundw
        case rel => exact ⟨k + 1, s + mo * ct, by omega, by go_num, by go_num, by omega, HE2.out, (by repeat (first | (with_reducible exact Below.refl _ _) | (refine Below.then ?_ (Hid.out (by with_reducible assumption)))))⟩
        case measure => simp [intOf]; omega
    · have hE := HE.out
      rw [List.drop_of_length_le (by rw [idxs_len]; omega)] at hE
      obtain rfl : s = R := hE
      go_wp2
      go_ret
      exact ⟨rfl, HB.out⟩
theorem rdem_is4 {a : Option Addr} {n c q : Nat} {L : List Ta} {v x : Int} {w : World} (hL : RdL w a n L) (hv : ValidT4 L) (hq : q < n) (h0 : 0 ≤ v ∧ v ≤ 1000000) (h : demN L q v = x) :
    Calls Try.prog 71 #[.slice a n c, .int .i64 (q : Nat), .int .i64 v] w fun e w' => e = .returned (.int .i64 x) ∧ Below w.heap.size w w' := by subst h; exact rdem_any4 a n c q L v w hL hv hq h0
set_option maxRecDepth 10000 in
set_option maxHeartbeats 2000000 in
theorem rwindow_any4 (a : Option Addr) (n c q : Nat) (L : List Ta) (F S : Int) (w : World) (hL : RdL w a n L) (hv : ValidT4 L) (hS : supB F S = true) (hq : q < n) :
    Calls Try.prog 56 #[.slice a n c, .agg #[.int .i64 F, .int .i64 S], .int .i64 (q : Nat)] w fun e w' => e = .returned (.int .i64 (winN L F S q)) ∧ Below w.heap.size w w' := by
  obtain ⟨R, hR⟩ : ∃ R, winN L F S q = R := ⟨_, rfl⟩
  have HA : Hid (winFrom L F S q (2001 - 1) 1 = R) := Lib.hid hR
  rw [hR]
  have HV := Lib.hid hv
  have HS := Lib.hid hS
  have HR := Lib.hid hL
  obtain ⟨w1, hw1⟩ : ∃ w1, w1 = w.alloc (.cells #[.int .i64 F, .int .i64 S] 24) := ⟨_, rfl⟩
  have c0 : w1.cell? ⟨w.heap.size, 0, none⟩ = some (.int .i64 F) := by rw [hw1]; simp [go_sem]
  have c1 : w1.cell? ⟨w.heap.size, 1, none⟩ = some (.int .i64 S) := by rw [hw1]; simp [go_sem]
  have hz1 : w.heap.size < w1.heap.size := by rw [hw1]; simp
  have B1 : Hid (Below w.heap.size w w1) := Lib.hid (by rw [hw1]; exact Below.alloc (Below.refl _ _) (Nat.le_refl _) _)
  clear hL hv hR hS
  go_enter Try.func56, Try.ntmps56
  go_wp2
  rw [← hw1]
  clear hw1
  go_loopw [7] (fun i wr => ∃ k : Nat, 1 ≤ k ∧ k ≤ 2001 ∧ i = .int .i64 k ∧ winFrom L F S q (2001 - k) k = R ∧ Below w1.heap.size w1 wr) (fun i _ => 2001 - (intOf i).toNat)
  case atStart => exact ⟨1, Nat.le_refl _, by omega, rfl, HA.out, Below.refl _ _⟩
  case round =>
    clear HA
    obtain ⟨k, hk1, hk, rfl, he, hB⟩ := hrel
    have HE := Lib.hid he; have HB := Lib.hid hB
    have d0 := (hB.cell (p := ⟨w.heap.size, 0, none⟩) (by simp only []; omega)).trans c0
    have d1 := (hB.cell (p := ⟨w.heap.size, 1, none⟩) (by simp only []; omega)).trans c1
    clear he hB
    by_cases hlt : k ≤ 2000
    · have hlt' : (k : Int) ≤ 2000 := by omega
      obtain ⟨x, hx⟩ : ∃ x, demN L q k = x := ⟨_, rfl⟩
      obtain ⟨y, hy⟩ : ∃ y, leastN F S k = y := ⟨_, rfl⟩
      have HX := Lib.hid hx
      have HY : Hid (lstR F S k = (y, 0)) := Lib.hid (by rw [lstR_ok HS.out (by omega), hy])
      have hE := HE.out
      rw [show 2001 - k = (2001 - (k + 1)) + 1 by omega, winFrom_step, hx, hy] at hE
      clear hx hy
      by_cases hxy : x ≤ y
      · rw [if_pos hxy] at hE
        subst hE
        go_wp2_with (first
          | (go_at_call 79; (with_reducible refine (rLeast_is HY.out).mono ?_); rintro e w3 ⟨rfl, hb3⟩; have B3 := Lib.hid hb3; clear hb3)
          | (go_at_call 71; (with_reducible refine (rdem_is4 (((HR.out.ext B1.out).ext HB.out).ext B3.out) HV.out hq ⟨by omega, by omega⟩ HX.out).mono ?_); rintro e w4 ⟨rfl, hb4⟩; have B4 := Lib.hid hb4; clear hb4))
        go_ret
        exact ⟨rfl, Below.then B1.out (Below.then (Below.then HB.out B3.out) B4.out)⟩
      · have hxy' : decide (x ≤ y) = false := by simpa using hxy
        rw [if_neg hxy] at hE
        have HE2 := Lib.hid hE
        clear hE
        go_wp2_with (first
          | (go_at_call 79; (with_reducible refine (rLeast_is HY.out).mono ?_); rintro e w3 ⟨rfl, hb3⟩; have B3 := Lib.hid hb3; clear hb3)
          | (go_at_call 71; (with_reducible refine (rdem_is4 (((HR.out.ext B1.out).ext HB.out).ext B3.out) HV.out hq ⟨by omega, by omega⟩ HX.out).mono ?_); rintro e w4 ⟨rfl, hb4⟩; have B4 := Lib.hid hb4; clear hb4))
        go_roundw
        case rel => exact ⟨k + 1, by omega, by omega, by go_num, HE2.out, Below.then (Below.then HB.out B3.out) B4.out⟩
        case measure => simp [intOf]; omega
    · have hlt' : decide ((k : Int) ≤ 2000) = false := by simp; omega
      have hlt'' : decide (k ≤ 2000) = false := by simp; omega
      have hE := HE.out
      rw [show 2001 - k = 0 by omega, winFrom] at hE
      subst hE
      go_wp2
      go_ret
      exact ⟨rfl, Below.then B1.out HB.out⟩
theorem rwindow_is4 {a : Option Addr} {n c q : Nat} {L : List Ta} {F S x : Int} {w : World} (hL : RdL w a n L) (hv : ValidT4 L) (hS : supB F S = true) (hq : q < n) (h : winN L F S q = x) :
    Calls Try.prog 56 #[.slice a n c, .agg #[.int .i64 F, .int .i64 S], .int .i64 (q : Nat)] w fun e w' => e = .returned (.int .i64 x) ∧ Below w.heap.size w w' := by subst h; exact rwindow_any4 a n c q L F S w hL hv hS hq
theorem rmeets_any4 (a : Option Addr) (n c q : Nat) (L : List Ta) (F S : Int) (w : World) (hL : RdL w a n L) (hv : ValidT4 L) (hS : supB F S = true) (hq : q < n) :
    Calls Try.prog 81 #[.slice a n c, .agg #[.int .i64 F, .int .i64 S], .int .i64 (q : Nat)] w fun e w' => e = .returned (.bool (meetB L F S q)) ∧ Below w.heap.size w w' := by
  have hb := winN_bd L F S q
  obtain ⟨R, hR⟩ : ∃ R, meetB L F S q = R := ⟨_, rfl⟩
  obtain ⟨x, hx⟩ : ∃ x, winN L F S q = x := ⟨_, rfl⟩
  obtain ⟨u, b, off, pa, pn, pc, rfl, hbw, hg, hpl, HK⟩ := hL.cells q hq
  have hj := hv.jit u (List.mem_of_getElem? hg)
  have hR2 : (decide (0 < x) && decide (u.jit + x ≤ u.dl)) = R := by rw [← hR, meetB, hx, taAt_of hg]
  have HX := Lib.hid hx
  have HV := Lib.hid hv
  have HS := Lib.hid hS
  have HR := Lib.hid hL
  rw [hR]
  rw [hx] at hb
  clear hL hv hS hx hg hpl hR
  by_cases h0 : 0 < x
  · have h1 : decide (u.jit + x ≤ u.dl) = R := by rw [← hR2, decide_eq_true h0, Bool.true_and]
    clear hR2
    go_enter Try.func81, Try.ntmps81
    go_wp2_with (first
      | (go_at_call 56; (with_reducible refine (rwindow_is4 (HR.out.ext (Below.alloc (Below.refl _ _) (Nat.le_refl _) _)) HV.out HS.out hq HX.out).mono ?_); rintro e w1 ⟨rfl, hb1⟩; have B1 := Lib.hid hb1; obtain ⟨j0, j1, j2, j3, j4, j5, hbw1, hpp1⟩ := HK.out w1 (Below.then (Below.alloc (Below.refl _ _) (Nat.le_refl _) _) hb1); clear hb1 hpp1)
      | (refine wp_region_later_lit (by kernel_rfl) (by kernel_rfl) ?_; (repeat (go_big_quiet_step (fail))); refine wpQuiet_nil ?_; intro w3 hb3))
    go_ret
    exact ⟨rfl, Below.then (Below.then (Below.alloc (Below.refl _ _) (Nat.le_refl _) _) B1.out) hb3⟩
  · obtain rfl : R = false := by rw [← hR2, decide_eq_false h0]; rfl
    have h0' : decide (0 < x) = false := by simpa using h0
    clear hR2
    go_enter Try.func81, Try.ntmps81
    go_wp2_with (first
      | (go_at_call 56; (with_reducible refine (rwindow_is4 (HR.out.ext (Below.alloc (Below.refl _ _) (Nat.le_refl _) _)) HV.out HS.out hq HX.out).mono ?_); rintro e w1 ⟨rfl, hb1⟩; have B1 := Lib.hid hb1; obtain ⟨j0, j1, j2, j3, j4, j5, hbw1, hpp1⟩ := HK.out w1 (Below.then (Below.alloc (Below.refl _ _) (Nat.le_refl _) _) hb1); clear hb1 hpp1)
      | (refine wp_region_later_lit (by kernel_rfl) (by kernel_rfl) ?_; (repeat (go_big_quiet_step (fail))); refine wpQuiet_nil ?_; intro w3 hb3))
    go_ret
    exact ⟨rfl, Below.then (Below.then (Below.alloc (Below.refl _ _) (Nat.le_refl _) _) B1.out) hb3⟩
theorem rmeets_is4 {a : Option Addr} {n c q : Nat} {L : List Ta} {F S : Int} {x : Bool} {w : World} (hL : RdL w a n L) (hv : ValidT4 L) (hS : supB F S = true) (hq : q < n) (h : meetB L F S q = x) :
    Calls Try.prog 81 #[.slice a n c, .agg #[.int .i64 F, .int .i64 S], .int .i64 (q : Nat)] w fun e w' => e = .returned (.bool x) ∧ Below w.heap.size w w' := by subst h; exact rmeets_any4 a n c q L F S w hL hv hS hq
set_option maxHeartbeats 1000000 in
theorem racc_any4 (a : Option Addr) (n c : Nat) (L : List Ta) (F S : Int) (w : World) (hL : RdL w a n L) (hv : ValidT4 L) (hS : supB F S = true) :
    Calls Try.prog 68 #[.slice a n c, .agg #[.int .i64 F, .int .i64 S]] w fun e w' => e = .returned (.bool (accB L F S)) ∧ Below w.heap.size w w' := by
  have hll := hL.length
  have hs := hL.small
  obtain ⟨R, hR⟩ : ∃ R, accB L F S = R := ⟨_, rfl⟩
  have HA : Hid (accFrom L F S (n - 0) 0 = R) := Lib.hid (by rw [← hR, accB, hll]; rfl)
  have HV := Lib.hid hv
  have HS := Lib.hid hS
  have HR := Lib.hid hL
  obtain ⟨w1, hw1⟩ : ∃ w1, w1 = w.alloc (.cells #[.int .i64 F, .int .i64 S] 24) := ⟨_, rfl⟩
  have c0 : w1.cell? ⟨w.heap.size, 0, none⟩ = some (.int .i64 F) := by rw [hw1]; simp [go_sem]
  have c1 : w1.cell? ⟨w.heap.size, 1, none⟩ = some (.int .i64 S) := by rw [hw1]; simp [go_sem]
  have hz1 : w.heap.size < w1.heap.size := by rw [hw1]; simp
  have B1 : Hid (Below w.heap.size w w1) := Lib.hid (by rw [hw1]; exact Below.alloc (Below.refl _ _) (Nat.le_refl _) _)
  rw [hR]
  clear hL hv hll hR hS
  go_enter Try.func68, Try.ntmps68
  go_wp2
  rw [← hw1]
  clear hw1
  go_loopw [5] (fun i wr => ∃ k : Nat, k ≤ n ∧ i = .int .i64 k ∧ accFrom L F S (n - k) k = R ∧ Below w1.heap.size w1 wr) (fun i _ => n - (intOf i).toNat)
  case atStart => exact ⟨0, Nat.zero_le _, rfl, HA.out, Below.refl _ _⟩
  case round =>
    clear HA
    obtain ⟨k, hk, rfl, he, hB⟩ := hrel
    have HE := Lib.hid he; have HB := Lib.hid hB
    have d0 := (hB.cell (p := ⟨w.heap.size, 0, none⟩) (by simp only []; omega)).trans c0
    have d1 := (hB.cell (p := ⟨w.heap.size, 1, none⟩) (by simp only []; omega)).trans c1
    clear he hB
    by_cases hlt : k < n
    · obtain ⟨m, hm⟩ : ∃ m, meetB L F S k = m := ⟨_, rfl⟩
      have HM := Lib.hid hm
      have hE := HE.out
      rw [show n - k = (n - (k + 1)) + 1 by omega, accFrom, hm] at hE
      clear hm
      cases m
      · obtain rfl : R = false := by rw [← hE]; rfl
        go_wp2_with (go_at_call 81; (with_reducible refine (rmeets_is4 ((HR.out.ext B1.out).ext HB.out) HV.out HS.out hlt HM.out).mono ?_); rintro e w3 ⟨rfl, hb3⟩; have B3 := Lib.hid hb3; clear hb3)
        go_ret
        exact ⟨rfl, (by repeat (first | (with_reducible exact Below.refl _ _) | (refine Below.then ?_ (Hid.out (by with_reducible assumption)))))⟩
      · have HE2 : Hid (accFrom L F S (n - (k + 1)) (k + 1) = R) := Lib.hid (by simpa using hE)
        clear hE
        go_wp2_with (go_at_call 81; (with_reducible refine (rmeets_is4 ((HR.out.ext B1.out).ext HB.out) HV.out HS.out hlt HM.out).mono ?_); rintro e w3 ⟨rfl, hb3⟩; have B3 := Lib.hid hb3; clear hb3)
        go_roundw
        case rel => exact ⟨k + 1, by omega, by go_num, HE2.out, Below.then HB.out B3.out⟩
        case measure => simp [intOf]; omega
    · have hE := HE.out
      rw [show n - k = 0 by omega, accFrom] at hE
      subst hE
      go_wp2
      go_ret
      exact ⟨rfl, (by repeat (first | (with_reducible exact Below.refl _ _) | (refine Below.then ?_ (Hid.out (by with_reducible assumption)))))⟩
theorem racc_is4 {a : Option Addr} {n c : Nat} {L : List Ta} {F S : Int} {x : Bool} {w : World} (hL : RdL w a n L) (hv : ValidT4 L) (hS : supB F S = true) (h : accB L F S = x) :
    Calls Try.prog 68 #[.slice a n c, .agg #[.int .i64 F, .int .i64 S]] w fun e w' => e = .returned (.bool x) ∧ Below w.heap.size w w' := by subst h; exact racc_any4 a n c L F S w hL hv hS
end Go.Proofs.Ytabbmnnohnfbeaa
