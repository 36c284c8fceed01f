/- The walk of BusServes: it returns true. The conditions: the slots and the requests read as named. -/
import Derived.Test.YtgldgomjlcojaaaSvTop
import Derived.Test.YtgldgomjlcojaaaIntsB
import Derived.Test.YtgldgomjlcojaaaBsSane
namespace Go.Proofs.Ytgldgomjlcojaaa
open Go.RowKit
set_option linter.unusedSimpArgs false
set_option linter.unusedVariables false
theorem rII_is {a b : Int} {R : P2} (h : R = (a, b)) : rII R.1 R.2 = rII a b := by rw [h]
/-- is request i alone of its master among the first k? -/
def alF (q : List Rq) (i : Nat) : Nat → Bool
  | 0 => true
  | k + 1 => alF q i k && (decide (k = i) || decide (¬ (rqAt q k).m = (rqAt q i).m))
theorem alF_iff {q : List Rq} {i : Nat} : ∀ k, alF q i k = true ↔ ∀ j, j < k → j ≠ i → (rqAt q j).m ≠ (rqAt q i).m
  | 0 => by simp [alF]
  | k + 1 => by
    rw [alF, Bool.and_eq_true, alF_iff k, Bool.or_eq_true]
    simp only [decide_eq_true_eq]
    constructor
    · rintro ⟨h1, h2⟩ j hj hne
      rcases Nat.lt_succ_iff_lt_or_eq.1 hj with h | rfl
      · exact h1 j h hne
      · rcases h2 with h | h
        · exact absurd h hne
        · exact h
    · intro h
      refine ⟨fun j hj => h j (by omega), ?_⟩
      by_cases e : k = i
      · exact .inl e
      · exact .inr (h k (by omega) e)
theorem serves_end {l : List P2} {q : List Rq} (h0 : (srvR l q).2.2 = 0) {i : Nat} {m o k : Int} (hi : q[i]? = some ⟨m, o, k⟩) :
    ∃ e : Int, endR l m o k = (e, 0) ∧ e ≤ (enN (tableS l) q i : Int) ∧ (alF q i q.length = true → (enN (tableS l) q i : Int) = e) := by
  obtain ⟨hv, hk, h40, hSR, hOK⟩ := srv_zero h0
  have hil := (List.getElem?_eq_some_iff.1 hi).1
  have hm := List.mem_of_getElem? hi
  have hc := hOK.ok.c _ hm
  have ho : okR m o k = true := List.all_eq_true.1 hk _ hm
  have hkk := hOK.ok.k _ hm
  simp only [] at hc hkk
  have hr := rqAt_of hi
  have hmem : (i : Int) ∈ ordQ q := ordQ_mem.2 ⟨by omega, by omega⟩
  have he : enN (tableS l) q i = endN (tableS l) m (bgN (tableS l) q i) k.toNat := by unfold enN; rw [hr]
  refine ⟨(endN (tableS l) m o.toNat k.toNat : Nat), ?_, ?_, fun hal => ?_⟩
  · unfold endR; rw [hv, ho]; simp only [Bool.and_self, if_true]; rw [if_neg (by omega)]
  · rw [he]
    have h1 := bg_ge (T := tableS l) (q := q) (i : Int)
    rw [hr] at h1
    simp only [] at h1
    have := endN_mono hc (show 1 ≤ k.toNat by omega) h1
    omega
  · have h2 := (alF_iff q.length).1 hal
    have : bgN (tableS l) q i = o.toNat := by
      rw [bg_alone hmem (fun j hj hne => ?_), hr]
      obtain ⟨j', rfl⟩ := Int.eq_ofNat_of_zero_le (ordQ_mem.1 hj).1
      exact h2 j' (by have := (ordQ_mem.1 hj).2; omega) (by omega)
    rw [he, this]
theorem ints_Rd {B : Nat} {w : World} {a : Option Addr} {n c : Nat} {xs : List Int} (h : w.ownsRow B 3 1 (.slice a n c) n (xs.flatMap enc1)) : Rd w a n 1 (xs.map enc1) := ownsI_rd h
set_option maxRecDepth 100000 in
set_option maxHeartbeats 8000000 in
theorem busServes_walk {w : World} (a0 : Option Addr) (n0 c0 : Nat) (l : List P2) (hR : Rd w a0 n0 2 (l.map enc2)) (hN : n0 = 0 → (a0 = none ∧ c0 = 0) ∨ ∃ ad, a0 = some ad) (a : Option Addr) (n c : Nat) (q : List Rq) (hQ : Rd w a n 3 (q.map encQ)) (t : Int) (_ : -9223372036854775808 ≤ t ∧ t ≤ 9223372036854775807) :
    Calls Try.prog 9 #[.slice a0 n0 c0, .slice a n c, .int .i64 t] w fun e w' => e = .returned (.bool true) ∧ Below w.heap.size w w' := by
  have HR := Lib.hid hR; have HQ := Lib.hid hQ
  have hs := hR.small
  have hs2 := hQ.small
  have hql := hQ.length
  clear hR hN hQ
  by_cases h60 : n0 ≤ 60 ∧ n ≤ 200
  · have HF : Hid (∀ w', Calls Try.prog 11 #[.slice a0 n0 c0, .slice a n c] w' fun e w'' => e = .returned (.bool true) ∧ w' = w'') := Lib.hid (fun w' => few_yes h60.1 h60.2)
    obtain ⟨⟨B1, XS, E⟩, hE⟩ : ∃ R, srvR l q = R := ⟨_, rfl⟩
    obtain ⟨⟨y1, y2⟩, hY⟩ : ∃ R, busyR l q t = R := ⟨_, rfl⟩
    have HE := Lib.hid hE; have HY := Lib.hid hY
    have HXS : Hid (∀ i : Nat, i < XS.length → ∀ m o k, q[i]? = some ⟨m, o, k⟩ → ∃ e x : Int, XS[i]? = some x ∧ endR l m o k = (e, 0) ∧ e ≤ x ∧ (alF q i q.length = true → x = e)) := Lib.hid (by
      intro i hi m o k hg
      by_cases h0 : (srvR l q).2.2 = 0
      · obtain ⟨e, e1, e2, e3⟩ := serves_end h0 hg
        have h4 := (srv_zero h0).2.2.2.1
        rw [hE] at h4
        simp only [Prod.mk.injEq] at h4
        obtain ⟨_, rfl, _⟩ := h4
        exact ⟨e, _, endL_get (List.getElem?_eq_some_iff.1 hg).1, e1, e2, e3⟩
      · exfalso
        have : XS = [] := by
          have h5 := hE
          unfold srvR at h5 h0
          split at h5
          · rename_i h6; rw [if_pos h6] at h0; exact (h0 rfl).elim
          · simp only [Prod.mk.injEq] at h5; exact h5.2.1.symm
        rw [this] at hi; simp at hi)
    have HXL : Hid (XS.length ≤ q.length) := Lib.hid (by
      have h5 := hE
      unfold srvR at h5
      split at h5
      · simp only [Prod.mk.injEq] at h5; rw [← h5.2.1]; simp [endL, idxs_len]
      · simp only [Prod.mk.injEq] at h5; rw [← h5.2.1]; simp)
    have HQL := Lib.hid hql
    clear hE hY
    go_enter Try.func9, Try.ntmps9
    go_wp2_with (first
      | (go_at_call 11; (with_reducible refine (HF.out _).mono ?_); rintro e w2 ⟨rfl, rfl⟩)
      | (go_at_call 36; (with_reducible refine (Serve_is HR.out HQ.out HE.out).mono ?_); rintro e w3 ⟨a3, n3, c3, rfl, h3, hb3⟩; have W3 := Lib.hid hb3; have R3 := Lib.hid (ownsI_rd h3); clear h3 hb3)
      | (go_at_call 38; (with_reducible refine (rServe_is (HR.out.ext W3.out) (HQ.out.ext W3.out) HE.out).mono ?_); rintro e w4 ⟨a4, n4, c4, rfl, h4, hb4⟩; have V4 := Lib.hid hb4; have W4 := Lib.hid (Below.then W3.out hb4); have R4 := Lib.hid (ownsI_rd h4); clear h4 hb4)
      | (go_at_call 39; (with_reducible refine (Busy_is (HR.out.ext W4.out) (HQ.out.ext W4.out) HY.out).mono ?_); rintro e w5 ⟨rfl, hb5⟩; have V5 := Lib.hid (Below.then V4.out hb5); have U5 := Lib.hid hb5; have W5 := Lib.hid (Below.then W4.out hb5); clear hb5)
      | (go_at_call 40; (with_reducible refine (rBusy_is (HR.out.ext W5.out) (HQ.out.ext W5.out) HY.out).mono ?_); rintro e w6 ⟨rfl, hb6⟩; have V6 := Lib.hid (Below.then V5.out hb6); have U6 := Lib.hid (Below.then U5.out hb6); have W6 := Lib.hid (Below.then W5.out hb6); clear hb6)
      | (go_at_call 37; (with_reducible refine (ints_eq _ _ _ _ _ _ XS _ (R3.out.ext V6.out) (R4.out.ext U6.out)).mono ?_); rintro e w7 ⟨rfl, hb7⟩; have W7 := Lib.hid (Below.then W6.out hb7); have R7 := Lib.hid ((R3.out.ext V6.out).ext hb7); clear hb7))
    have hn3 : n3 = XS.length := R7.out.length.symm
    have hn3l : n3 ≤ n := by rw [hn3, ← hql]; exact HXL.out
    have HN3 := Lib.hid hn3
    clear hn3 hql R3 R4 V4 V5 V6 U5 U6 W3 W4 W5 W6 HXL
    go_loopw [15] (fun i wr => ∃ k : Nat, k ≤ n3 ∧ i = .int .i64 k ∧ Below w7.heap.size w7 wr) (fun i _ => n3 - (intOf i).toNat)
    case atStart => exact ⟨0, Nat.zero_le _, rfl, Below.refl _ _⟩
    case round =>
      obtain ⟨i, hi, rfl, hB⟩ := hrel
      have HB := Lib.hid hB
      clear hB
      by_cases hlt : i < n3
      · obtain ⟨⟨m, o, k⟩, b, off, rfl, hb, hg, d1, d2, d3, _⟩ := (HQ.out.ext (W7.out.trans (HB.out.mono W7.out.size))).rq i (by omega)
        simp only [] at d1 d2 d3
        obtain ⟨e1, x1, hx1, hend, hle, hal⟩ := HXS.out i (by rw [← HN3.out]; exact hlt) m o k hg
        have HEND := Lib.hid hend
        obtain ⟨x, b3, o3, rfl, hb3, hc3, hx⟩ := (R7.out.ext HB.out).idx i hlt
        obtain rfl : x = x1 := by rw [hx1] at hx; simpa using hx.symm
        have hr := rqAt_of hg
        have HAL := Lib.hid hal
        have HRQ := Lib.hid hr
        clear hg hx1 hend hal hx hr
        go_wp2
        go_loopw [16, 17] (fun v j wx => ∃ (k' : Nat), k' ≤ n ∧ v = .bool (alF q i k') ∧ j = .int .i64 k' ∧ Below wr.heap.size wr wx) (fun _ j _ => n - (intOf j).toNat)
        case atStart => exact ⟨0, Nat.zero_le _, rfl, rfl, Below.refl _ _⟩
        case round =>
          obtain ⟨k', hk', rfl, rfl, hB2⟩ := hrel
          have HB2 := Lib.hid hB2
          clear hB2
          have c0 := (HB2.out.cell (p := ⟨b, off + i * 3, none⟩) hb).trans d1
          by_cases hlk : k' < n
          · obtain ⟨⟨m', o', t'⟩, b', off', e', hb', hg', f1, _, _, _⟩ := ((HQ.out.ext (W7.out.trans (HB.out.mono W7.out.size))).ext HB2.out).rq k' hlk
            simp at e'
            obtain ⟨rfl, rfl⟩ := e'
            simp only [] at f1
            have hstep : alF q i (k' + 1) = (alF q i k' && (decide (k' = i) || decide (¬ m' = m))) := by rw [alF, HRQ.out, rqAt_of hg']
            obtain ⟨A, hA⟩ : ∃ A, alF q i k' = A := ⟨_, rfl⟩
            rw [hA] at hstep ⊢
            have HST := Lib.hid hstep
            clear hstep hg' hA
            cases A
            · go_wp2_with (refine wp_region_later_lit (by kernel_rfl) (by kernel_rfl) ?_; (repeat (go_big_quiet_step (fail))); refine wpQuiet_nil ?_; intro w8 hb8)
              go_roundw
              case rel => exact ⟨k' + 1, hlk, by rw [HST.out]; rfl, by go_num, Below.then HB2.out hb8⟩
              case measure => simp [intOf]; omega
            · by_cases q1 : k' = i
              · have q1' : ((k' : Int) == (i : Int)) = true := by simp; omega
                have q1'' : (k' == i) = true := by simpa using q1
                go_wp2_with (refine wp_region_later_lit (by kernel_rfl) (by kernel_rfl) ?_; (repeat (go_big_quiet_step (fail))); refine wpQuiet_nil ?_; intro w9 hb9)
                go_roundw
                case rel => exact ⟨k' + 1, hlk, by rw [HST.out]; simp [q1], by go_num, Below.then HB2.out hb9⟩
                case measure => simp [intOf]; omega
              · have q1' : ((k' : Int) == (i : Int)) = false := by simp; omega
                have q1'' : (k' == i) = false := by simpa using q1
                by_cases q2 : m' = m
                · have q2' : (m' != m) = false := by simpa using q2
                  go_wp2_with (refine wp_region_later_lit (by kernel_rfl) (by kernel_rfl) ?_; (repeat (go_big_quiet_step (fail))); refine wpQuiet_nil ?_; intro w10 hb10)
                  go_roundw
                  case rel => exact ⟨k' + 1, hlk, by rw [HST.out]; simp [q1, q2], by go_num, Below.then HB2.out hb10⟩
                  case measure => simp [intOf]; omega
                · have q2' : (m' != m) = true := by simpa using q2
                  go_wp2_with (refine wp_region_later_lit (by kernel_rfl) (by kernel_rfl) ?_; (repeat (go_big_quiet_step (fail))); refine wpQuiet_nil ?_; intro w12 hb12)
                  go_roundw
                  case rel => exact ⟨k' + 1, hlk, by rw [HST.out]; simp [q1, q2], by go_num, Below.then HB2.out hb12⟩
                  case measure => simp [intOf]; omega
          · have e : k' = n := by omega
            have HAA : Hid (alF q i k' = true → x = e1) := Lib.hid (by rw [e, ← HQL.out]; exact HAL.out)
            have c1 := (HB2.out.cell (p := ⟨b, off + i * 3 + 1, none⟩) hb).trans d2
            have c2 := (HB2.out.cell (p := ⟨b, off + i * 3 + 2, none⟩) hb).trans d3
            have g0 := (HB2.out.cell (p := ⟨b3, o3 + i, none⟩) hb3).trans hc3
            have HW8 := Lib.hid (W7.out.trans ((HB.out.trans (HB2.out.mono HB.out.size)).mono W7.out.size))
            have hle' : decide (x < e1) = false := by simpa using hle
            have hbz := Nat.lt_of_lt_of_le hb3 HB2.out.size
            clear e HAL hle
            obtain ⟨A, hA⟩ : ∃ A, alF q i k' = A := ⟨_, rfl⟩
            rw [hA] at HAA ⊢
            clear hA
            cases A
            · go_wp2_with (go_at_call 16; (with_reducible refine (End_val (HR.out.ext HW8.out) HEND.out).mono ?_); rintro e w9 ⟨rfl, hb9⟩; have B9 := Lib.hid hb9; have g9 := (hb9.cell (p := ⟨b3, o3 + i, none⟩) hbz).trans g0; clear hb9)
              go_roundw
              case rel => exact ⟨i + 1, hlt, by go_num, (HB.out.trans (HB2.out.mono HB.out.size)).trans (B9.out.mono (Nat.le_trans HB.out.size HB2.out.size))⟩
              case measure => simp [intOf]; omega
            · obtain rfl := HAA.out rfl
              go_wp2_with (go_at_call 16; (with_reducible refine (End_val (HR.out.ext HW8.out) HEND.out).mono ?_); rintro e w9 ⟨rfl, hb9⟩; have B9 := Lib.hid hb9; have g9 := (hb9.cell (p := ⟨b3, o3 + i, none⟩) hbz).trans g0; clear hb9)
              go_roundw
              case rel => exact ⟨i + 1, hlt, by go_num, (HB.out.trans (HB2.out.mono HB.out.size)).trans (B9.out.mono (Nat.le_trans HB.out.size HB2.out.size))⟩
              case measure => simp [intOf]; omega
      · go_wp2_with (go_at_call 13; (with_reducible refine (sane_any _).mono ?_); rintro e w11 ⟨rfl, hb11⟩)
        go_ret
        exact ⟨rfl, Below.then (W7.out.trans (HB.out.mono W7.out.size)) hb11⟩
  · have HF : Hid (∀ w', Calls Try.prog 11 #[.slice a0 n0 c0, .slice a n c] w' fun e w'' => e = .returned (.bool false) ∧ w' = w'') := Lib.hid (fun w' => few_no hs hs2 h60)
    go_enter Try.func9, Try.ntmps9
    go_wp2_with (first
      | (go_at_call 11; (with_reducible refine (HF.out _).mono ?_); rintro e w2 ⟨rfl, rfl⟩)
      | (go_at_call 13; refine (sane_any _).mono ?_; rintro e w1 ⟨rfl, hb1⟩; obtain ⟨hc1, hf1, hz1, hr1⟩ := bfacts hb1; (try simp only [World.size_alloc, World.size_setCell, World.size_drew, World.size_drewN] at hz1 hr1); (try have hw0 : w.heap.size < w1.heap.size := by omega); (try have hw1 : w.heap.size + 1 < w1.heap.size := by omega); (try have hw2 : w.heap.size + 1 + 1 < w1.heap.size := by omega)))
    go_ret
    exact ⟨rfl, by (repeat' (first | (with_reducible exact Below.refl _ _) | (with_reducible assumption) | (with_reducible refine Below.alloc ?_ ?_ _) | (with_reducible refine Below.drew ?_) | (with_reducible refine Below.draws ?_ _) | (with_reducible refine Below.setCell ?_ ?_ _) | (refine Below.then ?_ (by with_reducible assumption)) | go_size))⟩
end Go.Proofs.Ytgldgomjlcojaaa
