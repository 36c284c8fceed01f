/- The walk of serve of the program. The conditions: the slots and the requests read as named. -/
import Derived.Test.YtgldgomjlcojaaaSvServe
namespace Go.Proofs.Ytgldgomjlcojaaa
open Go.RowKit
set_option linter.unusedSimpArgs false
set_option linter.unusedVariables false
set_option maxRecDepth 100000 in
set_option maxHeartbeats 4000000 in
theorem serve_bad (a0 a : Option Addr) (n0 c0 n c : Nat) (l : List P2) (q : List Rq) (w : World) (hL : Rd w a0 n0 2 (l.map enc2)) (hQ : Rd w a n 3 (q.map encQ)) (hE : ¬ srvE l q = 0) :
    Calls Try.prog 63 #[.slice a0 n0 c0, .slice a n c] w (OutSv w [] [] (srvE l q)) := by
  have hs := hQ.small
  have HQL := Lib.hid hQ.length
  have HL := Lib.hid hL; have HQ := Lib.hid hQ
  clear hL hQ
  cases hv : validS l
  · have e : srvE l q = 1 := by unfold srvE; rw [hv]; rfl
    rw [e]
    have HV := Lib.hid hv
    clear hE hv e
    go_enter Try.func63, Try.ntmps63
    go_wp2_with (go_at_call 32; (with_reducible refine (valid_val (HL.out.ext (by (repeat' (first | (with_reducible exact Below.refl _ _) | (with_reducible assumption) | (with_reducible refine Below.alloc ?_ ?_ _) | (with_reducible refine Below.drew ?_) | (with_reducible refine Below.draws ?_ _) | (with_reducible refine Below.setCell ?_ ?_ _) | (refine Below.then ?_ (by with_reducible assumption)) | go_size)))) HV.out).mono ?_); rintro e w1 ⟨rfl, hb1⟩; have x1 : w1.cell? ⟨w.heap.size, 0, none⟩ = some (.slice a n c) := (hb1.cell (p := ⟨w.heap.size, 0, none⟩) (by simp)).trans (by simp [go_sem]); have W1 : Hid (Below w.heap.size w w1) := Lib.hid (Below.trans (by (repeat' (first | (with_reducible exact Below.refl _ _) | (with_reducible assumption) | (with_reducible refine Below.alloc ?_ ?_ _) | (with_reducible refine Below.drew ?_) | (with_reducible refine Below.draws ?_ _) | (with_reducible refine Below.setCell ?_ ?_ _) | (refine Below.then ?_ (by with_reducible assumption)) | go_size))) (hb1.mono (by simp))); have z1 : w.heap.size < w1.heap.size := Nat.lt_of_lt_of_le (by simp) hb1.size; clear hb1)
    refine bodyPost_ret (results_tmp3 rfl _ _ _) rfl ?_
    exact .none W1.out
  · have HV := Lib.hid hv
    cases hk : q.all okQ
    · have e : srvE l q = 1 := by unfold srvE; rw [hv, hk]; rfl
      rw [e]
      have HK : Hid ((!q.all okQ) = true) := Lib.hid (by rw [hk]; rfl)
      clear hE hv hk e
      go_enter Try.func63, Try.ntmps63
      go_wp2_with (first | (go_at_call 32; (with_reducible refine (valid_val (HL.out.ext (by (repeat' (first | (with_reducible exact Below.refl _ _) | (with_reducible assumption) | (with_reducible refine Below.alloc ?_ ?_ _) | (with_reducible refine Below.drew ?_) | (with_reducible refine Below.draws ?_ _) | (with_reducible refine Below.setCell ?_ ?_ _) | (refine Below.then ?_ (by with_reducible assumption)) | go_size)))) HV.out).mono ?_); rintro e w1 ⟨rfl, hb1⟩; have x1 : w1.cell? ⟨w.heap.size, 0, none⟩ = some (.slice a n c) := (hb1.cell (p := ⟨w.heap.size, 0, none⟩) (by simp)).trans (by simp [go_sem]); have W1 : Hid (Below w.heap.size w w1) := Lib.hid (Below.trans (by (repeat' (first | (with_reducible exact Below.refl _ _) | (with_reducible assumption) | (with_reducible refine Below.alloc ?_ ?_ _) | (with_reducible refine Below.drew ?_) | (with_reducible refine Below.draws ?_ _) | (with_reducible refine Below.setCell ?_ ?_ _) | (refine Below.then ?_ (by with_reducible assumption)) | go_size))) (hb1.mono (by simp))); have z1 : w.heap.size < w1.heap.size := Nat.lt_of_lt_of_le (by simp) hb1.size; clear hb1) | (go_at_call 67; (with_reducible refine (con1_val (HQ.out.ext W1.out) HK.out).mono ?_); rintro e w2 ⟨rfl, hb2⟩; have x2 : w2.cell? ⟨w.heap.size, 0, none⟩ = some (.slice a n c) := (hb2.cell (p := ⟨w.heap.size, 0, none⟩) z1).trans x1; have W2 : Hid (Below w.heap.size w w2) := Lib.hid (Below.then W1.out hb2); have z2 : w.heap.size < w2.heap.size := Nat.lt_of_lt_of_le z1 hb2.size; clear hb2))
      refine bodyPost_ret (results_tmp3 rfl _ _ _) rfl ?_
      exact .none W2.out
    · have HK : Hid ((!q.all okQ) = false) := Lib.hid (by rw [hk]; rfl)
      by_cases h40 : 40 < q.length
      · have e : srvE l q = 2 := by unfold srvE; rw [hv, hk, if_pos (show (true && true) = true from rfl), if_pos h40]
        rw [e]
        have k1 : (40 : Int) < (n : Int) := by rw [HQL.out] at h40; omega
        clear hE hv hk e h40
        go_enter Try.func63, Try.ntmps63
        go_wp2_with (first | (go_at_call 32; (with_reducible refine (valid_val (HL.out.ext (by (repeat' (first | (with_reducible exact Below.refl _ _) | (with_reducible assumption) | (with_reducible refine Below.alloc ?_ ?_ _) | (with_reducible refine Below.drew ?_) | (with_reducible refine Below.draws ?_ _) | (with_reducible refine Below.setCell ?_ ?_ _) | (refine Below.then ?_ (by with_reducible assumption)) | go_size)))) HV.out).mono ?_); rintro e w1 ⟨rfl, hb1⟩; have x1 : w1.cell? ⟨w.heap.size, 0, none⟩ = some (.slice a n c) := (hb1.cell (p := ⟨w.heap.size, 0, none⟩) (by simp)).trans (by simp [go_sem]); have W1 : Hid (Below w.heap.size w w1) := Lib.hid (Below.trans (by (repeat' (first | (with_reducible exact Below.refl _ _) | (with_reducible assumption) | (with_reducible refine Below.alloc ?_ ?_ _) | (with_reducible refine Below.drew ?_) | (with_reducible refine Below.draws ?_ _) | (with_reducible refine Below.setCell ?_ ?_ _) | (refine Below.then ?_ (by with_reducible assumption)) | go_size))) (hb1.mono (by simp))); have z1 : w.heap.size < w1.heap.size := Nat.lt_of_lt_of_le (by simp) hb1.size; clear hb1) | (go_at_call 67; (with_reducible refine (con1_val (HQ.out.ext W1.out) HK.out).mono ?_); rintro e w2 ⟨rfl, hb2⟩; have x2 : w2.cell? ⟨w.heap.size, 0, none⟩ = some (.slice a n c) := (hb2.cell (p := ⟨w.heap.size, 0, none⟩) z1).trans x1; have W2 : Hid (Below w.heap.size w w2) := Lib.hid (Below.then W1.out hb2); have z2 : w.heap.size < w2.heap.size := Nat.lt_of_lt_of_le z1 hb2.size; clear hb2))
        refine bodyPost_ret (results_tmp3 rfl _ _ _) rfl ?_
        exact .none W2.out
      · have hc : q.any (fun r => decide (cnt (tableS l) r.m = 0)) = true := by
          cases hc : q.any (fun r => decide (cnt (tableS l) r.m = 0)) with
          | true => rfl
          | false => exact absurd (by unfold srvE; rw [hv, hk, if_pos (show (true && true) = true from rfl), if_neg h40, hc]; rfl) hE
        have e : srvE l q = 3 := by unfold srvE; rw [hv, hk, if_pos (show (true && true) = true from rfl), if_neg h40, hc]; rfl
        rw [e]
        have k1 : ¬ (40 : Int) < (n : Int) := by rw [HQL.out] at h40; omega
        have HQM : Hid (∀ r ∈ q, 0 ≤ r.m ∧ r.m ≤ 3) := Lib.hid (fun r hr => (okQ_iff.1 (List.all_eq_true.1 hk r hr)).1)
        obtain ⟨T, hT⟩ : ∃ T, tableS l = T := ⟨_, rfl⟩
        have HT := Lib.hid hT
        rw [hT] at hc
        have HC := Lib.hid hc
        clear hE hv hk e h40 hT hc
        go_enter Try.func63, Try.ntmps63
        go_wp2_with (first | (go_at_call 32; (with_reducible refine (valid_val (HL.out.ext (by (repeat' (first | (with_reducible exact Below.refl _ _) | (with_reducible assumption) | (with_reducible refine Below.alloc ?_ ?_ _) | (with_reducible refine Below.drew ?_) | (with_reducible refine Below.draws ?_ _) | (with_reducible refine Below.setCell ?_ ?_ _) | (refine Below.then ?_ (by with_reducible assumption)) | go_size)))) HV.out).mono ?_); rintro e w1 ⟨rfl, hb1⟩; have x1 : w1.cell? ⟨w.heap.size, 0, none⟩ = some (.slice a n c) := (hb1.cell (p := ⟨w.heap.size, 0, none⟩) (by simp)).trans (by simp [go_sem]); have W1 : Hid (Below w.heap.size w w1) := Lib.hid (Below.trans (by (repeat' (first | (with_reducible exact Below.refl _ _) | (with_reducible assumption) | (with_reducible refine Below.alloc ?_ ?_ _) | (with_reducible refine Below.drew ?_) | (with_reducible refine Below.draws ?_ _) | (with_reducible refine Below.setCell ?_ ?_ _) | (refine Below.then ?_ (by with_reducible assumption)) | go_size))) (hb1.mono (by simp))); have z1 : w.heap.size < w1.heap.size := Nat.lt_of_lt_of_le (by simp) hb1.size; clear hb1) | (go_at_call 67; (with_reducible refine (con1_val (HQ.out.ext W1.out) HK.out).mono ?_); rintro e w2 ⟨rfl, hb2⟩; have x2 : w2.cell? ⟨w.heap.size, 0, none⟩ = some (.slice a n c) := (hb2.cell (p := ⟨w.heap.size, 0, none⟩) z1).trans x1; have W2 : Hid (Below w.heap.size w w2) := Lib.hid (Below.then W1.out hb2); have z2 : w.heap.size < w2.heap.size := Nat.lt_of_lt_of_le z1 hb2.size; clear hb2) | (go_at_call 45; (with_reducible refine (turning_any _ _ _ l _ (HL.out.ext W2.out) HV.out).mono ?_); rw [HT.out]; rintro e w3 ⟨h, rfl, hrows, hb3⟩; have HRW := Lib.hid hrows.rdW; clear hrows; have x3 : w3.cell? ⟨w.heap.size, 0, none⟩ = some (.slice a n c) := (hb3.cell (p := ⟨w.heap.size, 0, none⟩) z2).trans x2; have W3 : Hid (Below w.heap.size w w3) := Lib.hid (Below.then W2.out hb3); have z3 : w.heap.size < w3.heap.size := Nat.lt_of_lt_of_le z2 hb3.size; clear hb3) | (go_at_call 67; (with_reducible refine (con2_val (HQ.out.ext (Below.trans W3.out (Below.alloc (Below.refl _ _) (Nat.le_of_lt z3) _))) HQM.out (WhC.mk' w3 h _) (HRW.out.ext (Below.alloc (Below.refl _ _) (Nat.le_refl _) _)) HC.out).mono ?_); rintro e w4 ⟨rfl, hb4⟩; have x4 : w4.cell? ⟨w.heap.size, 0, none⟩ = some (.slice a n c) := (hb4.cell (p := ⟨w.heap.size, 0, none⟩) (by simp; omega)).trans (by simp [go_sem, x3, z3]); have W4 : Hid (Below w.heap.size w w4) := Lib.hid ((Below.trans W3.out (Below.alloc (Below.refl _ _) (Nat.le_of_lt z3) _)).trans (hb4.mono (by simp; omega))); have z4 : w.heap.size < w4.heap.size := Nat.lt_of_lt_of_le (by simp; omega) hb4.size; have HWC := Lib.hid ((WhC.mk' w3 h 59).ext hb4); have HRW4 := Lib.hid ((HRW.out.ext (Below.alloc (Below.refl _ _) (Nat.le_refl _) _)).ext hb4); have z5 : w3.heap.size < w4.heap.size := Nat.lt_of_lt_of_le (by simp) hb4.size; clear hb4))
        refine bodyPost_ret (results_tmp3 rfl _ _ _) rfl ?_
        exact .none W4.out
theorem idxs_fill {n k : Nat} (h : k < n) : (((idxs n).take k ++ List.replicate (n - k) (0 : Int)).set k (k : Int)) = (idxs n).take (k + 1) ++ List.replicate (n - (k + 1)) 0 := by
  have hl : ((idxs n).take k).length = k := by rw [List.length_take, idxs_len]; omega
  rw [List.set_append_right _ _ (by omega), hl, Nat.sub_self, show n - k = (n - (k + 1)) + 1 by omega, List.replicate_succ, List.set_cons_zero, List.take_add_one, idxs_get h]
  simp
theorem cfQ_swo (q : List Rq) : Swo (ltOf (cfQ q)) := by rw [cfQ_lt]; exact ltQ_swo q
set_option maxRecDepth 100000 in
set_option maxHeartbeats 8000000 in
theorem serve_ok (a0 a : Option Addr) (n0 c0 n c : Nat) (l : List P2) (q : List Rq) (w : World) (hL : Rd w a0 n0 2 (l.map enc2)) (hQ : Rd w a n 3 (q.map encQ)) (hE : srvE l q = 0) :
    Calls Try.prog 63 #[.slice a0 n0 c0, .slice a n c] w (OutSv w (begL (tableS l) q) (endL (tableS l) q) 0) := by
  have hs := hQ.small
  have HQL := Lib.hid hQ.length
  have HL := Lib.hid hL; have HQ := Lib.hid hQ
  obtain ⟨hv, hk, h40, hc⟩ : validS l = true ∧ q.all okQ = true ∧ ¬ 40 < q.length ∧ q.any (fun r => decide (cnt (tableS l) r.m = 0)) = false := by
    unfold srvE at hE
    split at hE
    · rename_i h1
      rw [Bool.and_eq_true] at h1
      split at hE
      · omega
      · split at hE
        · omega
        · rename_i h2 h3
          exact ⟨h1.1, h1.2, h2, by simpa using h3⟩
    · omega
  obtain ⟨htl, htl4⟩ := tableS_len hv
  have hQM : ∀ r ∈ q, (0 ≤ r.m ∧ r.m ≤ 3) ∧ (0 ≤ r.o ∧ r.o ≤ 10000) ∧ 1 ≤ r.k ∧ r.k ≤ 100 := fun r hr => okQ_iff.1 (List.all_eq_true.1 hk r hr)
  obtain ⟨T, hT⟩ : ∃ T, tableS l = T := ⟨_, rfl⟩
  have HT := Lib.hid hT
  rw [hT] at hc htl htl4 ⊢
  have HOK : Hid (OkS T q) := Lib.hid ⟨⟨fun r hr => by
    rw [List.any_eq_false] at hc
    have := hc r hr
    simp at this
    omega, fun r hr => (hQM r hr).2.2.1, fun r hr => (hQM r hr).2.1.1⟩, hQM, htl4⟩
  have HV := Lib.hid hv; have HC := Lib.hid hc
  have HK : Hid ((!q.all okQ) = false) := Lib.hid (by rw [hk]; rfl)
  have HQM : Hid (∀ r ∈ q, 0 ≤ r.m ∧ r.m ≤ 3) := Lib.hid (fun r hr => (hQM r hr).1)
  have k1 : ¬ (40 : Int) < (n : Int) := by rw [HQL.out] at h40; omega
  have hn40 : n ≤ 40 := by omega
  obtain ⟨BL, hBL⟩ : ∃ B, begL T q = B := ⟨_, rfl⟩
  obtain ⟨EL, hEL⟩ : ∃ B, endL T q = B := ⟨_, rfl⟩
  rw [hBL, hEL]
  have HBL := Lib.hid hBL; have HEL := Lib.hid hEL
  clear hE hv hk h40 hT hc hL hQ hQM hBL hEL
  go_enter Try.func63, Try.ntmps63
  go_wp2_with (first | (go_at_call 32; (with_reducible refine (valid_val (HL.out.ext (by (repeat' (first | (with_reducible exact Below.refl _ _) | (with_reducible assumption) | (with_reducible refine Below.alloc ?_ ?_ _) | (with_reducible refine Below.drew ?_) | (with_reducible refine Below.draws ?_ _) | (with_reducible refine Below.setCell ?_ ?_ _) | (refine Below.then ?_ (by with_reducible assumption)) | go_size)))) HV.out).mono ?_); rintro e w1 ⟨rfl, hb1⟩; have x1 : w1.cell? ⟨w.heap.size, 0, none⟩ = some (.slice a n c) := (hb1.cell (p := ⟨w.heap.size, 0, none⟩) (by simp)).trans (by simp [go_sem]); have W1 : Hid (Below w.heap.size w w1) := Lib.hid (Below.trans (by (repeat' (first | (with_reducible exact Below.refl _ _) | (with_reducible assumption) | (with_reducible refine Below.alloc ?_ ?_ _) | (with_reducible refine Below.drew ?_) | (with_reducible refine Below.draws ?_ _) | (with_reducible refine Below.setCell ?_ ?_ _) | (refine Below.then ?_ (by with_reducible assumption)) | go_size))) (hb1.mono (by simp))); have z1 : w.heap.size < w1.heap.size := Nat.lt_of_lt_of_le (by simp) hb1.size; clear hb1) | (go_at_call 67; (with_reducible refine (con1_val (HQ.out.ext W1.out) HK.out).mono ?_); rintro e w2 ⟨rfl, hb2⟩; have x2 : w2.cell? ⟨w.heap.size, 0, none⟩ = some (.slice a n c) := (hb2.cell (p := ⟨w.heap.size, 0, none⟩) z1).trans x1; have W2 : Hid (Below w.heap.size w w2) := Lib.hid (Below.then W1.out hb2); have z2 : w.heap.size < w2.heap.size := Nat.lt_of_lt_of_le z1 hb2.size; clear hb2) | (go_at_call 45; (with_reducible refine (turning_any _ _ _ l _ (HL.out.ext W2.out) HV.out).mono ?_); rw [HT.out]; rintro e w3 ⟨h, rfl, hrows, hb3⟩; have HRW := Lib.hid hrows.rdW; clear hrows; have x3 : w3.cell? ⟨w.heap.size, 0, none⟩ = some (.slice a n c) := (hb3.cell (p := ⟨w.heap.size, 0, none⟩) z2).trans x2; have W3 : Hid (Below w.heap.size w w3) := Lib.hid (Below.then W2.out hb3); have z3 : w.heap.size < w3.heap.size := Nat.lt_of_lt_of_le z2 hb3.size; clear hb3) | (go_at_call 67; (with_reducible refine (con2_val (HQ.out.ext (Below.trans W3.out (Below.alloc (Below.refl _ _) (Nat.le_of_lt z3) _))) HQM.out (WhC.mk' w3 h _) (HRW.out.ext (Below.alloc (Below.refl _ _) (Nat.le_refl _) _)) HC.out).mono ?_); rintro e w4 ⟨rfl, hb4⟩; have x4 : w4.cell? ⟨w.heap.size, 0, none⟩ = some (.slice a n c) := (hb4.cell (p := ⟨w.heap.size, 0, none⟩) (by simp; omega)).trans (by simp [go_sem, x3, z3]); have W4 : Hid (Below w.heap.size w w4) := Lib.hid ((Below.trans W3.out (Below.alloc (Below.refl _ _) (Nat.le_of_lt z3) _)).trans (hb4.mono (by simp; omega))); have z4 : w.heap.size < w4.heap.size := Nat.lt_of_lt_of_le (by simp; omega) hb4.size; have HWC := Lib.hid ((WhC.mk' w3 h 59).ext hb4); have HRW4 := Lib.hid ((HRW.out.ext (Below.alloc (Below.refl _ _) (Nat.le_refl _) _)).ext hb4); have z5 : w3.heap.size < w4.heap.size := Nat.lt_of_lt_of_le (by simp) hb4.size; clear hb4) | (at_make; refine wpList_mkI rfl _ _ rfl n rfl rfl rfl rfl (by omega) (Nat.le_refl _) ?_; intro w5 hown5 hb5 hz5; have HO5 := Lib.hid hown5; have B5 := Lib.hid hb5; clear hown5 hb5))
  obtain ⟨N, hN⟩ : ∃ N, w4.heap.size = N := ⟨_, rfl⟩
  rw [hN] at HO5 B5 ⊢
  have HN := Lib.hid hN
  clear x1 x2 x3 W1 W2 W3 hN
  go_loopw [36] (fun v wr => ∃ k : Nat, k ≤ n ∧ v = .int .i64 k ∧ wr.ownsRow N 3 1 (.slice (some ⟨N, 0, none⟩) n n) n (((idxs n).take k ++ List.replicate (n - k) (0 : Int)).flatMap enc1) ∧ Below N w4 wr) (fun v _ => n - (intOf v).toNat)
  case atStart => exact ⟨0, Nat.zero_le _, rfl, by simpa using HO5.out, B5.out⟩
  case round =>
    obtain ⟨k, hk, rfl, hO, hB⟩ := hrel
    have HO := Lib.hid hO; have HB := Lib.hid hB
    clear hO hB HO5 B5
    by_cases hlt : k < n
    · obtain ⟨x, hx, c1, f1, hbw⟩ := ownsI_at HO.out k hlt
      clear hx
      go_wp2
      go_roundw
      case rel =>
        refine ⟨k + 1, hlt, by go_num, ?_, HB.out.setCell (p := ⟨N, k, none⟩) (Nat.le_refl _) _⟩
        have h5 := ownsI_set HO.out k (k : Int)
        rw [idxs_fill hlt] at h5
        exact h5
      case measure => simp [intOf]; omega
    · obtain rfl : k = n := by omega
      rw [Nat.sub_self, List.replicate_zero, List.append_nil, List.take_of_length_le (by rw [idxs_len]; exact Nat.le_refl _)] at HO
      have hql : q.length = k := HQL.out
      have hord : isortL (ltOf (cfQ q)) (idxs k) = ordQ q := by rw [cfQ_lt, ← hql]; rfl
      obtain ⟨wo, rfl⟩ : ∃ wo : World, wo = wr := ⟨_, rfl⟩
      have hN1 : N ≤ w4.heap.size := Nat.le_of_eq HN.out.symm
      have hN2 : w4.heap.size ≤ N := Nat.le_of_eq HN.out
      have HSO : Hid (Calls Try.prog 70 #[.slice (some ⟨N, 0, none⟩) k k, .func (.func 71) #[] #[.pointer (some ⟨w.heap.size, 0, none⟩)]] wo (SortP N wo N k k (ordQ q))) := Lib.hid (by
        have := sortStable40 (cfQ_swo q) 71 #[.pointer (some ⟨w.heap.size, 0, none⟩)] N N k k (idxs k) wo hn40 HO.out ⟨fun args w => by kernel_rfl, fun wr' x y hg hx hy => by
          have hb := HB.out.grown hg (by have := HB.out.size; omega) (fun j e => by cases e; exact Nat.le_refl _)
          have hb4 : Below w.heap.size w wr' := W4.out.trans (hb.mono (by omega))
          exact sv3_any q a k c w.heap.size x y (idxs_mem.1 hx) (idxs_mem.1 hy) wr' (Nat.lt_of_lt_of_le (by omega) hb.size) ((hb.cell (p := ⟨w.heap.size, 0, none⟩) (show w.heap.size < N by omega)).trans x4) (HQ.out.ext hb4)⟩
        rw [hord] at this
        exact this)
      clear HO hord
      go_upto_region 15 with (go_at_call 70; (with_reducible refine HSO.out.mono ?_); rintro e w6 ⟨rfl, ho6, hg6⟩; have HO6 := Lib.hid ho6; have hb6 : Below N w4 w6 := HB.out.grown hg6 (by have := HB.out.size; omega) (fun j e => by cases e; exact Nat.le_refl _); have B6 := Lib.hid hb6; have x6 : w6.cell? ⟨w.heap.size, 0, none⟩ = some (.slice a k c) := (hb6.cell (p := ⟨w.heap.size, 0, none⟩) (show w.heap.size < N by omega)).trans x4; have z6 : w.heap.size < w6.heap.size := Nat.lt_of_lt_of_le z4 (by have := hb6.size; omega); clear ho6 hg6 hb6)
      have z6' : N ≤ w6.drew.heap.size := by have := B6.out.size; simp; omega
      have HQ4 := Lib.hid (HQ.out.ext W4.out)
      have HT2 := Lib.hid (two_mk (w := w6) (N := N) (k := k) (HO6.out.lt N rfl).2 (by omega))
      go_cut [4, 5] (fun u v wx => ∃ gb ge : Nat, u = .slice (some ⟨gb, 0, none⟩) k k ∧ v = .slice (some ⟨ge, 0, none⟩) k k ∧ N < gb ∧ N < ge ∧ gb ≠ ge ∧ gb < wx.heap.size ∧ ge < wx.heap.size ∧ wx.ownsRow N 3 1 (.slice (some ⟨gb, 0, none⟩) k k) k ((List.replicate k (0 : Int)).flatMap enc1) ∧ wx.ownsRow N 3 1 (.slice (some ⟨ge, 0, none⟩) k k) k ((List.replicate k (0 : Int)).flatMap enc1) ∧ Below w6.heap.size w6 wx)
      case first =>
        have hmk := run_make_row' (P := Try.prog) 48 3 (.int .i64 0) 8 Try.underlying48 (by kernel_rfl) rfl .i64 .i64 k (by omega) (by omega)
        go_region
        all_goals
          go_wp2_with fail
          go_meet
          first
            | exact ⟨_, _, rfl, rfl, HT2.out.1, HT2.out.2.1, by omega, HT2.out.2.2.1, HT2.out.2.2.2.1, HT2.out.2.2.2.2.1, HT2.out.2.2.2.2.2.1, HT2.out.2.2.2.2.2.2⟩
            | exact ⟨_, _, rfl, rfl, HT2.out.2.1, HT2.out.1, by omega, HT2.out.2.2.2.1, HT2.out.2.2.1, HT2.out.2.2.2.2.2.1, HT2.out.2.2.2.2.1, HT2.out.2.2.2.2.2.2⟩
      case rest =>
        obtain ⟨gb, ge, rfl, rfl, p1, p2, p3, p4, p5, ob, oe, hb7⟩ := hcut
        have hb4 : Below w4.heap.size w4 wc := by
          have := B6.out.size
          rw [HN.out]; exact B6.out.trans (hb7.mono (by omega))
        go_wp2
        obtain ⟨F, hF⟩ : ∃ F, F = wc.heap.size := ⟨_, rfl⟩
        obtain ⟨wf, hwf⟩ : ∃ wf, wf = wc.alloc (.cells #[.int .i64 0, .int .i64 0, .int .i64 0, .int .i64 0] 83) := ⟨_, rfl⟩
        have hbf : Below wc.heap.size wc wf := by rw [hwf]; (repeat' (first | (with_reducible exact Below.refl _ _) | (with_reducible assumption) | (with_reducible refine Below.alloc ?_ ?_ _) | (with_reducible refine Below.drew ?_) | (with_reducible refine Below.draws ?_ _) | (with_reducible refine Below.setCell ?_ ?_ _) | (refine Below.then ?_ (by with_reducible assumption)) | go_size))
        have HS : Hid (SvSt w4 wf N gb ge F k (ordQ q) (layS k ((ordQ q).take 0) (bgN T q)) (layS k ((ordQ q).take 0) (enN T q)) (fun m => freeF T q (m : Int) ((ordQ q).take 0))) := Lib.hid (by
          rw [List.take_zero, layS_nil, layS_nil]
          refine ⟨by rw [HN.out]; exact owns_ext ob hbf, by rw [HN.out]; exact owns_ext oe hbf, by rw [HN.out]; exact owns_ext (owns_ext HO6.out hb7) hbf, fun m hm => ?_, fun m => ?_, hb4.trans (hbf.mono hb4.size), by rw [hwf, hF]; simp, by rw [hF]; omega⟩
          · rw [hwf, hF]
            match m, hm with
            | 0, _ => simp [go_sem, freeF]
            | 1, _ => simp [go_sem, freeF]
            | 2, _ => simp [go_sem, freeF]
            | 3, _ => simp [go_sem, freeF]
          · rw [hwf, hF]; simp [go_sem])
        rw [← hF, ← hwf]
        clear hF hwf hbf hb4 hb7 ob oe HO6 B6 HT2 x6 z6 z6' HSO HB HRW
        go_loopw [55] (fun i wr => ∃ p : Nat, p ≤ k ∧ i = .int .i64 p ∧ SvSt w4 wr N gb ge F k (ordQ q) (layS k ((ordQ q).take p) (bgN T q)) (layS k ((ordQ q).take p) (enN T q)) (fun m => freeF T q (m : Int) ((ordQ q).take p))) (fun i _ => k - (intOf i).toNat)
        case atStart => exact ⟨0, Nat.zero_le _, rfl, HS.out⟩
        case round =>
          clear HS
          obtain ⟨p, hp, rfl, hS⟩ := hrel
          have HS := Lib.hid hS
          clear hS
          by_cases hlp : p < k
          · obtain ⟨kk, hkk, c0, _, _⟩ := ownsI_at HS.out.o p hlp
            have hkm := List.mem_of_getElem? hkk
            obtain ⟨hj0, hj1⟩ := ordQ_mem.1 hkm
            obtain ⟨j, rfl⟩ := Int.eq_ofNat_of_zero_le hj0
            have hjk : j < k := by omega
            obtain ⟨r, b, off, rfl, hb, hr, r0, r1, r2, _⟩ := (HQ4.out.ext HS.out.lb).rq j hjk
            obtain ⟨l1, l2, l3, l4⟩ := HOK.out.b r (List.mem_of_getElem? hr)
            have hcn := HOK.out.ok.c r (List.mem_of_getElem? hr)
            obtain ⟨rm, ro, rk⟩ := r
            simp only [] at r0 r1 r2 l1 l2 l3 l4 hcn
            obtain ⟨mm, rfl⟩ := Int.eq_ofNat_of_zero_le l1.1
            obtain ⟨oo, rfl⟩ := Int.eq_ofNat_of_zero_le l2.1
            obtain ⟨tk, rfl⟩ := Int.eq_ofNat_of_zero_le (show 0 ≤ rk by omega)
            have hm4 : mm < 4 := by omega
            have i0 : (0 : Int) ≤ (mm : Int) := by omega
            have i4 : (mm : Int) < 4 := by omega
            have hrq := rqAt_of hr
            have hfar := bg_far HOK.out (by rw [hql]; exact hn40) hkm
            have hfn := free_far HOK.out (mm : Int) p
            have hfr0 := free_at (T := T) hkk
            have hfo : ∀ m : Nat, m ≠ mm → freeF T q (m : Int) ((ordQ q).take (p + 1)) = freeF T q (m : Int) ((ordQ q).take p) := fun m hm => free_other hkk (by rw [hrq]; simp only []; omega)
            have hen : enN T q (j : Int) = endN T (mm : Int) (bgN T q (j : Int)) tk := by unfold enN; rw [hrq]; simp
            have hbg : bgN T q (j : Int) = max oo (freeF T q (mm : Int) ((ordQ q).take p)) := by unfold bgN; rw [preQ_take hkk, hrq]; simp
            have hlb := layS_step (n := k) (bgN T q) hkk hjk
            have hle := layS_step (n := k) (enN T q) hkk hjk
            have cF0 := HS.out.f mm hm4
            have fF0 := HS.out.ff mm
            try simp only [] at cF0
            rw [hrq] at hfr0
            try simp only [] at hfr0
            obtain ⟨BG, hBG⟩ : ∃ B, bgN T q (j : Int) = B := ⟨_, rfl⟩
            obtain ⟨EN, hEN⟩ : ∃ B, enN T q (j : Int) = B := ⟨_, rfl⟩
            obtain ⟨fr, hfr⟩ : ∃ B, freeF T q (mm : Int) ((ordQ q).take p) = B := ⟨_, rfl⟩
            rw [hBG] at hen hbg hfar hlb
            rw [hEN] at hen hfar hle hfr0
            rw [hfr] at hbg hfn cF0
            have hmx : max (oo : Int) (fr : Int) = (BG : Int) := by omega
            have HMX := Lib.hid hmx; have HLB := Lib.hid hlb; have HLE := Lib.hid hle; have HFO := Lib.hid hfo; have HFR0 := Lib.hid hfr0; have HEN := Lib.hid hen; have HFR := Lib.hid hfr; have HCN := Lib.hid hcn
            have hBGf : BG ≤ 2000000 := hfar.1
            have hENf : EN ≤ 2000000 := hfar.2
            obtain ⟨x, _, g0, gf0, gz⟩ := ownsI_at HS.out.b j hjk
            have hFl := HS.out.fl
            have hpl := HS.out.pl
            have x9 := (HS.out.lb.cell (p := ⟨w.heap.size, 0, none⟩) z4).trans x4
            clear hkk hkm hr hrq hfar hfn hfr0 hfo hen hbg hlb hle hmx hBG hEN hfr l1 l2 hcn
            go_wp2_with fail
            go_cut [] (fun wx => SvSt w4 wx N gb ge F k (ordQ q) (layS k ((ordQ q).take (p + 1)) (bgN T q)) (layS k ((ordQ q).take p) (enN T q)) (fun m => freeF T q (m : Int) ((ordQ q).take p)) ∧ wr.heap.size < wx.heap.size ∧ wx.cell? ⟨wr.heap.size, 0, none⟩ = some (.int .i64 (mm : Int)) ∧ wx.cell? ⟨wr.heap.size, 2, none⟩ = some (.int .i64 (tk : Int)))
            case first =>
              go_region
              go_wp2_with fail
              go_meet
              rw [HMX.out]
              refine ⟨?_, by simp, by simp [go_sem]; try omega, by simp [go_sem]; try omega⟩
              rw [HLB.out]
              exact (HS.out.setB j (BG : Int)).ext (by (repeat' (first | (with_reducible exact Below.refl _ _) | (with_reducible assumption) | (with_reducible refine Below.alloc ?_ ?_ _) | (with_reducible refine Below.drew ?_) | (with_reducible refine Below.draws ?_ _) | (with_reducible refine Below.setCell ?_ ?_ _) | (refine Below.then ?_ (by with_reducible assumption)) | go_size)))
            case rest =>
              obtain ⟨hS2, hpb, b0, b2⟩ := hcut
              have HS2 := Lib.hid hS2
              have hWC := HWC.out.ext hS2.lb
              have HRW5 := Lib.hid ((HRW4.out.ext hS2.lb).ext (Below.refl wc.heap.size wc).drew)
              have hbg2 : wc.cell? ⟨gb, j, none⟩ = some (.int .i64 (BG : Int)) := by
                obtain ⟨y, hy, g, _⟩ := ownsI_at hS2.b j hjk
                rw [HLB.out, List.getElem?_set] at hy
                simp at hy
                rw [g, ← hy.2]
              obtain ⟨y, _, e0, ef0, ez⟩ := ownsI_at hS2.e j hjk
              have m0 := hWC.c0; have m1 := hWC.c1; have m2 := hWC.c2; have m3 := hWC.c3; have m4 := hWC.c4
              have hwl := hWC.lt
              clear hS2 hWC
              have hgel := hpl.2.2.2.2.2
              have hgb2 : ge ≠ gb := fun e => hpl.2.2.2.1 e.symm
              have hge3 : ge ≠ w3.heap.size := by omega
              go_wp2_with fail
              go_cut [] (fun wx => SvSt w4 wx N gb ge F k (ordQ q) (layS k ((ordQ q).take (p + 1)) (bgN T q)) (layS k ((ordQ q).take (p + 1)) (enN T q)) (fun m => freeF T q (m : Int) ((ordQ q).take p)) ∧ wr.heap.size < wx.heap.size ∧ wx.cell? ⟨wr.heap.size, 0, none⟩ = some (.int .i64 (mm : Int)))
              case first =>
                go_region_held3 (fun w' => w'.cell? ⟨w3.heap.size, 0, none⟩ = some (sl (h 0)) ∧ w'.cell? ⟨w3.heap.size, 1, none⟩ = some (sl (h 1)) ∧ w'.cell? ⟨w3.heap.size, 2, none⟩ = some (sl (h 2)) ∧ w'.cell? ⟨w3.heap.size, 3, none⟩ = some (sl (h 3)) ∧ w'.cell? ⟨w3.heap.size, 4, none⟩ = some (sl (h 4)) ∧ w'.cell? ⟨wr.heap.size, 0, none⟩ = some (.int .i64 (mm : Int)) ∧ w'.cell? ⟨wr.heap.size, 2, none⟩ = some (.int .i64 (tk : Int)) ∧ w'.cell? ⟨gb, j, none⟩ = some (.int .i64 (BG : Int))) (first | (refine ⟨?_, ?_, ?_, ?_, ?_, ?_, ?_, ?_⟩ <;> first | assumption | (refine (World.cell?_setCell_other _ _ _ _ (addr_neQ (.inl (by omega)))).trans ?_; assumption)) | go_keep)
                  (first
                    | (go_at_call 46; (with_reducible refine (end_int h T mm BG tk _ _ _ (by rfl) (by rfl) (by rfl) hm4 (by omega) (by omega) (by omega) _ HRW5.out HCN.out htl4).mono ?_); rintro e w8 ⟨rfl, hb8⟩; have B8 := Lib.hid hb8; have v0 := keep_c hb8 m0; have v1 := keep_c hb8 m1; have v2 := keep_c hb8 m2; have v3 := keep_c hb8 m3; have v4 := keep_c hb8 m4; have v5 := keep_c hb8 b0; have v6 := keep_c hb8 b2; have v7 := keep_c hb8 hbg2; have v8 := keep_c hb8 e0; have v9 := (hb8.frozen (p := ⟨ge, j, none⟩) ez).trans ef0; clear hb8))
                all_goals
                  go_wp2_with fail
                  go_meet
                  have h9 := (HS2.out.ext (Below.then (Below.refl wc.heap.size wc).drew B8.out)).setE j (EN : Int)
                  have hz8 : wr.heap.size < w8.heap.size := by have := B8.out.size; simp at this; omega
                  obtain rfl := HEN.out
                  refine ⟨?_, by simpa using hz8, (World.cell?_setCell_other _ _ _ _ (addr_neQ (.inl (by omega)))).trans v5⟩
                  rw [HLE.out]
                  exact h9
              case rest =>
                obtain ⟨hS3, hpb3, b3⟩ := hcut
                have HS3 := Lib.hid hS3
                have hen2 : wc.cell? ⟨ge, j, none⟩ = some (.int .i64 (EN : Int)) := by
                  obtain ⟨y, hy, g, _⟩ := ownsI_at hS3.e j hjk
                  rw [HLE.out, List.getElem?_set] at hy
                  simp at hy
                  rw [g, ← hy.2]
                have cF3 := hS3.f mm hm4
                have fF3 := hS3.ff mm
                have lF3 := hS3.fl
                clear hS3 HS2 m0 m1 m2 m3 m4 e0 ef0 b0 b2 hbg2 HRW5
                go_wp2_with fail
                go_region
                go_wp2
                go_roundw
                case rel =>
                  refine ⟨p + 1, hlp, by go_num, ?_⟩
                  have h7 := HS3.out.setF mm hm4 EN
                  have e : (fun m : Nat => if m = mm then EN else freeF T q (m : Int) ((ordQ q).take p)) = (fun m : Nat => freeF T q (m : Int) ((ordQ q).take (p + 1))) := by
                    funext m
                    by_cases hm : m = mm
                    · subst hm; rw [if_pos rfl, HFR0.out]
                    · rw [if_neg hm, HFO.out m hm]
                  rw [e] at h7
                  exact h7.ext (by (repeat' (first | (with_reducible exact Below.refl _ _) | (with_reducible assumption) | (with_reducible refine Below.alloc ?_ ?_ _) | (with_reducible refine Below.drew ?_) | (with_reducible refine Below.draws ?_ _) | (with_reducible refine Below.setCell ?_ ?_ _) | (refine Below.then ?_ (by with_reducible assumption)) | go_size)))
                case measure => simp [intOf]; omega
          · obtain rfl : p = k := by omega
            have hall : ∀ j ∈ idxs p, j ∈ (ordQ q).take p := fun j hj => by
              rw [List.take_of_length_le (by rw [ordQ_len, hql]; exact Nat.le_refl _), ordQ_mem, hql]; exact idxs_mem.1 hj
            have HBE : Hid (layS p ((ordQ q).take p) (bgN T q) = BL) := Lib.hid (by rw [layS_all hall, ← HBL.out]; unfold begL; rw [hql])
            have HEE : Hid (layS p ((ordQ q).take p) (enN T q) = EL) := Lib.hid (by rw [layS_all hall, ← HEL.out]; unfold endL; rw [hql])
            clear hall
            go_wp2
            refine bodyPost_ret (results_tmp3 rfl _ _ _) rfl ?_
            refine ⟨_, _, _, _, _, _, rfl, ?_, ?_, W4.out.trans (HS.out.lb.mono W4.out.size)⟩
            · have := HS.out.b; rw [HBE.out] at this; exact owns_mono this W4.out.size
            · have := HS.out.e; rw [HEE.out] at this; exact owns_mono this W4.out.size
theorem serve_any (a0 a : Option Addr) (n0 c0 n c : Nat) (l : List P2) (q : List Rq) (w : World) (hL : Rd w a0 n0 2 (l.map enc2)) (hQ : Rd w a n 3 (q.map encQ)) :
    Calls Try.prog 63 #[.slice a0 n0 c0, .slice a n c] w (OutSv w (srvR l q).1 (srvR l q).2.1 (srvR l q).2.2) := by
  unfold srvR
  by_cases h : srvE l q = 0
  · rw [if_pos h]; exact serve_ok a0 a n0 c0 n c l q w hL hQ h
  · rw [if_neg h]; exact serve_bad a0 a n0 c0 n c l q w hL hQ h
end Go.Proofs.Ytgldgomjlcojaaa
