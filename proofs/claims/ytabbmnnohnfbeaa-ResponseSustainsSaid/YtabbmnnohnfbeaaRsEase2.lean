/- The contract of Easier of the program. The conditions: the tasks read as named. -/
import Derived.Test.YtabbmnnohnfbeaaRsEase
import Derived.Test.YtabbmnnohnfbeaaRsDemW
namespace Go.Proofs.Ytabbmnnohnfbeaa
open Go.RowKit
set_option linter.unusedSimpArgs false
set_option linter.unusedVariables false
set_option maxRecDepth 10000 in
set_option maxHeartbeats 2000000 in
theorem easF_is (p0 p1 p2 p3 p4 : Int) (pa : Option Addr) (pn pc : Nat) (ps : List P2) (q0 q1 q2 q3 q4 : Int) (qa : Option Addr) (qn qc : Nat) (qs : List P2) {v : Bool} {w : World} (hA : Rd w pa pn 2 (ps.map enc2)) (hB : Rd w qa qn 2 (qs.map enc2))
    (hv : vpat p2 p3 p4 = true) (hv' : vpat q2 q3 q4 = true) (h : easT ⟨p0, p1, p2, p3, p4, ps⟩ ⟨q0, q1, q2, q3, q4, qs⟩ = v) :
    Calls Try.prog 84 #[.agg #[.int .i64 p0, .int .i64 p1, .int .i64 p2, .int .i64 p3, .int .i64 p4, .slice pa pn pc], .agg #[.int .i64 q0, .int .i64 q1, .int .i64 q2, .int .i64 q3, .int .i64 q4, .slice qa qn qc]] w fun e w' => e = .returned (.bool v) ∧ Below w.heap.size w w' := by
  have HA := Lib.hid hA; have HB := Lib.hid hB
  have HV := Lib.hid hv; have HV' := Lib.hid hv'
  obtain ⟨lo, hlo⟩ : ∃ b, decide (p2 ≤ q2 ∧ p3 ≤ q3 ∧ q4 ≤ p4) = b := ⟨_, rfl⟩
  have HLO := Lib.hid hlo
  have h' : (lo && (decide (p0 = q0) && (decide (p1 ≤ q1) && easP ps qs))) = v := by rw [← h, ← hlo]; rfl
  clear hA hB hv hv' h hlo
  cases lo
  · obtain rfl : v = false := by rw [← h', Bool.false_and]
    clear h'
    go_enter Try.func84, Try.ntmps84
    go_wp2_with (go_at_call 85; (with_reducible refine (looser_is HV'.out HV.out HLO.out).mono ?_); rintro e w1 ⟨rfl, hb1⟩; have B1 := Lib.hid (Below.then (show Below w.heap.size w _ by (repeat' (first | (with_reducible exact Below.refl _ _) | (with_reducible assumption) | (with_reducible refine Below.alloc ?_ ?_ _) | (with_reducible refine Below.drew ?_) | (with_reducible refine Below.draws ?_ _) | (with_reducible refine Below.setCell ?_ ?_ _) | (refine Below.then ?_ (by with_reducible assumption)) | go_size))) hb1); clear hb1)
    go_ret
    exact ⟨rfl, B1.out⟩
  · rw [Bool.true_and] at h'
    by_cases e0 : p0 = q0
    · subst e0
      by_cases e1 : p1 ≤ q1
      · obtain rfl : easP ps qs = v := by rw [← h', decide_eq_true rfl, decide_eq_true e1, Bool.true_and, Bool.true_and]
        have e1' : decide (p1 ≤ q1) = true := by simpa using e1
        clear h'
        go_enter Try.func84, Try.ntmps84
        go_wp2_with (first
          | (go_at_call 85; (with_reducible refine (looser_is HV'.out HV.out HLO.out).mono ?_); rintro e w1 ⟨rfl, hb1⟩; have B1 := Lib.hid (Below.then (show Below w.heap.size w _ by (repeat' (first | (with_reducible exact Below.refl _ _) | (with_reducible assumption) | (with_reducible refine Below.alloc ?_ ?_ _) | (with_reducible refine Below.drew ?_) | (with_reducible refine Below.draws ?_ _) | (with_reducible refine Below.setCell ?_ ?_ _) | (refine Below.then ?_ (by with_reducible assumption)) | go_size))) hb1); have c0 := (hb1.cell (p := ⟨w.heap.size, 0, none⟩) (by simp <;> omega)).trans (show _ = some (.int .i64 p0) by simp [go_sem]); have c1 := (hb1.cell (p := ⟨w.heap.size, 1, none⟩) (by simp <;> omega)).trans (show _ = some (.int .i64 p1) by simp [go_sem]); have c5 := (hb1.cell (p := ⟨w.heap.size, 5, none⟩) (by simp <;> omega)).trans (show _ = some (.slice pa pn pc) by simp [go_sem]); have d0 := (hb1.cell (p := ⟨w.heap.size + 1, 0, none⟩) (by simp <;> omega)).trans (show _ = some (.int .i64 p0) by simp [go_sem]); have d1 := (hb1.cell (p := ⟨w.heap.size + 1, 1, none⟩) (by simp <;> omega)).trans (show _ = some (.int .i64 q1) by simp [go_sem]); have d5 := (hb1.cell (p := ⟨w.heap.size + 1, 5, none⟩) (by simp <;> omega)).trans (show _ = some (.slice qa qn qc) by simp [go_sem]); clear hb1)
          | (go_at_call 86; (with_reducible refine (eqP_is (HA.out.ext B1.out) (HB.out.ext B1.out) rfl).mono ?_); rintro e w2 ⟨rfl, hb2⟩; have B2 := Lib.hid hb2; clear hb2))
        go_ret
        exact ⟨ret_bool (by simp [*]), Below.then B1.out B2.out⟩
      · obtain rfl : v = false := by rw [← h', decide_eq_false e1, Bool.false_and, Bool.and_false]
        have e1' : decide (p1 ≤ q1) = false := by simpa using e1
        clear h'
        go_enter Try.func84, Try.ntmps84
        go_wp2_with (go_at_call 85; (with_reducible refine (looser_is HV'.out HV.out HLO.out).mono ?_); rintro e w1 ⟨rfl, hb1⟩; have B1 := Lib.hid (Below.then (show Below w.heap.size w _ by (repeat' (first | (with_reducible exact Below.refl _ _) | (with_reducible assumption) | (with_reducible refine Below.alloc ?_ ?_ _) | (with_reducible refine Below.drew ?_) | (with_reducible refine Below.draws ?_ _) | (with_reducible refine Below.setCell ?_ ?_ _) | (refine Below.then ?_ (by with_reducible assumption)) | go_size))) hb1); have c0 := (hb1.cell (p := ⟨w.heap.size, 0, none⟩) (by simp <;> omega)).trans (show _ = some (.int .i64 p0) by simp [go_sem]); have c1 := (hb1.cell (p := ⟨w.heap.size, 1, none⟩) (by simp <;> omega)).trans (show _ = some (.int .i64 p1) by simp [go_sem]); have d0 := (hb1.cell (p := ⟨w.heap.size + 1, 0, none⟩) (by simp <;> omega)).trans (show _ = some (.int .i64 p0) by simp [go_sem]); have d1 := (hb1.cell (p := ⟨w.heap.size + 1, 1, none⟩) (by simp <;> omega)).trans (show _ = some (.int .i64 q1) by simp [go_sem]); clear hb1)
        go_ret
        exact ⟨ret_bool (by simp [*]), B1.out⟩
    · obtain rfl : v = false := by rw [← h', decide_eq_false e0, Bool.false_and]
      clear h'
      go_enter Try.func84, Try.ntmps84
      go_wp2_with (go_at_call 85; (with_reducible refine (looser_is HV'.out HV.out HLO.out).mono ?_); rintro e w1 ⟨rfl, hb1⟩; have B1 := Lib.hid (Below.then (show Below w.heap.size w _ by (repeat' (first | (with_reducible exact Below.refl _ _) | (with_reducible assumption) | (with_reducible refine Below.alloc ?_ ?_ _) | (with_reducible refine Below.drew ?_) | (with_reducible refine Below.draws ?_ _) | (with_reducible refine Below.setCell ?_ ?_ _) | (refine Below.then ?_ (by with_reducible assumption)) | go_size))) hb1); have c0 := (hb1.cell (p := ⟨w.heap.size, 0, none⟩) (by simp <;> omega)).trans (show _ = some (.int .i64 p0) by simp [go_sem]); have d0 := (hb1.cell (p := ⟨w.heap.size + 1, 0, none⟩) (by simp <;> omega)).trans (show _ = some (.int .i64 q0) by simp [go_sem]); clear hb1)
      go_ret
      exact ⟨ret_bool (by simp [*]), B1.out⟩
set_option maxRecDepth 10000 in
set_option maxHeartbeats 2000000 in
theorem eqT_any (a b : Option Addr) (n m c d : Nat) (L K : List Ta) (w : World) (hA : RdL w a n L) (hB : RdL w b m K) (hL : ValidT L) (hK : ValidT K) :
    Calls Try.prog 83 #[.slice a n c, .slice b m d, .func (.func 84) #[] #[]] w fun e w' => e = .returned (.bool (easL L K)) ∧ Below w.heap.size w w' := by
  have hs := hA.small
  have hs2 := hB.small
  have HLA := Lib.hid hA.length
  have HLB := Lib.hid hB.length
  have HA := Lib.hid hA; have HB := Lib.hid hB
  have HL := Lib.hid hL; have HK := Lib.hid hK
  by_cases hnm : n = m
  · subst hnm
    obtain ⟨R, hR⟩ : ∃ R, easL L K = R := ⟨_, rfl⟩
    have HR : Hid (easL (L.drop 0) (K.drop 0) = R) := Lib.hid hR
    rw [hR]
    clear hA hB hR hL hK
    go_enter Try.func83, Try.ntmps83
    go_wp2
    go_loopw [17] (fun i wr => ∃ k : Nat, k ≤ n ∧ i = .int .i64 k ∧ easL (L.drop k) (K.drop k) = R ∧ Below w.heap.size w wr) (fun i _ => n - (intOf i).toNat)
    case atStart => exact ⟨0, Nat.zero_le _, rfl, HR.out, by (repeat' (first | (with_reducible exact Below.refl _ _) | (with_reducible assumption) | (with_reducible refine Below.alloc ?_ ?_ _) | (with_reducible refine Below.drew ?_) | (with_reducible refine Below.draws ?_ _) | (with_reducible refine Below.setCell ?_ ?_ _) | (refine Below.then ?_ (by with_reducible assumption)) | go_size))⟩
    case round =>
      clear HR
      obtain ⟨k, hk, rfl, he, hb⟩ := hrel
      have HE := Lib.hid he; have HW := Lib.hid hb
      clear he hb
      by_cases hlt : k < n
      · obtain ⟨t, b1, o1, pa, pn, pc, rfl, hb1, c0, c1, c2, c3, c4, c5, hp, _, hg, HD⟩ := (HA.out.ext HW.out).at_ k hlt
        obtain ⟨u, b2, o2, qa, qn, qc, rfl, hb2, d0, d1, d2, d3, d4, d5, hq, _, hg', HD'⟩ := (HB.out.ext HW.out).at_ k hlt
        have hE := HE.out
        rw [HD.out, HD'.out, easL] at hE
        have HVt := Lib.hid (HL.out.vp t (List.mem_of_getElem? hg))
        have HVu := Lib.hid (HK.out.vp u (List.mem_of_getElem? hg'))
        obtain ⟨v, hv⟩ : ∃ v, easT t u = v := ⟨_, rfl⟩
        have HV := Lib.hid hv
        rw [hv] at hE
        have HP := Lib.hid hp; have HQ := Lib.hid hq
        have n1 : ¬ b1 = wr.heap.size := by omega
        have n2 : ¬ b2 = wr.heap.size := by omega
        clear HE HD HD' hg hg' hv hp hq
        obtain ⟨p0, p1, p2, p3, p4, ps⟩ := t
        obtain ⟨q0, q1, q2, q3, q4, qs⟩ := u
        simp only [] at c0 c1 c2 c3 c4 c5 d0 d1 d2 d3 d4 d5
        cases v
        · obtain rfl : R = false := by rw [← hE, Bool.false_and]
          clear hE
          go_wp2_with (go_at_call 84; (with_reducible refine (easF_is _ _ _ _ _ _ _ _ _ _ _ _ _ _ _ _ _ _ (HP.out.ext (show Below wr.heap.size wr _ by (repeat' (first | (with_reducible exact Below.refl _ _) | (with_reducible assumption) | (with_reducible refine Below.alloc ?_ ?_ _) | (with_reducible refine Below.drew ?_) | (with_reducible refine Below.draws ?_ _) | (with_reducible refine Below.setCell ?_ ?_ _) | (refine Below.then ?_ (by with_reducible assumption)) | go_size)))) (HQ.out.ext (show Below wr.heap.size wr _ by (repeat' (first | (with_reducible exact Below.refl _ _) | (with_reducible assumption) | (with_reducible refine Below.alloc ?_ ?_ _) | (with_reducible refine Below.drew ?_) | (with_reducible refine Below.draws ?_ _) | (with_reducible refine Below.setCell ?_ ?_ _) | (refine Below.then ?_ (by with_reducible assumption)) | go_size)))) HVt.out HVu.out HV.out).mono ?_); rintro e w1 ⟨rfl, hw1⟩; have B1 := Lib.hid (Below.then (show Below wr.heap.size wr _ by (repeat' (first | (with_reducible exact Below.refl _ _) | (with_reducible assumption) | (with_reducible refine Below.alloc ?_ ?_ _) | (with_reducible refine Below.drew ?_) | (with_reducible refine Below.draws ?_ _) | (with_reducible refine Below.setCell ?_ ?_ _) | (refine Below.then ?_ (by with_reducible assumption)) | go_size))) hw1); clear hw1)
          go_ret
          exact ⟨rfl, Below.then HW.out B1.out⟩
        · rw [Bool.true_and] at hE
          have HE := Lib.hid hE
          clear hE
          go_wp2_with (go_at_call 84; (with_reducible refine (easF_is _ _ _ _ _ _ _ _ _ _ _ _ _ _ _ _ _ _ (HP.out.ext (show Below wr.heap.size wr _ by (repeat' (first | (with_reducible exact Below.refl _ _) | (with_reducible assumption) | (with_reducible refine Below.alloc ?_ ?_ _) | (with_reducible refine Below.drew ?_) | (with_reducible refine Below.draws ?_ _) | (with_reducible refine Below.setCell ?_ ?_ _) | (refine Below.then ?_ (by with_reducible assumption)) | go_size)))) (HQ.out.ext (show Below wr.heap.size wr _ by (repeat' (first | (with_reducible exact Below.refl _ _) | (with_reducible assumption) | (with_reducible refine Below.alloc ?_ ?_ _) | (with_reducible refine Below.drew ?_) | (with_reducible refine Below.draws ?_ _) | (with_reducible refine Below.setCell ?_ ?_ _) | (refine Below.then ?_ (by with_reducible assumption)) | go_size)))) HVt.out HVu.out HV.out).mono ?_); rintro e w1 ⟨rfl, hw1⟩; have B1 := Lib.hid (Below.then (show Below wr.heap.size wr _ by (repeat' (first | (with_reducible exact Below.refl _ _) | (with_reducible assumption) | (with_reducible refine Below.alloc ?_ ?_ _) | (with_reducible refine Below.drew ?_) | (with_reducible refine Below.draws ?_ _) | (with_reducible refine Below.setCell ?_ ?_ _) | (refine Below.then ?_ (by with_reducible assumption)) | go_size))) hw1); clear hw1)
          go_roundw
          case rel => exact ⟨k + 1, by omega, by go_num, HE.out, Below.then HW.out B1.out⟩
          case measure => simp [intOf]; omega
      · obtain rfl : R = true := by rw [← HE.out, drop_end HLA.out (by omega), drop_end HLB.out (by omega)]; rfl
        clear HE
        go_wp2
        go_ret
        exact ⟨rfl, HW.out⟩
  · rw [easL_len (fun h => hnm (by rw [← HLA.out, ← HLB.out, h]))]
    clear hA hB hL hK
    go_enter Try.func83, Try.ntmps83
    go_wp2
    go_ret
    exact ⟨rfl, by (repeat' (first | (with_reducible exact Below.refl _ _) | (with_reducible assumption) | (with_reducible refine Below.alloc ?_ ?_ _) | (with_reducible refine Below.drew ?_) | (with_reducible refine Below.draws ?_ _) | (with_reducible refine Below.setCell ?_ ?_ _) | (refine Below.then ?_ (by with_reducible assumption)) | go_size))⟩
theorem eqT_is {a b : Option Addr} {n m c d : Nat} {L K : List Ta} {v : Bool} {w : World} (hA : RdL w a n L) (hB : RdL w b m K) (hL : ValidT L) (hK : ValidT K) (h : easL L K = v) :
    Calls Try.prog 83 #[.slice a n c, .slice b m d, .func (.func 84) #[] #[]] w fun e w' => e = .returned (.bool v) ∧ Below w.heap.size w w' := by subst h; exact eqT_any a b n m c d L K w hA hB hL hK
set_option maxRecDepth 10000 in
theorem Easier_is {a b : Option Addr} {n m c d : Nat} {L K : List Ta} {v : Bool} {x : Int} {w : World} (hA : RdL w a n L) (hB : RdL w b m K) (h : easR L K = (v, x)) :
    Calls Try.prog 44 #[.slice a n c, .slice b m d] w fun e w' => e = rBI v x ∧ Below w.heap.size w w' := by
  have HA := Lib.hid hA; have HB := Lib.hid hB
  obtain ⟨vl, hvl⟩ : ∃ b, validL L = b := ⟨_, rfl⟩
  obtain ⟨vk, hvk⟩ : ∃ b, validL K = b := ⟨_, rfl⟩
  have HVL := Lib.hid hvl; have HVK := Lib.hid hvk
  unfold easR at h
  rw [hvl, hvk] at h
  cases vl
  · simp at h
    obtain ⟨rfl, rfl⟩ := h
    clear hA hB hvl hvk
    go_enter Try.func44, Try.ntmps44
    go_wp2_with (go_at_call 33; (with_reducible refine (valid_is HA.out HVL.out).mono ?_); rintro e w1 ⟨rfl, hb1⟩; have B1 := Lib.hid hb1; clear hb1)
    go_ret2
    exact ⟨rfl, B1.out⟩
  · cases vk
    · simp at h
      obtain ⟨rfl, rfl⟩ := h
      clear hA hB hvl hvk
      go_enter Try.func44, Try.ntmps44
      go_wp2_with (first
        | (go_at_call 33; (with_reducible refine (valid_is HA.out HVL.out).mono ?_); rintro e w1 ⟨rfl, hb1⟩; have B1 := Lib.hid hb1; clear hb1)
        | (go_at_call 33; (with_reducible refine (valid_is (HB.out.ext B1.out) HVK.out).mono ?_); rintro e w2 ⟨rfl, hb2⟩; have B2 := Lib.hid hb2; clear hb2))
      go_ret2
      exact ⟨rfl, Below.then B1.out B2.out⟩
    · simp at h
      obtain ⟨h1, rfl⟩ := h
      have HE := Lib.hid h1
      have HL := Lib.hid (valid_of hvl)
      have HK := Lib.hid (valid_of hvk)
      clear hA hB hvl hvk h1
      go_enter Try.func44, Try.ntmps44
      go_wp2_with (first
        | (go_at_call 33; (with_reducible refine (valid_is HA.out HVL.out).mono ?_); rintro e w1 ⟨rfl, hb1⟩; have B1 := Lib.hid hb1; clear hb1)
        | (go_at_call 33; (with_reducible refine (valid_is (HB.out.ext B1.out) HVK.out).mono ?_); rintro e w2 ⟨rfl, hb2⟩; have B2 := Lib.hid (Below.then B1.out hb2); clear hb2)
        | (go_at_call 83; (with_reducible refine (eqT_is (HA.out.ext B2.out) (HB.out.ext B2.out) HL.out HK.out HE.out).mono ?_); rintro e w3 ⟨rfl, hb3⟩; have B3 := Lib.hid hb3; clear hb3))
      go_ret2
      exact ⟨rfl, Below.then B2.out B3.out⟩
end Go.Proofs.Ytabbmnnohnfbeaa
