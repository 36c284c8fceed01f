/- The walk of ResponseClaims: it returns true. The conditions: the tasks and the windows read as named; their lists are no longer than memory bears. -/
import Derived.Test.YtabbmnnohnfbeaaRsSane
import Derived.Test.YtabbmnnohnfbeaaRsClaim
namespace Go.Proofs.Ytabbmnnohnfbeaa
open Go.RowKit
set_option linter.unusedSimpArgs false
set_option linter.unusedVariables false
theorem claimB_iff {L : List Ta} {F S : Int} : ∀ (xs : List Int) (k : Nat), claimB L F S k xs = true ↔ ∀ (j : Nat) (x : Int), xs[j]? = some x → claim1 L F S (k + j) x = true
  | [], k => by simp [claimB]
  | y :: xs, k => by
    rw [claimB_cons, Bool.and_eq_true, claimB_iff xs (k + 1)]
    constructor
    · rintro ⟨h1, h2⟩ j x hj
      cases j with
      | zero => simp at hj; subst hj; exact h1
      | succ j => have := h2 j x (by simpa using hj); rw [show k + (j + 1) = k + 1 + j by omega]; exact this
    · intro h
      refine ⟨h 0 y rfl, fun j x hj => ?_⟩
      have := h (j + 1) x (by simpa using hj)
      rw [show k + 1 + j = k + (j + 1) by omega]; exact this
theorem claim1_iff {L : List Ta} {F S x : Int} {k : Nat} : claim1 L F S k x = true ↔ 1 ≤ x ∧ x ≤ 2000 ∧ (taAt L k).jit + x ≤ (taAt L k).dl ∧ demN L k x ≤ leastN F S x := by
  simp [claim1, and_assoc]
theorem claim_meet {L : List Ta} {F S x : Int} {k : Nat} (h : claim1 L F S k x = true) : meetB L F S k = true := by
  obtain ⟨h1, h2, h3, h4⟩ := claim1_iff.1 h
  obtain ⟨y, rfl⟩ := Int.eq_ofNat_of_zero_le (show 0 ≤ x by omega)
  have hI := isWin L F S k
  have hb := winN_bd L F S k
  unfold meetB
  rw [Bool.and_eq_true, decide_eq_true_eq, decide_eq_true_eq]
  by_cases h0 : winN L F S k = 0
  · exact absurd h4 (hI.none_ h0 y (by omega) (by omega))
  · obtain ⟨z, hz, z1, z2, z3, z4⟩ := hI.some_ h0
    rw [hz]
    rcases Nat.lt_or_ge y z with q | q
    · exact absurd h4 (z4 y (by omega) q)
    · omega
theorem meet_claim {L : List Ta} {F S : Int} {k : Nat} (h : meetB L F S k = true) : claim1 L F S k (winN L F S k) = true := by
  unfold meetB at h
  rw [Bool.and_eq_true, decide_eq_true_eq, decide_eq_true_eq] at h
  have hb := winN_bd L F S k
  obtain ⟨z, hz, z1, z2, z3, z4⟩ := (isWin L F S k).some_ (by omega)
  rw [claim1_iff]
  refine ⟨by omega, hb.2, h.2, ?_⟩
  rw [hz]; exact z3
theorem claim_acc {L : List Ta} {F S x : Int} {xs : List Int} (h : claimR L F S xs = (true, x)) : accE L F S = 0 := by
  unfold claimR at h
  split at h
  · rename_i hc
    unfold claimC at hc
    rw [Bool.and_eq_true, Bool.and_eq_true, decide_eq_true_eq] at hc
    obtain ⟨ho, hl, _⟩ := hc
    simp at h
    have h1 := (claimB_iff xs 0).1 h.1
    have ha : accB L F S = true := accB_iff.2 (fun j hj => by
      have hjx : j < xs.length := by omega
      have := h1 j _ (List.getElem?_eq_getElem hjx)
      rw [Nat.zero_add] at this
      exact claim_meet this)
    rw [accE, ho, ha]; rfl
  · simp at h
theorem acc_claim {L : List Ta} {F S : Int} (h : accE L F S = 0) : okB L F S = true ∧ claimR L F S ((List.range L.length).map (fun (k : Nat) => winN L F S k)) = (true, 0) ∧ ∀ k : Nat, k < L.length → winR L F S k = (winN L F S k, 0) := by
  have ho : okB L F S = true := by
    unfold accE at h
    split at h
    · assumption
    · simp at h
  have ha : accB L F S = true := by
    unfold accE at h
    rw [ho] at h
    cases q : accB L F S
    · rw [q] at h; simp at h
    · rfl
  have hm := accB_iff.1 ha
  have hc : claimC L F S ((List.range L.length).map (fun (k : Nat) => winN L F S k)) = true := by
    unfold claimC
    rw [ho, Bool.true_and, Bool.and_eq_true, decide_eq_true_eq, List.all_eq_true]
    refine ⟨by simp, fun x hx => ?_⟩
    obtain ⟨k, _, rfl⟩ := List.mem_map.1 hx
    have := winN_bd L F S k
    exact inB_iff.2 (by omega)
  refine ⟨ho, ?_, fun k hk => ?_⟩
  · rw [claimR, hc, if_pos rfl]
    congr 1
    refine (claimB_iff _ 0).2 (fun j x hj => ?_)
    rw [List.getElem?_map] at hj
    by_cases hjl : j < L.length
    · rw [List.getElem?_range hjl] at hj
      simp at hj
      subst hj
      rw [Nat.zero_add]
      exact meet_claim (hm j hjl)
    · rw [List.getElem?_eq_none (by simpa using Nat.le_of_not_lt hjl)] at hj
      simp at hj
  · have h1 := hm k hk
    unfold meetB at h1
    rw [Bool.and_eq_true, decide_eq_true_eq] at h1
    rw [winR, ho, inT_iff.2 ⟨by omega, by omega⟩]
    simp
    omega
set_option maxRecDepth 10000 in
set_option maxHeartbeats 8000000 in
theorem claims_walk {w : World} (a : Option Addr) (n c : Nat) (L : List Ta) (hL : RdL w a n L) (hT : ∀ t ∈ L, t.pcs.length ≤ 281474976710656) (hN : NilOk a n c) (F S : Int) (a2 : Option Addr) (m c2 : Nat) (xs : List Int) (hX : Rd w a2 m 1 (xs.map enc1)) :
    Calls Try.prog 7 #[.slice a n c, .agg #[.int .i64 F, .int .i64 S], .slice a2 m c2] w fun e w' => e = .returned (.bool true) ∧ Below w.heap.size w w' := by
  have HM := Lib.hid ((many_any a n c L _ (hL.ext (Below.alloc (Below.refl _ _) (Nat.le_refl _) _)) hT) : Calls Try.prog 15 #[.slice a n c] (w.alloc (.cells #[.int .i64 F, .int .i64 S] 24)) _)
  have HR := Lib.hid hL
  have HX := Lib.hid hX
  have hll := hL.length
  have hsm := hL.small
  have hsx := hX.small
  cases hm : manyL n L
  · rw [hm] at HM
    have hn4 := (Many_no hm).1
    by_cases h100 : 100 < m
    · have h100' : (100 : Int) < (m : Int) := by omega
      clear hL hX hT hm hll
      go_enter Try.func7, Try.ntmps7
      go_wp2_with (first
      | (go_at_call 15; refine (HM.out).mono ?_; rintro e w1 ⟨rfl, rfl⟩)
      | (go_at_call 36; first
          | ((with_reducible refine (Claim_is (HR.out.ext (Below.alloc (Below.refl _ _) (Nat.le_refl _) _)) (HX.out.ext (Below.alloc (Below.refl _ _) (Nat.le_refl _) _)) HC.out).mono ?_); rintro e w1 ⟨rfl, hb1⟩; have B1 := Lib.hid (Below.then (Below.alloc (Below.refl _ _) (Nat.le_refl _) _) hb1); have c0 := (hb1.cell (p := ⟨w.heap.size, 0, none⟩) (by simp)).trans (show _ = some (.int .i64 F) by simp [go_sem]); have c1 := (hb1.cell (p := ⟨w.heap.size, 1, none⟩) (by simp)).trans (show _ = some (.int .i64 S) by simp [go_sem]); have hz1 := hb1.size; simp only [World.size_alloc] at hz1; clear hb1)
          | ((with_reducible refine (Claim_is (HR.out.ext (show Below w.heap.size w wr from (by repeat (first | (with_reducible exact Below.refl _ _) | (refine Below.then ?_ (Hid.out (by with_reducible assumption))))))) (ownsI_rd HOO.out) HC2.out).mono ?_); rintro e w8 ⟨rfl, hb8⟩; have B8 := Lib.hid hb8; clear hb8))
      | (go_at_call 37; (with_reducible refine (rClaim_is (HR.out.ext (by repeat (first | (with_reducible exact Below.refl _ _) | (refine Below.then ?_ (Hid.out (by with_reducible assumption)))))) (HX.out.ext (by repeat (first | (with_reducible exact Below.refl _ _) | (refine Below.then ?_ (Hid.out (by with_reducible assumption)))))) HC.out).mono ?_); rintro e w2 ⟨rfl, hb2⟩; have B2 := Lib.hid hb2; have d0 := (hb2.cell (p := ⟨w.heap.size, 0, none⟩) (by simp only []; omega)).trans c0; have d1 := (hb2.cell (p := ⟨w.heap.size, 1, none⟩) (by simp only []; omega)).trans c1; have hz2 := hb2.size; clear hb2)
      | (go_at_call 17; (with_reducible refine (sane_any _).mono ?_); rintro e w9 ⟨rfl, hb9⟩; have B9 := Lib.hid hb9; clear hb9))
      go_ret
      exact ⟨rfl, Below.then (Below.alloc (Below.refl _ _) (Nat.le_refl _) _) B9.out⟩
    · have h100' : decide ((100 : Int) < (m : Int)) = false := by simp; omega
      have h100'' : decide (100 < m) = false := by simp; omega
      obtain ⟨b, x, hb⟩ : ∃ b x, claimR L F S xs = (b, x) := ⟨_, _, rfl⟩
      have HC := Lib.hid hb
      obtain ⟨z, hz⟩ : ∃ z, accE L F S = z := ⟨_, rfl⟩
      have HAE := Lib.hid hz
      by_cases hz0 : z = 0
      · subst hz0
        obtain ⟨ho, hcl, hwk⟩ := acc_claim hz
        have HWK : Hid (∀ k : Nat, k < n → winR L F S k = (winN L F S k, 0)) := Lib.hid (fun k hk => hwk k (by omega))
        have HC2 : Hid (claimR L F S ((List.range n).map (fun (k : Nat) => winN L F S k)) = (true, 0)) := Lib.hid (by rw [← hll]; exact hcl)
        clear hL hX hT hm hll hb hz ho hcl hwk
        cases b
        all_goals
          go_enter Try.func7, Try.ntmps7
          go_wp2_with (first
      | (go_at_call 15; refine (HM.out).mono ?_; rintro e w1 ⟨rfl, rfl⟩)
      | (go_at_call 36; first
          | ((with_reducible refine (Claim_is (HR.out.ext (Below.alloc (Below.refl _ _) (Nat.le_refl _) _)) (HX.out.ext (Below.alloc (Below.refl _ _) (Nat.le_refl _) _)) HC.out).mono ?_); rintro e w1 ⟨rfl, hb1⟩; have B1 := Lib.hid (Below.then (Below.alloc (Below.refl _ _) (Nat.le_refl _) _) hb1); have c0 := (hb1.cell (p := ⟨w.heap.size, 0, none⟩) (by simp)).trans (show _ = some (.int .i64 F) by simp [go_sem]); have c1 := (hb1.cell (p := ⟨w.heap.size, 1, none⟩) (by simp)).trans (show _ = some (.int .i64 S) by simp [go_sem]); have hz1 := hb1.size; simp only [World.size_alloc] at hz1; clear hb1)
          | ((with_reducible refine (Claim_is (HR.out.ext (show Below w.heap.size w wr from (by repeat (first | (with_reducible exact Below.refl _ _) | (refine Below.then ?_ (Hid.out (by with_reducible assumption))))))) (ownsI_rd HOO.out) HC2.out).mono ?_); rintro e w8 ⟨rfl, hb8⟩; have B8 := Lib.hid hb8; clear hb8))
      | (go_at_call 37; (with_reducible refine (rClaim_is (HR.out.ext (by repeat (first | (with_reducible exact Below.refl _ _) | (refine Below.then ?_ (Hid.out (by with_reducible assumption)))))) (HX.out.ext (by repeat (first | (with_reducible exact Below.refl _ _) | (refine Below.then ?_ (Hid.out (by with_reducible assumption)))))) HC.out).mono ?_); rintro e w2 ⟨rfl, hb2⟩; have B2 := Lib.hid hb2; have d0 := (hb2.cell (p := ⟨w.heap.size, 0, none⟩) (by simp only []; omega)).trans c0; have d1 := (hb2.cell (p := ⟨w.heap.size, 1, none⟩) (by simp only []; omega)).trans c1; have hz2 := hb2.size; clear hb2)
      | (go_at_call 17; (with_reducible refine (sane_any _).mono ?_); rintro e w9 ⟨rfl, hb9⟩; have B9 := Lib.hid hb9; clear hb9)
      | (go_at_call 16; (with_reducible refine (Accept_is (HR.out.ext (by repeat (first | (with_reducible exact Below.refl _ _) | (refine Below.then ?_ (Hid.out (by with_reducible assumption)))))) HAE.out).mono ?_); rintro e w3 ⟨rfl, hb3⟩; have B3 := Lib.hid hb3; have e0 := (hb3.cell (p := ⟨w.heap.size, 0, none⟩) (by simp only []; omega)).trans (show _ = some (.int .i64 F) by assumption); have e1 := (hb3.cell (p := ⟨w.heap.size, 1, none⟩) (by simp only []; omega)).trans (show _ = some (.int .i64 S) by assumption); have hz3 := hb3.size; have hsz : w.heap.size < w3.heap.size := (by omega); clear hb3))
          have HW3 : Hid (Below w.heap.size w w3) := Lib.hid (by repeat (first | (with_reducible exact Below.refl _ _) | (refine Below.then ?_ (Hid.out (by with_reducible assumption)))))
          clear B1 B2 B3
          go_loopw [11, 12] (fun v i wr => ∃ (k : Nat) (a' : Option Addr) (c' : Nat), k ≤ n ∧ v = .slice a' k c' ∧ i = .int .i64 k ∧ wr.ownsRow w3.heap.size 3 1 (.slice a' k c') k (((List.range k).map (fun (k : Nat) => winN L F S k)).flatMap enc1) ∧ Below w3.heap.size w3 wr) (fun _ i _ => n - (intOf i).toNat)
          case atStart => exact ⟨0, none, 0, Nat.zero_le _, rfl, rfl, World.ownsRow_nil _ _ _ _, Below.refl _ _⟩
          case round =>
            obtain ⟨k, a', c', hk, rfl, rfl, ho, hB⟩ := hrel
            have HOO := Lib.hid ho; have HB := Lib.hid hB
            have m0 := (hB.cell (p := ⟨w.heap.size, 0, none⟩) hsz).trans e0
            have m1 := (hB.cell (p := ⟨w.heap.size, 1, none⟩) hsz).trans e1
            clear ho hB
            by_cases hlt : k < n
            · have hwk := HWK.out k hlt
              obtain ⟨x, hx⟩ : ∃ x, winN L F S k = x := ⟨_, rfl⟩
              rw [hx] at hwk
              have HWN := Lib.hid hwk
              have HX2 := Lib.hid hx
              clear hwk hx
              have e1' := E1
              go_wp2_with (first
                | (go_at_call 18; (with_reducible refine (Window_is (HR.out.ext (by repeat (first | (with_reducible exact Below.refl _ _) | (refine Below.then ?_ (Hid.out (by with_reducible assumption)))))) HWN.out).mono ?_); rintro e w6 ⟨rfl, hb6⟩; have B6 := Lib.hid hb6; have HO6 := Lib.hid (owns_ext HOO.out hb6); have hz6 : w3.heap.size ≤ w6.heap.size := (by have := hb6.size; have := HB.out.size; omega); clear hb6)
                | (at_builtin; refine wpList_push (B := w3.heap.size) rfl _ _ _ rfl e1' rfl HO6.out rfl rfl (by intro u hu; simp at hu; rcases hu with rfl; rfl) (by omega) (by decide) hz6 ?_; intro a7 c7 w7 hown7 hb7; have HO7 := Lib.hid (ownsI_snoc hown7); have HB7 := Lib.hid hb7; clear hown7 hb7))
              go_roundw
              case rel =>
                refine ⟨k + 1, a7, c7, by omega, by go_num, by go_num, ?_, (Below.then HB.out B6.out).trans HB7.out⟩
                rw [List.range_succ, List.map_append, List.map_singleton, HX2.out]; exact HO7.out
              case measure => simp [intOf]; omega
            · obtain rfl : k = n := by omega
              go_wp2_with (first
      | (go_at_call 15; refine (HM.out).mono ?_; rintro e w1 ⟨rfl, rfl⟩)
      | (go_at_call 36; first
          | ((with_reducible refine (Claim_is (HR.out.ext (Below.alloc (Below.refl _ _) (Nat.le_refl _) _)) (HX.out.ext (Below.alloc (Below.refl _ _) (Nat.le_refl _) _)) HC.out).mono ?_); rintro e w1 ⟨rfl, hb1⟩; have B1 := Lib.hid (Below.then (Below.alloc (Below.refl _ _) (Nat.le_refl _) _) hb1); have c0 := (hb1.cell (p := ⟨w.heap.size, 0, none⟩) (by simp)).trans (show _ = some (.int .i64 F) by simp [go_sem]); have c1 := (hb1.cell (p := ⟨w.heap.size, 1, none⟩) (by simp)).trans (show _ = some (.int .i64 S) by simp [go_sem]); have hz1 := hb1.size; simp only [World.size_alloc] at hz1; clear hb1)
          | ((with_reducible refine (Claim_is (HR.out.ext (show Below w.heap.size w wr from (by repeat (first | (with_reducible exact Below.refl _ _) | (refine Below.then ?_ (Hid.out (by with_reducible assumption))))))) (ownsI_rd HOO.out) HC2.out).mono ?_); rintro e w8 ⟨rfl, hb8⟩; have B8 := Lib.hid hb8; clear hb8))
      | (go_at_call 37; (with_reducible refine (rClaim_is (HR.out.ext (by repeat (first | (with_reducible exact Below.refl _ _) | (refine Below.then ?_ (Hid.out (by with_reducible assumption)))))) (HX.out.ext (by repeat (first | (with_reducible exact Below.refl _ _) | (refine Below.then ?_ (Hid.out (by with_reducible assumption)))))) HC.out).mono ?_); rintro e w2 ⟨rfl, hb2⟩; have B2 := Lib.hid hb2; have d0 := (hb2.cell (p := ⟨w.heap.size, 0, none⟩) (by simp only []; omega)).trans c0; have d1 := (hb2.cell (p := ⟨w.heap.size, 1, none⟩) (by simp only []; omega)).trans c1; have hz2 := hb2.size; clear hb2)
      | (go_at_call 17; (with_reducible refine (sane_any _).mono ?_); rintro e w9 ⟨rfl, hb9⟩; have B9 := Lib.hid hb9; clear hb9))
              go_ret
              exact ⟨rfl, Below.then (show Below w.heap.size w wr from (by repeat (first | (with_reducible exact Below.refl _ _) | (refine Below.then ?_ (Hid.out (by with_reducible assumption)))))) (Below.then B8.out B9.out)⟩
      · have hz' : (z != 0) = true := by simpa using hz0
        obtain rfl : b = false := by
          cases b
          · rfl
          · rw [claim_acc hb] at hz; exact absurd hz.symm hz0
        clear hL hX hT hm hll hb hz
        go_enter Try.func7, Try.ntmps7
        go_wp2_with (first
      | (go_at_call 15; refine (HM.out).mono ?_; rintro e w1 ⟨rfl, rfl⟩)
      | (go_at_call 36; first
          | ((with_reducible refine (Claim_is (HR.out.ext (Below.alloc (Below.refl _ _) (Nat.le_refl _) _)) (HX.out.ext (Below.alloc (Below.refl _ _) (Nat.le_refl _) _)) HC.out).mono ?_); rintro e w1 ⟨rfl, hb1⟩; have B1 := Lib.hid (Below.then (Below.alloc (Below.refl _ _) (Nat.le_refl _) _) hb1); have c0 := (hb1.cell (p := ⟨w.heap.size, 0, none⟩) (by simp)).trans (show _ = some (.int .i64 F) by simp [go_sem]); have c1 := (hb1.cell (p := ⟨w.heap.size, 1, none⟩) (by simp)).trans (show _ = some (.int .i64 S) by simp [go_sem]); have hz1 := hb1.size; simp only [World.size_alloc] at hz1; clear hb1)
          | ((with_reducible refine (Claim_is (HR.out.ext (show Below w.heap.size w wr from (by repeat (first | (with_reducible exact Below.refl _ _) | (refine Below.then ?_ (Hid.out (by with_reducible assumption))))))) (ownsI_rd HOO.out) HC2.out).mono ?_); rintro e w8 ⟨rfl, hb8⟩; have B8 := Lib.hid hb8; clear hb8))
      | (go_at_call 37; (with_reducible refine (rClaim_is (HR.out.ext (by repeat (first | (with_reducible exact Below.refl _ _) | (refine Below.then ?_ (Hid.out (by with_reducible assumption)))))) (HX.out.ext (by repeat (first | (with_reducible exact Below.refl _ _) | (refine Below.then ?_ (Hid.out (by with_reducible assumption)))))) HC.out).mono ?_); rintro e w2 ⟨rfl, hb2⟩; have B2 := Lib.hid hb2; have d0 := (hb2.cell (p := ⟨w.heap.size, 0, none⟩) (by simp only []; omega)).trans c0; have d1 := (hb2.cell (p := ⟨w.heap.size, 1, none⟩) (by simp only []; omega)).trans c1; have hz2 := hb2.size; clear hb2)
      | (go_at_call 17; (with_reducible refine (sane_any _).mono ?_); rintro e w9 ⟨rfl, hb9⟩; have B9 := Lib.hid hb9; clear hb9)
      | (go_at_call 16; (with_reducible refine (Accept_is (HR.out.ext (by repeat (first | (with_reducible exact Below.refl _ _) | (refine Below.then ?_ (Hid.out (by with_reducible assumption)))))) HAE.out).mono ?_); rintro e w3 ⟨rfl, hb3⟩; have B3 := Lib.hid hb3; have e0 := (hb3.cell (p := ⟨w.heap.size, 0, none⟩) (by simp only []; omega)).trans (show _ = some (.int .i64 F) by assumption); have e1 := (hb3.cell (p := ⟨w.heap.size, 1, none⟩) (by simp only []; omega)).trans (show _ = some (.int .i64 S) by assumption); have hz3 := hb3.size; have hsz : w.heap.size < w3.heap.size := (by omega); clear hb3))
        go_ret
        exact ⟨rfl, (by repeat (first | (with_reducible exact Below.refl _ _) | (refine Below.then ?_ (Hid.out (by with_reducible assumption)))))⟩
  · rw [hm] at HM
    clear hL hX hT hm
    go_enter Try.func7, Try.ntmps7
    go_wp2_with (first
      | (go_at_call 15; refine (HM.out).mono ?_; rintro e w1 ⟨rfl, rfl⟩)
      | (go_at_call 17; (with_reducible refine (sane_any _).mono ?_); rintro e w9 ⟨rfl, hb9⟩; have B9 := Lib.hid hb9; clear hb9))
    go_ret
    exact ⟨rfl, Below.then (Below.alloc (Below.refl _ _) (Nat.le_refl _) _) B9.out⟩
end Go.Proofs.Ytabbmnnohnfbeaa
