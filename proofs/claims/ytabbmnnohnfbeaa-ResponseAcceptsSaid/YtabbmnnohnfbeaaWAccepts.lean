/- The walk of ResponseAccepts: it returns true. The conditions: the tasks read as named; their lists are no longer than memory bears. -/
import Derived.Test.YtabbmnnohnfbeaaRsSane
import Derived.Test.YtabbmnnohnfbeaaRsTop2
namespace Go.Proofs.Ytabbmnnohnfbeaa
open Go.RowKit
set_option linter.unusedSimpArgs false
set_option linter.unusedVariables false
theorem firstL_cases {L : List Ta} {F S : Int} : ∀ (ks : List Int), ((firstL L F S ks).2 = 3 ∧ ∀ k ∈ ks, meetB L F S k = true) ∨ ((firstL L F S ks).2 = 0 ∧ ∃ k ∈ ks, meetB L F S k = false)
  | [] => .inl ⟨rfl, by simp⟩
  | k :: ks => by
    rw [firstL_cons]
    cases h : meetB L F S k
    · exact .inr ⟨rfl, k, by simp, h⟩
    · rw [if_pos rfl]
      rcases firstL_cases ks with ⟨h1, h2⟩ | ⟨h1, j, hj, h2⟩
      · refine .inl ⟨h1, fun j hj => ?_⟩
        rcases List.mem_cons.1 hj with rfl | hj
        · exact h
        · exact h2 j hj
      · exact .inr ⟨h1, j, by simp [hj], h2⟩
theorem firstR_err {L : List Ta} {F S : Int} (ho : okB L F S = true) : (firstR L F S).2 = if accB L F S then 3 else 0 := by
  rw [firstR, if_pos ho]
  rcases firstL_cases (L := L) (F := F) (S := S) (rankL L) with ⟨h1, h2⟩ | ⟨h1, k, hk, h2⟩
  · rw [h1, if_pos]
    rw [accB_iff]
    intro j hj
    exact h2 j (rank_mem.2 ⟨by omega, by omega⟩)
  · rw [h1, if_neg]
    intro h
    obtain ⟨k0, k1⟩ := rank_mem.1 hk
    obtain ⟨j, rfl⟩ := Int.eq_ofNat_of_zero_le k0
    rw [accB_iff.1 h j (by omega)] at h2
    simp at h2
theorem resp_meet {L : List Ta} {F S : Int} {q : Nat} (hj : 0 ≤ (taAt L q).jit) : (respN L F S q < 0 ∧ meetB L F S q = false) ∨ (0 ≤ respN L F S q ∧ decide (respN L F S q ≤ (taAt L q).dl) = meetB L F S q) := by
  have hb := winN_bd L F S q
  unfold respN meetB
  split
  · rename_i h0
    rw [h0]
    exact .inl ⟨by omega, rfl⟩
  · rename_i h0
    exact .inr ⟨by omega, by rw [decide_eq_true (show 0 < winN L F S q by omega), Bool.true_and]⟩
def preB (L : List Ta) (F S : Int) (k : Nat) : Bool := (List.range k).all (fun (j : Nat) => meetB L F S j)
theorem preB_succ {L : List Ta} {F S : Int} {k : Nat} : preB L F S (k + 1) = (preB L F S k && meetB L F S k) := by
  unfold preB; rw [List.range_succ, List.all_append]; simp
theorem preB_all {L : List Ta} {F S : Int} : preB L F S L.length = accB L F S := by
  rw [Bool.eq_iff_iff, accB_iff]
  unfold preB
  rw [List.all_eq_true]
  constructor
  · intro h j hj; exact h j (List.mem_range.2 hj)
  · intro h j hj; exact h j (List.mem_range.1 hj)
theorem Resps_is {a : Option Addr} {n c : Nat} {L : List Ta} {F S e : Int} {xs : List Int} {w : World} (hL : RdL w a n L) (h : respsR L F S = (xs, e)) :
    Calls Try.prog 20 #[.slice a n c, .agg #[.int .i64 F, .int .i64 S]] w (OutTE w.heap.size w xs e) := by
  have := Resps_any a n c L F S w hL
  rw [h] at this; exact this
theorem resps_get {L : List Ta} {F S : Int} {k : Nat} (h : k < L.length) : ((List.range L.length).map (fun k => respN L F S k))[k]? = some (respN L F S k) := by
  rw [List.getElem?_map, List.getElem?_range h]; rfl
set_option maxRecDepth 10000 in
set_option maxHeartbeats 4000000 in
theorem accepts_walk {w : World} (a : Option Addr) (n c : Nat) (L : List Ta) (hL : RdL w a n L) (hT : ∀ t ∈ L, t.pcs.length ≤ 281474976710656) (hN : NilOk a n c) (F S : Int) :
    Calls Try.prog 8 #[.slice a n c, .agg #[.int .i64 F, .int .i64 S]] w fun e w' => e = .returned (.bool true) ∧ Below w.heap.size w w' := by
  have HM := Lib.hid ((many_any a n c L _ (hL.ext (Below.alloc (Below.refl _ _) (Nat.le_refl _) (.cells #[.int .i64 F, .int .i64 S] 24))) hT))
  have HR := Lib.hid hL
  have hll := hL.length
  cases hm : manyL n L
  · rw [hm] at HM
    have hn4 := (Many_no hm).1
    obtain ⟨fx, fe, hf⟩ : ∃ x e, firstR L F S = (x, e) := ⟨_, _, rfl⟩
    have HF := Lib.hid hf
    cases ho : okB L F S
    · have HE : Hid (accE L F S = 1) := Lib.hid (by rw [accE, ho]; rfl)
      obtain rfl : fe = 1 := by rw [firstR, ho] at hf; simp at hf; exact hf.2.symm
      clear hL hT hm hf ho hll
      go_enter Try.func8, Try.ntmps8
      go_wp2_with (first
      | (go_at_call 15; refine (HM.out).mono ?_; rintro e w1 ⟨rfl, rfl⟩)
      | (go_at_call 16; (with_reducible refine (Accept_is (HR.out.ext (Below.alloc (Below.refl _ _) (Nat.le_refl _) _)) HE.out).mono ?_); rintro e w1 ⟨rfl, hb1⟩; have B1 := Lib.hid (Below.then (Below.alloc (Below.refl _ _) (Nat.le_refl _) _) hb1); have c0 := (hb1.cell (p := ⟨w.heap.size, 0, none⟩) (by simp)).trans (show _ = some (.int .i64 F) by simp [go_sem]); have c1 := (hb1.cell (p := ⟨w.heap.size, 1, none⟩) (by simp)).trans (show _ = some (.int .i64 S) by simp [go_sem]); have hz1 := hb1.size; simp only [World.size_alloc] at hz1; clear hb1)
      | (go_at_call 38; (with_reducible refine (First_is (HR.out.ext (by repeat (first | (with_reducible exact Below.refl _ _) | (refine Below.then ?_ (Hid.out (by with_reducible assumption)))))) HF.out).mono ?_); rintro e w2 ⟨rfl, hb2⟩; have B2 := Lib.hid hb2; have d0 := (hb2.cell (p := ⟨w.heap.size, 0, none⟩) (by simp only []; omega)).trans c0; have d1 := (hb2.cell (p := ⟨w.heap.size, 1, none⟩) (by simp only []; omega)).trans c1; have hz2 := hb2.size; clear hb2)
      | (go_at_call 39; (with_reducible refine (rFirst_is (HR.out.ext (by repeat (first | (with_reducible exact Below.refl _ _) | (refine Below.then ?_ (Hid.out (by with_reducible assumption)))))) HF.out).mono ?_); rintro e w3 ⟨rfl, hb3⟩; have B3 := Lib.hid hb3; have e0 := (hb3.cell (p := ⟨w.heap.size, 0, none⟩) (by simp only []; omega)).trans d0; have e1 := (hb3.cell (p := ⟨w.heap.size, 1, none⟩) (by simp only []; omega)).trans d1; have hz3 := hb3.size; clear hb3)
      | (go_at_call 40; (with_reducible refine (rAccept_is (HR.out.ext (by repeat (first | (with_reducible exact Below.refl _ _) | (refine Below.then ?_ (Hid.out (by with_reducible assumption)))))) HE.out).mono ?_); rintro e w4 ⟨rfl, hb4⟩; have B4 := Lib.hid hb4; have f0 := (hb4.cell (p := ⟨w.heap.size, 0, none⟩) (by simp only []; omega)).trans e0; have f1 := (hb4.cell (p := ⟨w.heap.size, 1, none⟩) (by simp only []; omega)).trans e1; have hz4 := hb4.size; clear hb4)
      | (go_at_call 17; (with_reducible refine (sane_any _).mono ?_); rintro e w9 ⟨rfl, hb9⟩; have B9 := Lib.hid hb9; clear hb9))
      go_ret
      exact ⟨rfl, (by repeat (first | (with_reducible exact Below.refl _ _) | (refine Below.then ?_ (Hid.out (by with_reducible assumption)))))⟩
    · obtain ⟨hv, hs⟩ := ok_of ho
      obtain ⟨A, hA⟩ : ∃ A, accB L F S = A := ⟨_, rfl⟩
      have hfe := firstR_err ho
      rw [hf, hA] at hfe
      simp only [] at hfe
      have HE : Hid (accE L F S = if A then 0 else 15) := Lib.hid (by rw [accE, ho, hA]; rfl)
      have HRS : Hid (respsR L F S = ((List.range L.length).map (fun k => respN L F S k), 0)) := Lib.hid (by rw [respsR, ho]; rfl)
      have HRG : Hid (∀ k, k < n → ((List.range L.length).map (fun k => respN L F S k))[k]? = some (respN L F S k)) := Lib.hid (fun k hk => resps_get (by omega))
      have HPA : Hid (preB L F S n = A) := Lib.hid (by rw [← hA, ← hll]; exact preB_all)
      have HV := Lib.hid hv
      have HLL := Lib.hid hll
      obtain ⟨xs, hxs⟩ : ∃ xs, (List.range L.length).map (fun k => respN L F S k) = xs := ⟨_, rfl⟩
      rw [hxs] at HRS HRG
      have HXL : Hid (xs.length = n) := Lib.hid (by rw [← hxs]; simp [hll])
      subst hfe
      clear hL hT hm hf ho hll hv hs hA hxs
      cases A
      all_goals
        simp only [if_true, if_false, Bool.false_eq_true] at HE HF
        go_enter Try.func8, Try.ntmps8
        go_wp2_with (first
      | (go_at_call 15; refine (HM.out).mono ?_; rintro e w1 ⟨rfl, rfl⟩)
      | (go_at_call 16; (with_reducible refine (Accept_is (HR.out.ext (Below.alloc (Below.refl _ _) (Nat.le_refl _) _)) HE.out).mono ?_); rintro e w1 ⟨rfl, hb1⟩; have B1 := Lib.hid (Below.then (Below.alloc (Below.refl _ _) (Nat.le_refl _) _) hb1); have c0 := (hb1.cell (p := ⟨w.heap.size, 0, none⟩) (by simp)).trans (show _ = some (.int .i64 F) by simp [go_sem]); have c1 := (hb1.cell (p := ⟨w.heap.size, 1, none⟩) (by simp)).trans (show _ = some (.int .i64 S) by simp [go_sem]); have hz1 := hb1.size; simp only [World.size_alloc] at hz1; clear hb1)
      | (go_at_call 38; (with_reducible refine (First_is (HR.out.ext (by repeat (first | (with_reducible exact Below.refl _ _) | (refine Below.then ?_ (Hid.out (by with_reducible assumption)))))) HF.out).mono ?_); rintro e w2 ⟨rfl, hb2⟩; have B2 := Lib.hid hb2; have d0 := (hb2.cell (p := ⟨w.heap.size, 0, none⟩) (by simp only []; omega)).trans c0; have d1 := (hb2.cell (p := ⟨w.heap.size, 1, none⟩) (by simp only []; omega)).trans c1; have hz2 := hb2.size; clear hb2)
      | (go_at_call 39; (with_reducible refine (rFirst_is (HR.out.ext (by repeat (first | (with_reducible exact Below.refl _ _) | (refine Below.then ?_ (Hid.out (by with_reducible assumption)))))) HF.out).mono ?_); rintro e w3 ⟨rfl, hb3⟩; have B3 := Lib.hid hb3; have e0 := (hb3.cell (p := ⟨w.heap.size, 0, none⟩) (by simp only []; omega)).trans d0; have e1 := (hb3.cell (p := ⟨w.heap.size, 1, none⟩) (by simp only []; omega)).trans d1; have hz3 := hb3.size; clear hb3)
      | (go_at_call 40; (with_reducible refine (rAccept_is (HR.out.ext (by repeat (first | (with_reducible exact Below.refl _ _) | (refine Below.then ?_ (Hid.out (by with_reducible assumption)))))) HE.out).mono ?_); rintro e w4 ⟨rfl, hb4⟩; have B4 := Lib.hid hb4; have f0 := (hb4.cell (p := ⟨w.heap.size, 0, none⟩) (by simp only []; omega)).trans e0; have f1 := (hb4.cell (p := ⟨w.heap.size, 1, none⟩) (by simp only []; omega)).trans e1; have hz4 := hb4.size; clear hb4)
      | (go_at_call 17; (with_reducible refine (sane_any _).mono ?_); rintro e w9 ⟨rfl, hb9⟩; have B9 := Lib.hid hb9; clear hb9)
          | (go_at_call 20; (with_reducible refine (Resps_is (HR.out.ext (by repeat (first | (with_reducible exact Below.refl _ _) | (refine Below.then ?_ (Hid.out (by with_reducible assumption)))))) HRS.out).mono ?_); rintro e w5 ⟨a5, n5, c5, rfl, ho5, hb5⟩; have R5 := Lib.hid (ownsI_rd ho5); have hn5 : n5 = n := (by rw [← HXL.out, ← (ownsI_rd ho5).length]); have B5 := Lib.hid hb5; clear ho5 hb5; subst hn5))
        go_loopw [12, 13] (fun v i wr => ∃ k : Nat, k ≤ n5 ∧ v = .bool (preB L F S k) ∧ i = .int .i64 k ∧ Below w5.heap.size w5 wr) (fun _ i _ => n5 - (intOf i).toNat)
        case atStart => exact ⟨0, Nat.zero_le _, rfl, rfl, Below.refl _ _⟩
        case round =>
          obtain ⟨k, hk, rfl, rfl, hB⟩ := hrel
          have HB := Lib.hid hB
          clear hB
          by_cases hlt : k < n5
          · obtain ⟨x, bl, ol, rfl, hbl, hcx, hx⟩ := (R5.out.ext HB.out).idx k hlt
            rw [HRG.out k hlt] at hx
            obtain rfl : respN L F S k = x := by simpa using hx
            obtain ⟨u, b, off, pa, pn, pc, rfl, hb, hg, hpl, HK⟩ := HR.out.cells k hlt
            have hj := HV.out.jit u (List.mem_of_getElem? hg)
            have hrm := resp_meet (L := L) (F := F) (S := S) (q := k) (by rw [taAt_of hg]; exact hj.1)
            rw [taAt_of hg] at hrm
            have hps := preB_succ (L := L) (F := F) (S := S) (k := k)
            obtain ⟨r, hr⟩ : ∃ r, respN L F S k = r := ⟨_, rfl⟩
            obtain ⟨m, hmm⟩ : ∃ m, meetB L F S k = m := ⟨_, rfl⟩
            obtain ⟨pb, hpb⟩ : ∃ p, preB L F S k = p := ⟨_, rfl⟩
            rw [hr, hmm] at hrm
            rw [hr] at hcx
            rw [hmm, hpb] at hps
            rw [hpb]
            have HPS := Lib.hid hps
            obtain ⟨j0, j1, j2, j3, j4, j5, hbw3, hpp3⟩ := HK.out wr (by repeat (first | (with_reducible exact Below.refl _ _) | (refine Below.then ?_ (Hid.out (by with_reducible assumption)))))
            clear hx hg hpl hps hr hmm hpb hpp3
            cases pb
            · go_wp2_with (refine wp_region_later_lit (by kernel_rfl) (by kernel_rfl) ?_; (repeat (go_big_quiet_step (fail))); refine wpQuiet_nil ?_; intro w7 hb7)
              go_roundw
              case rel => exact ⟨k + 1, by omega, by rw [HPS.out]; rfl, by go_num, Below.then HB.out hb7⟩
              case measure => simp [intOf]; omega
            · rcases hrm with ⟨h0, rfl⟩ | ⟨h0, h1⟩
              · have h0' : decide (0 ≤ r) = false := by simp; omega
                go_wp2_with (refine wp_region_later_lit (by kernel_rfl) (by kernel_rfl) ?_; (repeat (go_big_quiet_step (fail))); refine wpQuiet_nil ?_; intro w7 hb7)
                go_roundw
                case rel => exact ⟨k + 1, by omega, by rw [HPS.out]; rfl, by go_num, Below.then HB.out hb7⟩
                case measure => simp [intOf]; omega
              · go_wp2_with (refine wp_region_later_lit (by kernel_rfl) (by kernel_rfl) ?_; (repeat (go_big_quiet_step (fail))); refine wpQuiet_nil ?_; intro w7 hb7)
                go_roundw
                case rel => exact ⟨k + 1, by omega, by rw [HPS.out]; rfl, by go_num, Below.then HB.out hb7⟩
                case measure => simp [intOf]; omega
          · obtain rfl : k = n5 := by omega
            rw [HPA.out]
            go_wp2_with (go_at_call 17; (with_reducible refine (sane_any _).mono ?_); rintro e w9 ⟨rfl, hb9⟩; have B9 := Lib.hid hb9; clear hb9)
            go_ret
            exact ⟨rfl, (by repeat (first | (with_reducible exact Below.refl _ _) | (refine Below.then ?_ (Hid.out (by with_reducible assumption)))))⟩
  · rw [hm] at HM
    clear hL hT hm
    go_enter Try.func8, Try.ntmps8
    go_wp2_with (first
      | (go_at_call 15; refine (HM.out).mono ?_; rintro e w1 ⟨rfl, rfl⟩)
      | (go_at_call 17; (with_reducible refine (sane_any _).mono ?_); rintro e w9 ⟨rfl, hb9⟩; have B9 := Lib.hid hb9; clear hb9))
    go_ret
    exact ⟨rfl, Below.then (Below.alloc (Below.refl _ _) (Nat.le_refl _) _) B9.out⟩
end Go.Proofs.Ytabbmnnohnfbeaa
