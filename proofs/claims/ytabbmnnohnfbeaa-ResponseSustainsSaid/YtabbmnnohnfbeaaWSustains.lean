/- The walk of ResponseSustains: it returns true. The conditions: the tasks read as named; their lists are no longer than memory bears. -/
import Derived.Test.YtabbmnnohnfbeaaRsEased2
import Derived.Test.YtabbmnnohnfbeaaRsEase2
import Derived.Test.YtabbmnnohnfbeaaRsSim
import Derived.Test.YtabbmnnohnfbeaaRsTop
import Derived.Test.YtabbmnnohnfbeaaRsSane
namespace Go.Proofs.Ytabbmnnohnfbeaa
open Go.RowKit
set_option linter.unusedSimpArgs false
set_option linter.unusedVariables false
theorem taAt_nat {L : List Ta} {i : Nat} (h : i < L.length) : L[i]? = some (taAt L i) := by
  rw [List.getElem?_eq_getElem h, taAt_of (List.getElem?_eq_getElem h)]
theorem EasedL.sim {L K : List Ta} (h : EasedL L K) : Sim K L (fun i => i) := by
  have hat : ∀ i, i < K.length → Eased (taAt L i) (taAt K i) := fun i hi => h.2 i _ _ (taAt_nat (by rw [← h.1]; exact hi)) (taAt_nat hi)
  refine ⟨fun i hi => by rw [← h.1]; exact hi, fun i j hij => hij, fun i hi => (hat i hi).pri, fun i hi => (hat i hi).gap.1, fun i hi => (hat i hi).jit.2, fun i hi => (hat i hi).dl.1, fun i hi => (hat i hi).pl, fun i hi k p q hp hq => ?_⟩
  have := (hat i hi).pc k q p hq hp
  exact ⟨this.1, this.2.2⟩
theorem EasedL.acc {L K : List Ta} (h : EasedL L K) (hv : ValidT L) {F S : Int} (ha : accE L F S = 0) : accE K F S = 0 := by
  have hk := h.valid hv
  unfold accE at ha ⊢
  split at ha
  · rename_i h1
    have hs : supB F S = true := by unfold okB at h1; rw [Bool.and_eq_true] at h1; exact h1.2
    split at ha
    · rename_i h2
      have h3 : okB K F S = true := by unfold okB; rw [hk, hs]; rfl
      rw [if_pos h3, if_pos (Sim.acc h.sim (valid_of hk) hv h2)]
    · simp at ha
  · simp at ha
set_option maxRecDepth 100000 in
set_option maxHeartbeats 8000000 in
theorem sustains_walk {w : World} (a : Option Addr) (n c : Nat) (L : List Ta) (hL : RdL w a n L) (hT : ∀ t ∈ L, t.pcs.length ≤ 281474976710656) (hN : NilOk a n c) (F S : Int) (b : Option Addr) (m d : Nat) (xs : List E5) (hX : Rd w b m 5 (xs.map enc5)) :
    Calls Try.prog 10 #[.slice a n c, .agg #[.int .i64 F, .int .i64 S], .slice b m d] w fun e w' => e = .returned (.bool true) ∧ Below w.heap.size w w' := by
  have HM := Lib.hid (fun w' (hb : Below w.heap.size w w') => many_any a n c L w' (hL.ext hb) hT)
  have HA := Lib.hid hL; have HX := Lib.hid hX; have HN := Lib.hid hN
  have hms := hX.small
  obtain ⟨m1, hm1⟩ : ∃ x, manyL n L = x := ⟨_, rfl⟩
  rw [hm1] at HM
  obtain ⟨vl, hvl⟩ : ∃ v, validL L = v := ⟨_, rfl⟩
  have HV := Lib.hid hvl
  obtain ⟨vs, hvs⟩ : ∃ v, supB F S = v := ⟨_, rfl⟩
  have HS := Lib.hid hvs
  clear hL hT hN hX hm1 hvl hvs
  cases m1
  · by_cases h100 : m ≤ 100
    · have h100' : decide ((100 : Int) < (m : Int)) = false := by simp; omega
      cases vl
      · go_enter Try.func10, Try.ntmps10
        go_wp2_with (first
          | (go_at_call 15; (with_reducible refine (HM.out _ (by (repeat' (first | (with_reducible exact Below.refl _ _) | (with_reducible assumption) | (with_reducible refine Below.alloc ?_ ?_ _) | (with_reducible refine Below.drew ?_) | (with_reducible refine Below.draws ?_ _) | (with_reducible refine Below.setCell ?_ ?_ _) | (refine Below.then ?_ (by with_reducible assumption)) | go_size)))).mono ?_); rintro e w9 ⟨rfl, rfl⟩)
          | (go_at_call 34; (with_reducible refine (rValid_is (HA.out.ext (by (repeat' (first | (with_reducible exact Below.refl _ _) | (with_reducible assumption) | (with_reducible refine Below.alloc ?_ ?_ _) | (with_reducible refine Below.drew ?_) | (with_reducible refine Below.draws ?_ _) | (with_reducible refine Below.setCell ?_ ?_ _) | (refine Below.then ?_ (by with_reducible assumption)) | go_size)))) HV.out).mono ?_); rintro e w1 ⟨rfl, hb1⟩; obtain ⟨hc1, hf1, hz1, hr1⟩ := bfacts hb1; (try simp only [World.size_alloc, World.size_setCell, World.size_drew, World.size_drewN] at hz1 hr1); (try have hs1_w_0 : w.heap.size < w1.heap.size := by omega))
          | (go_at_call 42; (with_reducible refine (rsupV_is HS.out).mono ?_); rintro e w2 ⟨rfl, hb2⟩; obtain ⟨hc2, hf2, hz2, hr2⟩ := bfacts hb2; (try simp only [World.size_alloc, World.size_setCell, World.size_drew, World.size_drewN] at hz2 hr2); (try have hs2_w_0 : w.heap.size < w2.heap.size := by omega))
          | (go_at_call 17; (with_reducible refine (sane_any _).mono ?_); rintro e w8 ⟨rfl, hb8⟩))
        go_ret
        exact ⟨rfl, by (repeat' (first | (with_reducible exact Below.refl _ _) | (with_reducible assumption) | (with_reducible refine Below.alloc ?_ ?_ _) | (with_reducible refine Below.drew ?_) | (with_reducible refine Below.draws ?_ _) | (with_reducible refine Below.setCell ?_ ?_ _) | (refine Below.then ?_ (by with_reducible assumption)) | go_size))⟩
      · cases vs
        · go_enter Try.func10, Try.ntmps10
          go_wp2_with (first
          | (go_at_call 15; (with_reducible refine (HM.out _ (by (repeat' (first | (with_reducible exact Below.refl _ _) | (with_reducible assumption) | (with_reducible refine Below.alloc ?_ ?_ _) | (with_reducible refine Below.drew ?_) | (with_reducible refine Below.draws ?_ _) | (with_reducible refine Below.setCell ?_ ?_ _) | (refine Below.then ?_ (by with_reducible assumption)) | go_size)))).mono ?_); rintro e w9 ⟨rfl, rfl⟩)
          | (go_at_call 34; (with_reducible refine (rValid_is (HA.out.ext (by (repeat' (first | (with_reducible exact Below.refl _ _) | (with_reducible assumption) | (with_reducible refine Below.alloc ?_ ?_ _) | (with_reducible refine Below.drew ?_) | (with_reducible refine Below.draws ?_ _) | (with_reducible refine Below.setCell ?_ ?_ _) | (refine Below.then ?_ (by with_reducible assumption)) | go_size)))) HV.out).mono ?_); rintro e w1 ⟨rfl, hb1⟩; obtain ⟨hc1, hf1, hz1, hr1⟩ := bfacts hb1; (try simp only [World.size_alloc, World.size_setCell, World.size_drew, World.size_drewN] at hz1 hr1); (try have hs1_w_0 : w.heap.size < w1.heap.size := by omega))
          | (go_at_call 42; (with_reducible refine (rsupV_is HS.out).mono ?_); rintro e w2 ⟨rfl, hb2⟩; obtain ⟨hc2, hf2, hz2, hr2⟩ := bfacts hb2; (try simp only [World.size_alloc, World.size_setCell, World.size_drew, World.size_drewN] at hz2 hr2); (try have hs2_w_0 : w.heap.size < w2.heap.size := by omega))
          | (go_at_call 17; (with_reducible refine (sane_any _).mono ?_); rintro e w8 ⟨rfl, hb8⟩))
          go_ret
          exact ⟨rfl, by (repeat' (first | (with_reducible exact Below.refl _ _) | (with_reducible assumption) | (with_reducible refine Below.alloc ?_ ?_ _) | (with_reducible refine Below.drew ?_) | (with_reducible refine Below.draws ?_ _) | (with_reducible refine Below.setCell ?_ ?_ _) | (refine Below.then ?_ (by with_reducible assumption)) | go_size))⟩
        · have HVT := Lib.hid (valid_of HV.out)
          obtain ⟨x, hx⟩ : ∃ x, accE L F S = x := ⟨_, rfl⟩
          have HX0 := Lib.hid hx
          have HKA : Hid (∀ K, EasedL L K → easR L K = (true, 0)) := Lib.hid (fun K h => by unfold easR; rw [HV.out, h.valid HVT.out, h.eas]; rfl)
          by_cases hx0 : x = 0
          · subst hx0
            have HKB : Hid (∀ K, EasedL L K → accE K F S = 0) := Lib.hid (fun K h => h.acc HVT.out HX0.out)
            clear hx
            go_enter Try.func10, Try.ntmps10
            go_wp2_with (first
          | (go_at_call 15; (with_reducible refine (HM.out _ (by (repeat' (first | (with_reducible exact Below.refl _ _) | (with_reducible assumption) | (with_reducible refine Below.alloc ?_ ?_ _) | (with_reducible refine Below.drew ?_) | (with_reducible refine Below.draws ?_ _) | (with_reducible refine Below.setCell ?_ ?_ _) | (refine Below.then ?_ (by with_reducible assumption)) | go_size)))).mono ?_); rintro e w9 ⟨rfl, rfl⟩)
          | (go_at_call 34; (with_reducible refine (rValid_is (HA.out.ext (by (repeat' (first | (with_reducible exact Below.refl _ _) | (with_reducible assumption) | (with_reducible refine Below.alloc ?_ ?_ _) | (with_reducible refine Below.drew ?_) | (with_reducible refine Below.draws ?_ _) | (with_reducible refine Below.setCell ?_ ?_ _) | (refine Below.then ?_ (by with_reducible assumption)) | go_size)))) HV.out).mono ?_); rintro e w1 ⟨rfl, hb1⟩; obtain ⟨hc1, hf1, hz1, hr1⟩ := bfacts hb1; (try simp only [World.size_alloc, World.size_setCell, World.size_drew, World.size_drewN] at hz1 hr1); (try have hs1_w_0 : w.heap.size < w1.heap.size := by omega))
          | (go_at_call 42; (with_reducible refine (rsupV_is HS.out).mono ?_); rintro e w2 ⟨rfl, hb2⟩; obtain ⟨hc2, hf2, hz2, hr2⟩ := bfacts hb2; (try simp only [World.size_alloc, World.size_setCell, World.size_drew, World.size_drewN] at hz2 hr2); (try have hs2_w_0 : w.heap.size < w2.heap.size := by omega))
          | (go_at_call 17; (with_reducible refine (sane_any _).mono ?_); rintro e w8 ⟨rfl, hb8⟩)
              | (go_at_call 43; (with_reducible refine (ease_any _ _ _ L _ _ _ xs _ (HA.out.ext (by (repeat' (first | (with_reducible exact Below.refl _ _) | (with_reducible assumption) | (with_reducible refine Below.alloc ?_ ?_ _) | (with_reducible refine Below.drew ?_) | (with_reducible refine Below.draws ?_ _) | (with_reducible refine Below.setCell ?_ ?_ _) | (refine Below.then ?_ (by with_reducible assumption)) | go_size)))) HN.out HVT.out (HX.out.ext (by (repeat' (first | (with_reducible exact Below.refl _ _) | (with_reducible assumption) | (with_reducible refine Below.alloc ?_ ?_ _) | (with_reducible refine Below.drew ?_) | (with_reducible refine Below.draws ?_ _) | (with_reducible refine Below.setCell ?_ ?_ _) | (refine Below.then ?_ (by with_reducible assumption)) | go_size))))).mono ?_); rintro e w3 ⟨a3, c3, K, rfl, hk3, he3, hb3⟩; obtain ⟨hc3, hf3, hz3, hr3⟩ := bfacts hb3; (try simp only [World.size_alloc, World.size_setCell, World.size_drew, World.size_drewN] at hz3 hr3); (try have hs3_w_0 : w.heap.size < w3.heap.size := by omega); have HK := Lib.hid hk3; have HEK := Lib.hid he3; clear hk3 he3)
              | (go_at_call 44; (with_reducible refine (Easier_is (HA.out.ext (by (repeat' (first | (with_reducible exact Below.refl _ _) | (with_reducible assumption) | (with_reducible refine Below.alloc ?_ ?_ _) | (with_reducible refine Below.drew ?_) | (with_reducible refine Below.draws ?_ _) | (with_reducible refine Below.setCell ?_ ?_ _) | (refine Below.then ?_ (by with_reducible assumption)) | go_size)))) HK.out (HKA.out _ HEK.out)).mono ?_); rintro e w4 ⟨rfl, hb4⟩; obtain ⟨hc4, hf4, hz4, hr4⟩ := bfacts hb4; (try simp only [World.size_alloc, World.size_setCell, World.size_drew, World.size_drewN] at hz4 hr4); (try have hs4_w_0 : w.heap.size < w4.heap.size := by omega))
              | (go_at_call 16; (with_reducible refine (Accept_is (HA.out.ext (by (repeat' (first | (with_reducible exact Below.refl _ _) | (with_reducible assumption) | (with_reducible refine Below.alloc ?_ ?_ _) | (with_reducible refine Below.drew ?_) | (with_reducible refine Below.draws ?_ _) | (with_reducible refine Below.setCell ?_ ?_ _) | (refine Below.then ?_ (by with_reducible assumption)) | go_size)))) HX0.out).mono ?_); rintro e w5 ⟨rfl, hb5⟩; obtain ⟨hc5, hf5, hz5, hr5⟩ := bfacts hb5; (try simp only [World.size_alloc, World.size_setCell, World.size_drew, World.size_drewN] at hz5 hr5); (try have hs5_w_0 : w.heap.size < w5.heap.size := by omega))
              | (go_at_call 16; (with_reducible refine (Accept_is (HK.out.ext (by (repeat' (first | (with_reducible exact Below.refl _ _) | (with_reducible assumption) | (with_reducible refine Below.alloc ?_ ?_ _) | (with_reducible refine Below.drew ?_) | (with_reducible refine Below.draws ?_ _) | (with_reducible refine Below.setCell ?_ ?_ _) | (refine Below.then ?_ (by with_reducible assumption)) | go_size)))) (HKB.out _ HEK.out)).mono ?_); rintro e w6 ⟨rfl, hb6⟩; obtain ⟨hc6, hf6, hz6, hr6⟩ := bfacts hb6; (try simp only [World.size_alloc, World.size_setCell, World.size_drew, World.size_drewN] at hz6 hr6); (try have hs6_w_0 : w.heap.size < w6.heap.size := by omega)))
            go_ret
            exact ⟨rfl, by (repeat' (first | (with_reducible exact Below.refl _ _) | (with_reducible assumption) | (with_reducible refine Below.alloc ?_ ?_ _) | (with_reducible refine Below.drew ?_) | (with_reducible refine Below.draws ?_ _) | (with_reducible refine Below.setCell ?_ ?_ _) | (refine Below.then ?_ (by with_reducible assumption)) | go_size))⟩
          · have hx0' : (x != 0) = true := by simpa using hx0
            clear hx
            go_enter Try.func10, Try.ntmps10
            go_wp2_with (first
          | (go_at_call 15; (with_reducible refine (HM.out _ (by (repeat' (first | (with_reducible exact Below.refl _ _) | (with_reducible assumption) | (with_reducible refine Below.alloc ?_ ?_ _) | (with_reducible refine Below.drew ?_) | (with_reducible refine Below.draws ?_ _) | (with_reducible refine Below.setCell ?_ ?_ _) | (refine Below.then ?_ (by with_reducible assumption)) | go_size)))).mono ?_); rintro e w9 ⟨rfl, rfl⟩)
          | (go_at_call 34; (with_reducible refine (rValid_is (HA.out.ext (by (repeat' (first | (with_reducible exact Below.refl _ _) | (with_reducible assumption) | (with_reducible refine Below.alloc ?_ ?_ _) | (with_reducible refine Below.drew ?_) | (with_reducible refine Below.draws ?_ _) | (with_reducible refine Below.setCell ?_ ?_ _) | (refine Below.then ?_ (by with_reducible assumption)) | go_size)))) HV.out).mono ?_); rintro e w1 ⟨rfl, hb1⟩; obtain ⟨hc1, hf1, hz1, hr1⟩ := bfacts hb1; (try simp only [World.size_alloc, World.size_setCell, World.size_drew, World.size_drewN] at hz1 hr1); (try have hs1_w_0 : w.heap.size < w1.heap.size := by omega))
          | (go_at_call 42; (with_reducible refine (rsupV_is HS.out).mono ?_); rintro e w2 ⟨rfl, hb2⟩; obtain ⟨hc2, hf2, hz2, hr2⟩ := bfacts hb2; (try simp only [World.size_alloc, World.size_setCell, World.size_drew, World.size_drewN] at hz2 hr2); (try have hs2_w_0 : w.heap.size < w2.heap.size := by omega))
          | (go_at_call 17; (with_reducible refine (sane_any _).mono ?_); rintro e w8 ⟨rfl, hb8⟩)
              | (go_at_call 43; (with_reducible refine (ease_any _ _ _ L _ _ _ xs _ (HA.out.ext (by (repeat' (first | (with_reducible exact Below.refl _ _) | (with_reducible assumption) | (with_reducible refine Below.alloc ?_ ?_ _) | (with_reducible refine Below.drew ?_) | (with_reducible refine Below.draws ?_ _) | (with_reducible refine Below.setCell ?_ ?_ _) | (refine Below.then ?_ (by with_reducible assumption)) | go_size)))) HN.out HVT.out (HX.out.ext (by (repeat' (first | (with_reducible exact Below.refl _ _) | (with_reducible assumption) | (with_reducible refine Below.alloc ?_ ?_ _) | (with_reducible refine Below.drew ?_) | (with_reducible refine Below.draws ?_ _) | (with_reducible refine Below.setCell ?_ ?_ _) | (refine Below.then ?_ (by with_reducible assumption)) | go_size))))).mono ?_); rintro e w3 ⟨a3, c3, K, rfl, hk3, he3, hb3⟩; obtain ⟨hc3, hf3, hz3, hr3⟩ := bfacts hb3; (try simp only [World.size_alloc, World.size_setCell, World.size_drew, World.size_drewN] at hz3 hr3); (try have hs3_w_0 : w.heap.size < w3.heap.size := by omega); have HK := Lib.hid hk3; have HEK := Lib.hid he3; clear hk3 he3)
              | (go_at_call 44; (with_reducible refine (Easier_is (HA.out.ext (by (repeat' (first | (with_reducible exact Below.refl _ _) | (with_reducible assumption) | (with_reducible refine Below.alloc ?_ ?_ _) | (with_reducible refine Below.drew ?_) | (with_reducible refine Below.draws ?_ _) | (with_reducible refine Below.setCell ?_ ?_ _) | (refine Below.then ?_ (by with_reducible assumption)) | go_size)))) HK.out (HKA.out _ HEK.out)).mono ?_); rintro e w4 ⟨rfl, hb4⟩; obtain ⟨hc4, hf4, hz4, hr4⟩ := bfacts hb4; (try simp only [World.size_alloc, World.size_setCell, World.size_drew, World.size_drewN] at hz4 hr4); (try have hs4_w_0 : w.heap.size < w4.heap.size := by omega))
              | (go_at_call 16; (with_reducible refine (Accept_is (HA.out.ext (by (repeat' (first | (with_reducible exact Below.refl _ _) | (with_reducible assumption) | (with_reducible refine Below.alloc ?_ ?_ _) | (with_reducible refine Below.drew ?_) | (with_reducible refine Below.draws ?_ _) | (with_reducible refine Below.setCell ?_ ?_ _) | (refine Below.then ?_ (by with_reducible assumption)) | go_size)))) HX0.out).mono ?_); rintro e w5 ⟨rfl, hb5⟩; obtain ⟨hc5, hf5, hz5, hr5⟩ := bfacts hb5; (try simp only [World.size_alloc, World.size_setCell, World.size_drew, World.size_drewN] at hz5 hr5); (try have hs5_w_0 : w.heap.size < w5.heap.size := by omega)))
            go_ret
            exact ⟨rfl, by (repeat' (first | (with_reducible exact Below.refl _ _) | (with_reducible assumption) | (with_reducible refine Below.alloc ?_ ?_ _) | (with_reducible refine Below.drew ?_) | (with_reducible refine Below.draws ?_ _) | (with_reducible refine Below.setCell ?_ ?_ _) | (refine Below.then ?_ (by with_reducible assumption)) | go_size))⟩
    · have h100' : decide ((100 : Int) < (m : Int)) = true := by simp; omega
      go_enter Try.func10, Try.ntmps10
      go_wp2_with (first
          | (go_at_call 15; (with_reducible refine (HM.out _ (by (repeat' (first | (with_reducible exact Below.refl _ _) | (with_reducible assumption) | (with_reducible refine Below.alloc ?_ ?_ _) | (with_reducible refine Below.drew ?_) | (with_reducible refine Below.draws ?_ _) | (with_reducible refine Below.setCell ?_ ?_ _) | (refine Below.then ?_ (by with_reducible assumption)) | go_size)))).mono ?_); rintro e w9 ⟨rfl, rfl⟩)
          | (go_at_call 34; (with_reducible refine (rValid_is (HA.out.ext (by (repeat' (first | (with_reducible exact Below.refl _ _) | (with_reducible assumption) | (with_reducible refine Below.alloc ?_ ?_ _) | (with_reducible refine Below.drew ?_) | (with_reducible refine Below.draws ?_ _) | (with_reducible refine Below.setCell ?_ ?_ _) | (refine Below.then ?_ (by with_reducible assumption)) | go_size)))) HV.out).mono ?_); rintro e w1 ⟨rfl, hb1⟩; obtain ⟨hc1, hf1, hz1, hr1⟩ := bfacts hb1; (try simp only [World.size_alloc, World.size_setCell, World.size_drew, World.size_drewN] at hz1 hr1); (try have hs1_w_0 : w.heap.size < w1.heap.size := by omega))
          | (go_at_call 42; (with_reducible refine (rsupV_is HS.out).mono ?_); rintro e w2 ⟨rfl, hb2⟩; obtain ⟨hc2, hf2, hz2, hr2⟩ := bfacts hb2; (try simp only [World.size_alloc, World.size_setCell, World.size_drew, World.size_drewN] at hz2 hr2); (try have hs2_w_0 : w.heap.size < w2.heap.size := by omega))
          | (go_at_call 17; (with_reducible refine (sane_any _).mono ?_); rintro e w8 ⟨rfl, hb8⟩))
      go_ret
      exact ⟨rfl, by (repeat' (first | (with_reducible exact Below.refl _ _) | (with_reducible assumption) | (with_reducible refine Below.alloc ?_ ?_ _) | (with_reducible refine Below.drew ?_) | (with_reducible refine Below.draws ?_ _) | (with_reducible refine Below.setCell ?_ ?_ _) | (refine Below.then ?_ (by with_reducible assumption)) | go_size))⟩
  · go_enter Try.func10, Try.ntmps10
    go_wp2_with (first
          | (go_at_call 15; (with_reducible refine (HM.out _ (by (repeat' (first | (with_reducible exact Below.refl _ _) | (with_reducible assumption) | (with_reducible refine Below.alloc ?_ ?_ _) | (with_reducible refine Below.drew ?_) | (with_reducible refine Below.draws ?_ _) | (with_reducible refine Below.setCell ?_ ?_ _) | (refine Below.then ?_ (by with_reducible assumption)) | go_size)))).mono ?_); rintro e w9 ⟨rfl, rfl⟩)
          | (go_at_call 34; (with_reducible refine (rValid_is (HA.out.ext (by (repeat' (first | (with_reducible exact Below.refl _ _) | (with_reducible assumption) | (with_reducible refine Below.alloc ?_ ?_ _) | (with_reducible refine Below.drew ?_) | (with_reducible refine Below.draws ?_ _) | (with_reducible refine Below.setCell ?_ ?_ _) | (refine Below.then ?_ (by with_reducible assumption)) | go_size)))) HV.out).mono ?_); rintro e w1 ⟨rfl, hb1⟩; obtain ⟨hc1, hf1, hz1, hr1⟩ := bfacts hb1; (try simp only [World.size_alloc, World.size_setCell, World.size_drew, World.size_drewN] at hz1 hr1); (try have hs1_w_0 : w.heap.size < w1.heap.size := by omega))
          | (go_at_call 42; (with_reducible refine (rsupV_is HS.out).mono ?_); rintro e w2 ⟨rfl, hb2⟩; obtain ⟨hc2, hf2, hz2, hr2⟩ := bfacts hb2; (try simp only [World.size_alloc, World.size_setCell, World.size_drew, World.size_drewN] at hz2 hr2); (try have hs2_w_0 : w.heap.size < w2.heap.size := by omega))
          | (go_at_call 17; (with_reducible refine (sane_any _).mono ?_); rintro e w8 ⟨rfl, hb8⟩))
    go_ret
    exact ⟨rfl, by (repeat' (first | (with_reducible exact Below.refl _ _) | (with_reducible assumption) | (with_reducible refine Below.alloc ?_ ?_ _) | (with_reducible refine Below.drew ?_) | (with_reducible refine Below.draws ?_ _) | (with_reducible refine Below.setCell ?_ ?_ _) | (refine Below.then ?_ (by with_reducible assumption)) | go_size))⟩
end Go.Proofs.Ytabbmnnohnfbeaa
