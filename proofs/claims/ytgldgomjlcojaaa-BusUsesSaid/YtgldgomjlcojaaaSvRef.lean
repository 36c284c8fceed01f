/- The contract of served of the reference. The conditions: the slots and the requests read as named. -/
import Derived.Test.YtgldgomjlcojaaaSvWalk
import Derived.Test.YtgldgomjlcojaaaSvPure2
import Derived.Test.YtgldgomjlcojaaaBsRef
namespace Go.Proofs.Ytgldgomjlcojaaa
open Go.RowKit
set_option linter.unusedSimpArgs false
set_option linter.unusedVariables false
set_option maxHeartbeats 1000000 in
theorem rqahead_any (a : Option Addr) (n c : Nat) (q : List Rq) (i k : Nat) (hi : i < n) (hk : k < n) (w : World) (hR : Rd w a n 3 (q.map encQ)) :
    Calls Try.prog 73 #[.slice a n c, .int .i64 i, .int .i64 k] w fun e w' => e = .returned (.bool (aheadQ q i k)) ∧ Below w.heap.size w w' := by
  have hs := hR.small
  obtain ⟨t, b, off, rfl, hb, hg, _, c0, _, _⟩ := hR.rq i hi
  obtain ⟨u, b', off', e, hb', hg2, _, d0, _, _⟩ := hR.rq k hk
  simp at e
  obtain ⟨rfl, rfl⟩ := e
  obtain ⟨R, hRR⟩ : ∃ R, aheadQ q i k = R := ⟨_, rfl⟩
  rw [hRR]
  have hA : aheadQ q i k = true ↔ (t.o < u.o ∨ (t.o = u.o ∧ (i : Int) < (k : Int))) := by rw [aheadQ_iff, rqAt_of hg, rqAt_of hg2]
  rw [hRR] at hA
  clear hR hg hg2
  by_cases h1 : t.o < u.o
  · obtain rfl : R = true := hA.2 (.inl h1)
    clear hRR hA
    go_enter Try.func73, Try.ntmps73
    go_wp2_with (refine wp_region_later_lit (by kernel_rfl) (by kernel_rfl) ?_; (repeat (go_big_quiet_step (fail))); refine wpQuiet_nil ?_; intro w1 hb1)
    go_ret
    exact ⟨rfl, hb1⟩
  · have h1' : decide (t.o < u.o) = false := by simpa using h1
    by_cases h2 : t.o = u.o
    · have h2' : (t.o == u.o) = true := by simpa using h2
      have h3' : decide ((i : Int) < (k : Int)) = R := by
        cases R
        · exact decide_eq_false (fun q => by have := hA.2 (.inr ⟨h2, q⟩); simp at this)
        · exact decide_eq_true (by rcases hA.1 rfl with q | q; exact absurd q h1; exact q.2)
      have h3 : decide (i < k) = R := by rw [← h3', decide_eq_decide]; omega
      clear hRR hA
      go_enter Try.func73, Try.ntmps73
      go_wp2_with (refine wp_region_later_lit (by kernel_rfl) (by kernel_rfl) ?_; (repeat (go_big_quiet_step (fail))); refine wpQuiet_nil ?_; intro w1 hb1)
      go_ret
      exact ⟨rfl, hb1⟩
    · have h2' : (t.o == u.o) = false := by simpa using h2
      obtain rfl : R = false := by
        cases R
        · rfl
        · rcases hA.1 rfl with q | q
          · exact absurd q h1
          · exact absurd q.1 h2
      clear hRR hA
      go_enter Try.func73, Try.ntmps73
      go_wp2_with (refine wp_region_later_lit (by kernel_rfl) (by kernel_rfl) ?_; (repeat (go_big_quiet_step (fail))); refine wpQuiet_nil ?_; intro w1 hb1)
      go_ret
      exact ⟨rfl, hb1⟩
theorem rqahead_is {a : Option Addr} {n c : Nat} {q : List Rq} {i : Nat} {x : Int} {B : Bool} (hi : i < n) (hx : 0 ≤ x ∧ x < n) {w : World} (hR : Rd w a n 3 (q.map encQ)) (h : aheadQ q i x = B) :
    Calls Try.prog 73 #[.slice a n c, .int .i64 i, .int .i64 x] w fun e w' => e = .returned (.bool B) ∧ Below w.heap.size w w' := by
  obtain ⟨k, rfl⟩ := Int.eq_ofNat_of_zero_le hx.1
  subst h; exact rqahead_any a n c q i k hi (by omega) w hR
end Go.Proofs.Ytgldgomjlcojaaa
