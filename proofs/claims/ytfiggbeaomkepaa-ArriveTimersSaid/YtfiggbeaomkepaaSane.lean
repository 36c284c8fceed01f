/- sane returns true. No condition. -/
import Derived.Test.YtfiggbeaomkepaaMake
namespace Go.Proofs.Ytfiggbeaomkepaa
open Go.RowKit
set_option linter.unusedSimpArgs false
set_option linter.unusedVariables false
theorem eqp (a b x y : Int) (w : World) : (Op.equalIn 10000 61 (.agg #[.int .i64 a, .int .i64 b]) (.agg #[.int .i64 x, .int .i64 y])).run Try.prog w = .ok (a == x && b == y) w :=
  equalIn_pair 61 3 9998 Try.underlying61 Try.underlying3 Try.sizeOf3 Try.isAgg3 a b x y w
theorem most_sane (w : World) : Calls Try.prog 14 #[patV 0 10 15, .int .i64 1] w fun e w' => e = rII 2 0 ∧ Below w.heap.size w w' :=
  (most_any 0 10 15 1 w).mono fun _ _ ⟨h, b⟩ => ⟨h.trans (by rw [show mostR 0 10 15 1 = (2, 0) by decide +kernel]), b⟩
theorem reading_sane (w : World) : Calls Try.prog 17 #[patV 0 3 2, .int .i64 3] w fun e w' => e = rII 4 0 ∧ Below w.heap.size w w' :=
  (reading_any 0 3 2 3 w).mono fun _ _ ⟨h, b⟩ => ⟨h.trans (by rw [show readR 0 3 2 3 = (4, 0) by decide +kernel]), b⟩
def SaneB (w : World) (e : Ending) (w' : World) : Prop := ∃ b c, e = .returned (.tuple #[.slice (some ⟨b, 0, none⟩) 3 c, .int .i64 0]) ∧ b < w'.heap.size ∧ (w'.cell? ⟨b, 0, none⟩ = some (.int .i64 5) ∧ w'.cell? ⟨b, 1, none⟩ = some (.int .i64 15) ∧ w'.cell? ⟨b, 2, none⟩ = some (.int .i64 15) ∧ w'.cell? ⟨b, 3, none⟩ = some (.int .i64 5) ∧ w'.cell? ⟨b, 4, none⟩ = some (.int .i64 25) ∧ w'.cell? ⟨b, 5, none⟩ = some (.int .i64 0)) ∧ Below w.heap.size w w'
theorem bunch_sane (w : World) : Calls Try.prog 35 #[patV 0 10 15, .int .i64 20, .int .i64 3] w (SaneB w) := by
  refine (bunch_any 0 10 15 20 3 w).mono ?_
  rintro e w' ⟨a, n, c, rfl, h, hb⟩
  have hn : n = 3 := by have := h.1; rw [show (if bunchC 0 10 15 20 3 = true then bunchL (max 0 (20 - 15)) 10 20 (Int.toNat 3) else []) = [(5, 15), (15, 5), (25, 0)] by decide +kernel] at this; simp [enc2] at this; omega
  subst hn
  rw [show (if bunchC 0 10 15 20 3 = true then bunchL (max 0 (20 - 15)) 10 20 (Int.toNat 3) else []) = [(5, 15), (15, 5), (25, 0)] by decide +kernel] at h
  rw [show (if bunchC 0 10 15 20 3 = true then (0 : Int) else 1) = 0 by decide +kernel]
  rcases h.2 with ⟨_, h2⟩ | ⟨g, cap, cur, hv, _, hh, _⟩
  · omega
  · obtain ⟨rfl, rfl⟩ : a = some ⟨g, 0, none⟩ ∧ c = cap := by simpa using hv
    refine ⟨g, c, rfl, (Array.getElem?_eq_some_iff.1 hh).1, ⟨?_, ?_, ?_, ?_, ?_, ?_⟩, hb⟩ <;> (rw [h.cellAt _ (by omega)]; rfl)
theorem sane_any (w : World) : Calls Try.prog 16 #[] w fun e w' => e = .returned (.bool true) ∧ Below w.heap.size w w' := by
  have hEq := eqp
  go_enter Try.func16, Try.ntmps16
  go_wp2_with (first | (go_at_call 14; refine (most_sane _).mono ?_; rintro e w1 ⟨rfl, hb1⟩; obtain ⟨hc1, hf1, hz1, hr1⟩ := bfacts hb1; (try simp only [World.size_alloc, World.size_setCell, World.size_drew, World.size_drewN] at hz1 hr1); (try have hw0 : w.heap.size < w1.heap.size := by omega); (try have hw1 : w.heap.size + 1 < w1.heap.size := by omega); (try have hw2 : w.heap.size + 1 + 1 < w1.heap.size := by omega)) | (go_at_call 17; refine (reading_sane _).mono ?_; rintro e w1 ⟨rfl, hb1⟩; obtain ⟨hc1, hf1, hz1, hr1⟩ := bfacts hb1; (try simp only [World.size_alloc, World.size_setCell, World.size_drew, World.size_drewN] at hz1 hr1); (try have hw0 : w.heap.size < w1.heap.size := by omega); (try have hw1 : w.heap.size + 1 < w1.heap.size := by omega); (try have hw2 : w.heap.size + 1 + 1 < w1.heap.size := by omega)) | (go_at_call 35; refine (bunch_sane _).mono ?_; rintro e w1 ⟨b, c, rfl, hbl, ⟨g0, g1, g2, g3, g4, g5⟩, hb1⟩; obtain ⟨hc1, hf1, hz1, hr1⟩ := bfacts hb1))
  go_ret
  exact ⟨rfl, by (repeat' (first | (with_reducible exact Below.refl _ _) | (with_reducible assumption) | (with_reducible refine Below.alloc ?_ ?_ _) | (with_reducible refine Below.drew ?_) | (with_reducible refine Below.draws ?_ _) | (with_reducible refine Below.setCell ?_ ?_ _) | (refine Below.then ?_ (by with_reducible assumption)) | go_size))⟩
end Go.Proofs.Ytfiggbeaomkepaa
