/- The contract of sane of the law's package. No condition. -/
import Derived.Test.YtabbmnnohnfbeaaRsTop
import Derived.Test.YtabbmnnohnfbeaaTkMany
namespace Go.Proofs.Ytabbmnnohnfbeaa
open Go.RowKit
set_option linter.unusedSimpArgs false
set_option linter.unusedVariables false
def saneL : List Ta := [⟨0, 20, 0, 20, 0, [(4, -1)]⟩]
theorem sane_win : winR saneL 10 3 0 = (7, 0) := by decide +kernel
theorem sane_acc : accE saneL 10 3 = 0 := by decide +kernel
def saneW (w : World) : World := (w.alloc (.cells #[.int .i64 4, .int .i64 (-1)] 62)).alloc (.cells #[.int .i64 0, .int .i64 20, .int .i64 0, .int .i64 20, .int .i64 0, .slice (some ⟨w.heap.size, 0, none⟩) 1 1] 52)
theorem saneW_rd (w : World) : RdL (saneW w) (some ⟨w.heap.size + 1, 0, none⟩) 1 saneL := by
  refine ⟨[⟨0, 20, 0, 20, 0, some ⟨w.heap.size, 0, none⟩, 1, 1, [(4, -1)]⟩], ⟨⟨rfl, by omega, fun _ => ⟨_, 0, rfl, by simp [saneW], fun i hi j hj => ?_⟩⟩, fun t ht => ?_⟩, rfl⟩
  · have hi' : i < 1 := hi
    obtain rfl : i = 0 := by omega
    have hj' : j < 6 := hj
    rcases j with _ | _ | _ | _ | _ | _ | j <;> first | omega | (simp [saneW, encTa, go_sem])
  · simp at ht
    subst ht
    refine ⟨⟨rfl, by simp, fun _ => ⟨_, 0, rfl, by simp [saneW]; omega, fun i hi j hj => ?_⟩⟩, fun h => by simp at h⟩
    have hi' : i < 1 := hi
    obtain rfl : i = 0 := by omega
    have hj' : j < 2 := hj
    rcases j with _ | _ | j <;> first | omega | (simp [saneW, enc2, go_sem])
set_option maxRecDepth 10000 in
set_option maxHeartbeats 1000000 in
theorem sane_any (w : World) : Calls Try.prog 17 #[] w fun e w' => e = .returned (.bool true) ∧ Below w.heap.size w w' := by
  have hW := saneW_rd w
  have hBW : Below w.heap.size w (saneW w) := by unfold saneW; (repeat' (first | (with_reducible exact Below.refl _ _) | (with_reducible assumption) | (with_reducible refine Below.alloc ?_ ?_ _) | (with_reducible refine Below.drew ?_) | (with_reducible refine Below.draws ?_ _) | (with_reducible refine Below.setCell ?_ ?_ _) | (refine Below.then ?_ (by with_reducible assumption)) | go_size))
  unfold saneW at hW hBW
  have HW := Lib.hid hW; have HBW := Lib.hid hBW
  clear hW hBW
  go_enter Try.func17, Try.ntmps17
  go_wp2_with (first
    | (go_at_call 18; (with_reducible refine (Window_is HW.out sane_win).mono ?_); rintro e w1 ⟨rfl, hb1⟩; have B1 := Lib.hid hb1; clear hb1)
    | (go_at_call 16; (with_reducible refine (Accept_is (HW.out.ext B1.out) sane_acc).mono ?_); rintro e w2 ⟨rfl, hb2⟩; have B2 := Lib.hid hb2; clear hb2))
  go_ret
  exact ⟨rfl, (by repeat (first | (with_reducible exact Below.refl _ _) | (refine Below.then ?_ (Hid.out (by with_reducible assumption)))))⟩
theorem Many_no {n : Nat} {L : List Ta} (h : manyL n L = false) : n < 400 ∧ ∀ t ∈ L, t.pcs.length ≤ 1000 := by
  obtain ⟨h1, h2⟩ := manyL_no h
  exact ⟨h1, fun t ht => by have := h2 t ht; omega⟩
end Go.Proofs.Ytabbmnnohnfbeaa
