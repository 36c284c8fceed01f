/- The contracts of cmp.Or, of Merge's comparison, and of Merge of both sides. The conditions: the lists read as named. -/
import Derived.Test.YtfiggbeaomkepaaStPAll
import Derived.Test.YtfiggbeaomkepaaStPCat
import Derived.Test.YtfiggbeaomkepaaPushM
import Derived.Deep.RegionWith
import Derived.Deep.RegionHeld3
namespace Go.Proofs.Ytfiggbeaomkepaa.StP
open Go.RowKit Go.Proofs.Ytfiggbeaomkepaa
set_option linter.unusedSimpArgs false
set_option linter.unusedVariables false
def cmpI (x y : Int) : Int := if x < y then -1 else if y < x then 1 else 0
theorem nan_any (x : Int) (w : World) : Calls Try.prog 80 #[.int .i64 x] w fun e w' => e = .returned (.bool false) ∧ w = w' := by
  go_enter Try.func80, Try.ntmps80
  go_wp2
  go_ret
  exact ⟨ret_bool (by simp), rfl⟩
theorem compare_any (x y : Int) (w : World) : Calls Try.prog 64 #[.int .i64 x, .int .i64 y] w fun e w' => e = .returned (.int .i64 (cmpI x y)) ∧ w = w' := by
  by_cases h1 : x < y
  · rw [show cmpI x y = -1 from if_pos h1]
    go_enter Try.func64, Try.ntmps64
    go_wp2_with (go_at_call 80; refine (nan_any _ _).mono ?_; rintro e w1 ⟨rfl, rfl⟩)
    go_ret
    exact ⟨rfl, rfl⟩
  · by_cases h2 : y < x
    · rw [show cmpI x y = 1 by unfold cmpI; rw [if_neg h1, if_pos h2]]
      have h1' : decide (x < y) = false := by simpa using h1
      go_enter Try.func64, Try.ntmps64
      go_wp2_with (go_at_call 80; refine (nan_any _ _).mono ?_; rintro e w1 ⟨rfl, rfl⟩)
      go_ret
      exact ⟨rfl, rfl⟩
    · rw [show cmpI x y = 0 by unfold cmpI; rw [if_neg h1, if_neg h2]]
      have h1' : decide (x < y) = false := by simpa using h1
      have h2' : decide (y < x) = false := by simpa using h2
      go_enter Try.func64, Try.ntmps64
      go_wp2_with (go_at_call 80; refine (nan_any _ _).mono ?_; rintro e w1 ⟨rfl, rfl⟩)
      go_ret
      exact ⟨rfl, rfl⟩
def orI (u v : Int) : Int := if u = 0 then v else u
theorem or_any (q c : Nat) (u v : Int) (w : World) (h1 : w.cell? ⟨q, 0, none⟩ = some (.int .i64 u)) (h2 : w.cell? ⟨q, 1, none⟩ = some (.int .i64 v)) :
    Calls Try.prog 63 #[.slice (some ⟨q, 0, none⟩) 2 c] w fun e w' => e = .returned (.int .i64 (orI u v)) ∧ w = w' := by
  have H1 := Lib.hid h1; have H2 := Lib.hid h2
  obtain ⟨R, hR⟩ : ∃ R, orI u v = R := ⟨_, rfl⟩
  rw [hR]
  have HR := Lib.hid hR
  clear hR
  go_enter Try.func63, Try.ntmps63
  go_wp2
  go_loopw [8] (fun i wr => ((i = .int .i64 0) ∨ (i = .int .i64 1 ∧ u = 0) ∨ (i = .int .i64 2 ∧ u = 0 ∧ v = 0)) ∧ w = wr) (fun i _ => 2 - (intOf i).toNat)
  case atStart => exact ⟨.inl rfl, rfl⟩
  case round =>
    obtain ⟨hi, rfl⟩ := hrel
    rcases hi with rfl | ⟨rfl, hu⟩ | ⟨rfl, hu, hv⟩
    · by_cases hu : u = 0
      · have HU := Lib.hid hu
        have hu' : (u != 0) = false := by simpa using hu
        clear hu
        go_wp2
        go_roundw
        case rel => exact ⟨.inr (.inl ⟨rfl, HU.out⟩), by first | rfl | trivial⟩
        case measure => simp [intOf]
      · have hu' : (u != 0) = true := by simpa using hu
        obtain rfl : R = u := by rw [← HR.out]; exact if_neg hu
        go_wp2
        go_ret
        exact ⟨rfl, rfl⟩
    · have HU := Lib.hid hu
      obtain rfl : R = v := by rw [← HR.out]; exact if_pos hu
      by_cases hv : R = 0
      · have HV := Lib.hid hv
        have hv' : (R != 0) = false := by simpa using hv
        clear hu hv
        go_wp2
        go_roundw
        case rel => exact ⟨.inr (.inr ⟨rfl, HU.out, HV.out⟩), by first | rfl | trivial⟩
        case measure => simp [intOf]
      · have hv' : (R != 0) = true := by simpa using hv
        clear hu
        go_wp2
        go_ret
        exact ⟨rfl, rfl⟩
    · obtain rfl : R = 0 := by rw [← HR.out, hu, hv]; exact if_pos rfl
      go_wp2
      go_ret
      exact ⟨rfl, rfl⟩
/-- the comparison of events -/
def pcmp (x y : P2) : Int := orI (cmpI x.1 y.1) (cmpI x.2 y.2)
theorem pcmp_lt {x y : P2} : ltOf pcmp x y = true ↔ (x.1 < y.1 ∨ (x.1 = y.1 ∧ x.2 < y.2)) := by
  unfold ltOf pcmp orI cmpI
  rw [decide_eq_true_iff]
  (repeat' split) <;> omega
theorem pcmp_no {x y : P2} : ltOf pcmp x y = false ↔ ¬ (x.1 < y.1 ∨ (x.1 = y.1 ∧ x.2 < y.2)) := by
  rw [← pcmp_lt]; simp
theorem pswo : Swo (ltOf pcmp) := ⟨fun a b h => by rw [pcmp_lt] at h; rw [pcmp_no]; omega, fun a b c h k => by rw [pcmp_no] at *; omega⟩
set_option maxRecDepth 100000 in
set_option maxHeartbeats 4000000 in
theorem mcmp_any (x y : P2) (w : World) : Calls Try.prog 62 #[val2 x, val2 y] w fun e w' => e = .returned (.int .i64 (pcmp x y)) ∧ Below w.heap.size w w' := by
  obtain ⟨x1, x2⟩ := x
  obtain ⟨y1, y2⟩ := y
  show Calls Try.prog 62 #[.agg #[.int .i64 x1, .int .i64 x2], .agg #[.int .i64 y1, .int .i64 y2]] w fun e w' => e = .returned (.int .i64 (orI (cmpI x1 y1) (cmpI x2 y2))) ∧ Below w.heap.size w w'
  generalize hu : cmpI x1 y1 = u
  generalize hv : cmpI x2 y2 = v
  have HU := Lib.hid hu; have HV := Lib.hid hv
  clear hu hv
  go_enter Try.func62, Try.ntmps62
  go_upto_region 1 with (fail)
  obtain ⟨W, hW⟩ : ∃ W, (w.alloc (.cells #[.int .i64 x1, .int .i64 x2] 61)).alloc (.cells #[.int .i64 y1, .int .i64 y2] 61) = W := ⟨_, rfl⟩
  have d1 : W.cell? ⟨w.heap.size, 0, none⟩ = some (.int .i64 x1) := by rw [← hW]; simp [go_sem]
  have d2 : W.cell? ⟨w.heap.size, 1, none⟩ = some (.int .i64 x2) := by rw [← hW]; simp [go_sem]
  have d3 : W.cell? ⟨w.heap.size + 1, 0, none⟩ = some (.int .i64 y1) := by rw [← hW]; simp [go_sem]
  have d4 : W.cell? ⟨w.heap.size + 1, 1, none⟩ = some (.int .i64 y2) := by rw [← hW]; simp [go_sem]
  have hz : W.heap.size = w.heap.size + 2 := by rw [← hW]; simp
  have hbW : Below w.heap.size w W := by rw [← hW]; (repeat' (first | (with_reducible exact Below.refl _ _) | (with_reducible assumption) | (with_reducible refine Below.alloc ?_ ?_ _) | (with_reducible refine Below.drew ?_) | (with_reducible refine Below.draws ?_ _) | (with_reducible refine Below.setCell ?_ ?_ _) | (refine Below.then ?_ (by with_reducible assumption)) | go_size))
  rw [hW]
  have z1 : w.heap.size < W.heap.size := by omega
  have z2 : w.heap.size + 1 < W.heap.size := by omega
  have HBW := Lib.hid hbW
  obtain ⟨N, hN⟩ : ∃ N, w.heap.size = N := ⟨_, rfl⟩
  rw [hN] at d1 d2 d3 d4 z1 z2 ⊢
  clear hW hz hbW
  go_region_held3 (fun w' => w'.cell? ⟨N, 0, none⟩ = some (.int .i64 x1) ∧ w'.cell? ⟨N, 1, none⟩ = some (.int .i64 x2) ∧ w'.cell? ⟨N + 1, 0, none⟩ = some (.int .i64 y1) ∧ w'.cell? ⟨N + 1, 1, none⟩ = some (.int .i64 y2))
    (first | go_keep)
    (first
      | (go_at_call 64
         (with_reducible refine (compare_any x1 y1 _).mono ?_)
         rw [HU.out]
         rintro e w1 ⟨rfl, rfl⟩)
      | (go_at_call 64
         (with_reducible refine (compare_any x2 y2 _).mono ?_)
         rw [HV.out]
         rintro e w1 ⟨rfl, rfl⟩)
      | (go_at_call 63
         refine (or_any _ _ u v _ (by simp [go_sem]) (by simp [go_sem])).mono ?_
         rintro e w1 ⟨rfl, rfl⟩))
  go_wp2
  go_ret
  exact ⟨rfl, by subst hN; have := HBW.out; (repeat' (first | (with_reducible exact Below.refl _ _) | (with_reducible assumption) | (with_reducible refine Below.alloc ?_ ?_ _) | (with_reducible refine Below.drew ?_) | (with_reducible refine Below.draws ?_ _) | (with_reducible refine Below.setCell ?_ ?_ _) | (refine Below.then ?_ (by with_reducible assumption)) | go_size))⟩
theorem mcmp_on (b : Nat) (xs : List P2) (w : World) : CmpOn 62 #[] pcmp b xs w := ⟨fun args w => by kernel_rfl, fun wr x y _ _ _ => mcmp_any x y wr⟩
end Go.Proofs.Ytfiggbeaomkepaa.StP
