/- The contract of slices.BinarySearch at ints. The conditions: the slice reads as named, in ascending order. -/
import Derived.Test.YtgldgomjlcojaaaIrow
namespace Go.Proofs.Ytgldgomjlcojaaa
open Go.RowKit
set_option linter.unusedSimpArgs false
set_option linter.unusedVariables false
def cntLt (xs : List Int) (v : Int) : Nat := (xs.filter (fun x => decide (x < v))).length
theorem cntLt_le (xs : List Int) (v : Int) : cntLt xs v ≤ xs.length := List.length_filter_le _ _
theorem cntLt_iff {v : Int} : ∀ {xs : List Int}, xs.Pairwise (· ≤ ·) → ∀ {i : Nat} {x : Int}, xs[i]? = some x → (x < v ↔ i < cntLt xs v)
  | [], _, i, x, h => by simp at h
  | y :: xs, hs, i, x, h => by
    rw [List.pairwise_cons] at hs
    by_cases hy : y < v
    · have e : cntLt (y :: xs) v = cntLt xs v + 1 := by simp [cntLt, hy]
      rw [e]
      rcases i with _ | i
      · simp at h; subst h; simp [hy]
      · have := cntLt_iff (v := v) hs.2 (i := i) (x := x) (by simpa using h)
        omega
    · have e : cntLt (y :: xs) v = 0 := by
        unfold cntLt
        rw [List.length_eq_zero_iff, List.filter_eq_nil_iff]
        intro z hz
        rcases List.mem_cons.1 hz with rfl | hz
        · simpa using hy
        · have := hs.1 z hz; simp; omega
      rw [e]
      have hm : x = y ∨ x ∈ xs := List.mem_cons.1 (List.mem_of_getElem? h)
      have : y ≤ x := by
        rcases hm with rfl | hm
        · exact Int.le_refl _
        · exact hs.1 x hm
      omega
theorem isNaN_any (x : Int) (w : World) : Calls Try.prog 75 #[.int .i64 x] w fun e w' => e = .returned (.bool false) ∧ w = w' := by
  go_enter Try.func75, Try.ntmps75
  go_wp2
  go_ret
  exact ⟨ret_bool (by simp), rfl⟩
theorem cisNaN_any (x : Int) (w : World) : Calls Try.prog 78 #[.int .i64 x] w fun e w' => e = .returned (.bool false) ∧ w = w' := by
  go_enter Try.func78, Try.ntmps78
  go_wp2
  go_ret
  exact ⟨ret_bool (by simp), rfl⟩
theorem less_val {x y : Int} {b : Bool} (w : World) (h : decide (x < y) = b) : Calls Try.prog 74 #[.int .i64 x, .int .i64 y] w fun e w' => e = .returned (.bool b) ∧ w = w' := by
  cases b
  · go_enter Try.func74, Try.ntmps74
    go_wp2_with (go_at_call 78; refine (cisNaN_any _ _).mono ?_; rintro e w1 ⟨rfl, rfl⟩)
    go_ret
    exact ⟨rfl, rfl⟩
  · go_enter Try.func74, Try.ntmps74
    go_wp2_with (go_at_call 78; refine (cisNaN_any _ _).mono ?_; rintro e w1 ⟨rfl, rfl⟩)
    go_ret
    exact ⟨rfl, rfl⟩
def BsP (k : Nat) (w : World) (e : Ending) (w' : World) : Prop := ∃ b : Bool, e = .returned (.tuple #[.int .i64 k, .bool b]) ∧ w = w'
set_option maxHeartbeats 1000000 in
theorem bsearch_any (a : Option Addr) (n c : Nat) (xs : List Int) (v : Int) (w : World) (hn : n ≤ 100000000) (hs : xs.Pairwise (· ≤ ·)) (hR : Rd w a n 1 (xs.map enc1)) :
    Calls Try.prog 65 #[.slice a n c, .int .i64 v] w (BsP (cntLt xs v) w) := by
  have hl := hR.length
  have hC := cntLt_le xs v
  rw [hl] at hC
  have HI := Lib.hid (fun i x (h : xs[i]? = some x) => cntLt_iff (v := v) hs h)
  generalize cntLt xs v = C at *
  have HL := Lib.hid hl; have HR := Lib.hid hR
  clear hl hs hR
  go_enter Try.func65, Try.ntmps65
  go_wp2
  go_loop [7, 8] (fun u v => ∃ i j : Nat, u = .int .i64 i ∧ v = .int .i64 j ∧ i ≤ C ∧ C ≤ j ∧ j ≤ n) (fun u v => (intOf v).toNat - (intOf u).toNat)
  case atStart => exact ⟨0, n, rfl, rfl, Nat.zero_le _, hC, Nat.le_refl _⟩
  case round =>
    obtain ⟨i, j, rfl, rfl, hi, hj, hjn⟩ := hrel
    by_cases hlt : i < j
    · obtain ⟨h, hh⟩ : ∃ h, (i + j) / 2 = h := ⟨_, rfl⟩
      have hhj : h < j := by omega
      have hhi : i ≤ h := by omega
      obtain ⟨x, b, off, rfl, hb, h1, hx⟩ := HR.out.idx h (by omega)
      have hx2 := HI.out h x hx
      have e5 : ((i : Int) + (j : Int)) / 2 = (h : Int) := by omega
      clear hx hh
      by_cases hlx : x < v
      · have q : decide (x < v) = true := by simpa using hlx
        have hc := hx2.1 hlx
        clear hlx hx2
        go_wp2_with (go_at_call 74; refine (less_val _ q).mono ?_; rintro e w1 ⟨rfl, rfl⟩)
        go_round
        case rel => exact ⟨h + 1, j, by go_num, rfl, by omega, by omega, by omega⟩
        case measure => simp [intOf]; omega
      · have q : decide (x < v) = false := by simpa using hlx
        have hc : ¬ h < C := fun hc => hlx (hx2.2 hc)
        clear hlx hx2
        go_wp2_with (go_at_call 74; refine (less_val _ q).mono ?_; rintro e w1 ⟨rfl, rfl⟩)
        go_round
        case rel => exact ⟨i, h, rfl, rfl, by omega, by omega, by omega⟩
        case measure => simp [intOf]; omega
    · obtain rfl : i = C := by omega
      by_cases hin : i < n
      · obtain ⟨x, b, off, rfl, hb, h1, hx⟩ := HR.out.idx i hin
        clear hx
        cases q : (x == v)
        · go_wp2_with (go_at_call 75; refine (isNaN_any _ _).mono ?_; rintro e w1 ⟨rfl, rfl⟩)
          go_ret2
          exact ⟨_, rfl, rfl⟩
        · go_wp2_with (go_at_call 75; refine (isNaN_any _ _).mono ?_; rintro e w1 ⟨rfl, rfl⟩)
          go_ret2
          exact ⟨_, rfl, rfl⟩
      · go_wp2_with (go_at_call 75; refine (isNaN_any _ _).mono ?_; rintro e w1 ⟨rfl, rfl⟩)
        go_ret2
        exact ⟨_, rfl, rfl⟩
end Go.Proofs.Ytgldgomjlcojaaa
