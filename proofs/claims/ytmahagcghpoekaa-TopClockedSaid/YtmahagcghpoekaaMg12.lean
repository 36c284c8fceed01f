/- The contract of the program's Meets. The conditions: the run reads as named. Shares of a run: at most one busy entry a tick; the collector's ticks of a window. No condition: plain lemmas. The contract of supply.Collector. The conditions: numbers in range where named. The contract of sane of the law's package. No condition. The contract of copied of the law's package: tasks with memory of their own. The conditions: the tasks read as named and are few. Tasks that the call made and may write: cells of the tasks and of their pieces. The conditions: the tasks read as named and are few. Plain facts: tasks that are easier, or fewer, demand no more. No condition: plain lemmas. Easier: the plain functions and the program's contract. The conditions: the tasks read as named. Tasks made easier: the plain part, and the contract of ease of the law's package. The conditions: the tasks read as named and are valid. The contract of ease of the law's package. The conditions: the tasks read as named and are valid. The contracts of First and Responses of response and of its reference. The conditions: the tasks read as named. -/
import Derived.Test.YtmahagcghpoekaaMg8
import Derived.Test.YtmahagcghpoekaaMg2
import Derived.Test.YtmahagcghpoekaaMg5
import Derived.Test.YtmahagcghpoekaaMg6
import Derived.Test.YtmahagcghpoekaaMg10
import Derived.Test.YtmahagcghpoekaaMg9
import Derived.Test.YtmahagcghpoekaaMg3
import Derived.OneCell
import Derived.Laws.OwnMore
import Derived.Test.YtmahagcghpoekaaMg7
import Derived.StillTailTactics
import Derived.BigRegion
namespace Go.Proofs.Ytmahagcghpoekaa
open Go.RowKit
set_option linter.unusedSimpArgs false
set_option linter.unusedVariables false
theorem meets_late {R : Rn} {t x y z : Int} (h : lateR R t = (x, y, z)) : (meetsR R t).1 = (z == 0) ∧ (meetsR R t).2 = (if z = 1 then 1 else 0) := by
  unfold lateR at h
  unfold meetsR
  split at h
  · rename_i hc
    rw [if_pos hc]
    split at h
    · rename_i h0
      obtain rfl : 15 = z := congrArg (fun p => p.2.2) h
      refine ⟨?_, rfl⟩
      show decide ((lateF R t).2.1 < 0) = _
      rw [decide_eq_false (by omega)]; rfl
    · rename_i h0
      obtain rfl : 0 = z := congrArg (fun p => p.2.2) h
      refine ⟨?_, rfl⟩
      show decide ((lateF R t).2.1 < 0) = _
      rw [decide_eq_true (by omega)]; rfl
  · rename_i hc
    rw [if_neg hc]
    obtain rfl : 1 = z := congrArg (fun p => p.2.2) h
    exact ⟨rfl, rfl⟩
theorem Late_is {H : RunH} {R : Rn} {t x y z : Int} {w : World} (hR : ReadRun w H R) (h : lateR R t = (x, y, z)) : Calls Try.prog 52 #[runV H R.fr R.sl, .int .i64 t] w fun e w' => e = rIII x y z ∧ Below w.heap.size w w' := by
  have := Late_any H R t w hR
  rw [h] at this; exact this
theorem Meets_any (H : RunH) (R : Rn) (t : Int) (w : World) (hR : ReadRun w H R) : Calls Try.prog 23 #[runV H R.fr R.sl, .int .i64 t] w fun e w' => e = .returned (.tuple #[.bool (meetsR R t).1, .int .i64 (meetsR R t).2]) ∧ Below w.heap.size w w' := by
  obtain ⟨x, y, z, hL⟩ : ∃ x y z, lateR R t = (x, y, z) := ⟨_, _, _, rfl⟩
  obtain ⟨m1, m2⟩ := meets_late hL
  rw [m1, m2]
  have HL := Lib.hid (fun w1 (hb : Below w.heap.size w w1) => Late_is (hR.ext hb) hL)
  obtain ⟨fr, hfr⟩ : ∃ x, R.fr = x := ⟨_, rfl⟩
  obtain ⟨sl_, hsl⟩ : ∃ x, R.sl = x := ⟨_, rfl⟩
  rw [hfr, hsl] at HL ⊢
  obtain ⟨tA, tN, tC, eA, eN, eC, bA, bN, bC, sA, sN, sC⟩ := H
  unfold runV rIII at HL
  unfold runV
  simp only [] at HL ⊢
  clear hR hfr hsl hL m1 m2
  by_cases h1 : z = 1
  · subst h1
    go_enter Try.func23, Try.ntmps23
    go_wp2_with (go_at_call 52; (with_reducible refine (HL.out _ (by (repeat' (first | (with_reducible exact Below.refl _ _) | (with_reducible assumption) | (with_reducible refine Below.alloc ?_ ?_ _) | (with_reducible refine Below.drew ?_) | (with_reducible refine Below.draws ?_ _) | (with_reducible refine Below.setCell ?_ ?_ _) | (refine Below.then ?_ (by with_reducible assumption)) | go_size)))).mono ?_); rintro e w2 ⟨rfl, hb2⟩)
    go_ret2
    exact ⟨rfl, Below.trans (by (repeat' (first | (with_reducible exact Below.refl _ _) | (with_reducible assumption) | (with_reducible refine Below.alloc ?_ ?_ _) | (with_reducible refine Below.drew ?_) | (with_reducible refine Below.draws ?_ _) | (with_reducible refine Below.setCell ?_ ?_ _) | (refine Below.then ?_ (by with_reducible assumption)) | go_size))) (hb2.mono (by simp))⟩
  · have h1' : (z == 1) = false := by simpa using h1
    have e : (if z = 1 then (1 : Int) else 0) = 0 := if_neg h1
    rw [e]
    go_enter Try.func23, Try.ntmps23
    go_wp2_with (go_at_call 52; (with_reducible refine (HL.out _ (by (repeat' (first | (with_reducible exact Below.refl _ _) | (with_reducible assumption) | (with_reducible refine Below.alloc ?_ ?_ _) | (with_reducible refine Below.drew ?_) | (with_reducible refine Below.draws ?_ _) | (with_reducible refine Below.setCell ?_ ?_ _) | (refine Below.then ?_ (by with_reducible assumption)) | go_size)))).mono ?_); rintro e w2 ⟨rfl, hb2⟩)
    go_ret2
    exact ⟨rfl, Below.trans (by (repeat' (first | (with_reducible exact Below.refl _ _) | (with_reducible assumption) | (with_reducible refine Below.alloc ?_ ?_ _) | (with_reducible refine Below.drew ?_) | (with_reducible refine Below.draws ?_ _) | (with_reducible refine Below.setCell ?_ ?_ _) | (refine Below.then ?_ (by with_reducible assumption)) | go_size))) (hb2.mono (by simp))⟩
end Go.Proofs.Ytmahagcghpoekaa
namespace Go.Proofs.Ytmahagcghpoekaa
open Go.RowKit
set_option linter.unusedSimpArgs false
set_option linter.unusedVariables false
def busyAt (t : Int) (e : En) : Bool := decide (e.m = t) && isBusy e
def gcIn (a b : Int) (e : En) : Bool := decide (e.w = 3) && (decide (a ≤ e.m) && decide (e.m < b))
theorem isBusy_no {e : En} (h3 : e.w ≠ 3) (h4 : e.w ≠ 4) : isBusy e = false := by unfold isBusy; rw [decide_eq_false h3, decide_eq_false h4]; rfl
theorem gcIn_no {a b : Int} {e : En} (h3 : e.w ≠ 3) : gcIn a b e = false := by unfold gcIn; rw [decide_eq_false h3]; rfl
theorem busyAt_no {t : Int} {e : En} (h : isBusy e = false) : busyAt t e = false := by unfold busyAt; rw [h, Bool.and_false]
/-- a tick's busy entries: one at most, at its own moment -/
theorem tick_busy (R : Rn) (t : Int) (s : Ms) : ∃ l, (tckA R t s).o = s.o ++ l ∧ ((∀ e ∈ l, isBusy e = false) ∨ ∃ l1 x l2, l = l1 ++ (x :: l2) ∧ x.m = t ∧ (∀ e ∈ l1, isBusy e = false) ∧ (∀ e ∈ l2, isBusy e = false)) ∧
    (∀ a b : Int, cntE (gcIn a b) l = if t % R.fr < R.sl ∧ a ≤ t ∧ t < b then 1 else 0) := by
  obtain ⟨l, h1, h2⟩ := tick_new R t s
  refine ⟨l, h1, ?_, fun a b => ?_⟩
  · rcases h2 with ⟨_, l1, rfl, h⟩ | ⟨_, h3, h4 | ⟨l1, e4, l2, rfl, h4, hm, g1, g2⟩⟩
    · exact .inr ⟨l1, _, [], rfl, rfl, fun e he => isBusy_no (h e he).1 (h e he).2, fun e he => (by cases he)⟩
    · exact .inl (fun e he => isBusy_no (h3 e he) (h4 e he))
    · exact .inr ⟨l1, e4, l2, rfl, hm, fun e he => isBusy_no (h3 e (by simp [he])) (g1 e he), fun e he => isBusy_no (h3 e (by simp [he])) (g2 e he)⟩
  · rcases h2 with ⟨hg, l1, rfl, h⟩ | ⟨hg, h3, _⟩
    · rw [cntE_app, cntE_none _ l1 (fun e he => gcIn_no (h e he).1)]
      unfold cntE gcIn
      simp [cntE, hg]
    · rw [cntE_none _ l (fun e he => gcIn_no (h3 e he)), if_neg (fun q => hg q.1)]
/-- busy entries lie in their ticks, one a tick -/
theorem busy_one (R : Rn) : ∀ k : Nat, (∀ e ∈ (plM R k).o, isBusy e = true → e.m < k) ∧ ∀ t : Int, cntE (busyAt t) (plM R k).o ≤ 1
  | 0 => ⟨fun e he => (by cases he), fun t => (by show cntE _ [] ≤ 1; simp [cntE])⟩
  | k + 1 => by
    obtain ⟨h1, h2⟩ := busy_one R k
    obtain ⟨l, g1, g2, _⟩ := tick_busy R k (plM R k)
    rw [plM, g1]
    rcases g2 with g2 | ⟨l1, x, l2, rfl, hx, a1, a2⟩
    · refine ⟨fun e he hb => ?_, fun t => ?_⟩
      · rcases List.mem_append.1 he with he | he
        · have := h1 e he hb; omega
        · rw [g2 e he] at hb; cases hb
      · rw [cntE_app, cntE_none _ l (fun e he => busyAt_no (g2 e he))]
        have := h2 t; omega
    · refine ⟨fun e he hb => ?_, fun t => ?_⟩
      · rcases List.mem_append.1 he with he | he
        · have := h1 e he hb; omega
        · rcases List.mem_append.1 he with he | he
          · rw [a1 e he] at hb; cases hb
          · rcases List.mem_cons.1 he with rfl | he
            · omega
            · rw [a2 e he] at hb; cases hb
      · rw [cntE_app, cntE_app, cntE, cntE_none _ l1 (fun e he => busyAt_no (a1 e he)), cntE_none _ l2 (fun e he => busyAt_no (a2 e he))]
        by_cases q : t = k
        · subst q
          rw [cntE_none _ (plM R k).o (fun e he => by
            cases hb : isBusy e
            · exact busyAt_no hb
            · unfold busyAt
              have := h1 e he hb
              rw [decide_eq_false (by omega)]; rfl)]
          split <;> omega
        · have := h2 t
          rw [if_neg]
          · omega
          · unfold busyAt
            rw [decide_eq_false (by omega)]; simp
/-- the collector's ticks of a window -/
theorem gc_in {R : Rn} (hf : 1 ≤ R.fr) (hs : 0 ≤ R.sl ∧ R.sl < R.fr) (a b : Nat) (hab : a ≤ b) : ∀ k : Nat, cntE (gcIn a b) (plM R k).o = (((min k b : Nat) : Int) - aheadS R.fr R.sl (min k b : Nat)) - (((min k a : Nat) : Int) - aheadS R.fr R.sl (min k a : Nat))
  | 0 => by
    show cntE _ [] = _
    simp [cntE, aheadS_zero hs.1]
  | k + 1 => by
    obtain ⟨l, g1, _, g3⟩ := tick_busy R k (plM R k)
    rw [plM, g1, cntE_app, gc_in hf hs a b hab k, g3 a b]
    have hst := aheadS_step hs.1 hs.2 k
    by_cases hb : k < b
    · rw [show min (k + 1) b = k + 1 by omega, show min k b = k by omega, show (((k + 1 : Nat)) : Int) = (k : Int) + 1 by omega, hst]
      by_cases ha : k < a
      · rw [show min (k + 1) a = k + 1 by omega, show min k a = k by omega, show (((k + 1 : Nat)) : Int) = (k : Int) + 1 by omega, hst, if_neg (by omega)]
        omega
      · rw [show min (k + 1) a = a by omega, show min k a = a by omega]
        by_cases q : (k : Int) % R.fr < R.sl
        · rw [if_pos ⟨q, by omega, by omega⟩, if_neg (by omega)]; omega
        · rw [if_neg (fun h => q h.1), if_pos (by omega)]; omega
    · rw [show min (k + 1) b = b by omega, show min k b = b by omega, show min (k + 1) a = a by omega, show min k a = a by omega, if_neg (by omega)]; omega
theorem gc_win {R : Rn} (hf : 1 ≤ R.fr) (hs : 0 ≤ R.sl ∧ R.sl < R.fr) (a w k : Nat) (hk : a + w ≤ k) : cntE (gcIn a ((a : Int) + w)) (plM R k).o = (w : Int) - diffS R.fr R.sl w a := by
  have := gc_in (R := R) hf hs a (a + w) (by omega) k
  rw [show min k (a + w) = a + w by omega, show min k a = a by omega] at this
  unfold diffS
  have e : (((a + w : Nat)) : Int) = (a : Int) + w := by omega
  rw [e] at this
  rw [this]; omega
/-- a window is as one that begins in the first frame -/
theorem diffS_mod2 {F S : Int} (hF : 0 < F) (w : Int) (a : Nat) : ∃ j : Nat, (j : Int) < F ∧ diffS F S w a = diffS F S w j := by
  have h0 := Int.emod_nonneg (a : Int) (show F ≠ 0 by omega)
  have h1 := Int.emod_lt_of_pos (a : Int) hF
  have e := Int.emod_add_mul_ediv (a : Int) F
  obtain ⟨j, hj⟩ := Int.eq_ofNat_of_zero_le h0
  refine ⟨j, by omega, ?_⟩
  have ha : (a : Int) = (j : Int) + (a : Int) / F * F := by rw [← hj, Int.mul_comm ((a : Int) / F) F]; omega
  have e1 : (a : Int) + w = ((j : Int) + w) + (a : Int) / F * F := by omega
  unfold diffS
  rw [e1, aheadS_period hF]
  have e2 : aheadS F S (a : Int) = aheadS F S j + (a : Int) / F * (F - S) := by
    conv => lhs; rw [ha]
    exact aheadS_period hF _ _
  rw [e2]; omega
theorem least_any {F S : Int} (h0 : 0 ≤ S) (h1 : S < F) (w a : Nat) : leastN F S w ≤ diffS F S w a := by
  obtain ⟨j, hj, e⟩ := diffS_mod2 (S := S) (show 0 < F by omega) w a
  rw [e]; exact (isLeast h0 h1 w).le j hj
/-- the least that the collector has in a window -/
def colFrom (F S w : Int) : Nat → Nat → Int → Int
  | 0, _, m => m
  | f + 1, k, m => colFrom F S w f (k + 1) (min m (w - diffS F S w k))
def colN (F S w : Int) : Int := colFrom F S w (F.toNat - 1) 1 (w - diffS F S w (0 : Nat))
theorem colFrom_le {F S w : Int} : ∀ (f k : Nat) (m : Int), colFrom F S w f k m ≤ m ∧ ∀ j, k ≤ j → j < k + f → colFrom F S w f k m ≤ w - diffS F S w j
  | 0, k, m => ⟨by simp [colFrom], fun j h1 h2 => by omega⟩
  | f + 1, k, m => by
    obtain ⟨h1, h2⟩ := colFrom_le (F := F) (S := S) (w := w) f (k + 1) (min m (w - diffS F S w k))
    rw [colFrom]
    refine ⟨by omega, fun j hj hjf => ?_⟩
    by_cases e : j = k
    · subst e; omega
    · exact h2 j (by omega) (by omega)
theorem col_any {F S : Int} (h0 : 0 ≤ S) (h1 : S < F) (w a : Nat) : colN F S w ≤ w - diffS F S w a := by
  obtain ⟨j, hj, e⟩ := diffS_mod2 (S := S) (show 0 < F by omega) w a
  rw [e]
  obtain ⟨g1, g2⟩ := colFrom_le (F := F) (S := S) (w := w) (F.toNat - 1) 1 (w - diffS F S w (0 : Nat))
  unfold colN
  rcases Nat.eq_zero_or_pos j with rfl | hp
  · exact g1
  · exact g2 j hp (by omega)
/-- the collector's ticks ahead of a moment -/
theorem aheadC_eq {F S t : Int} (hF : 0 < F) (hs : 0 ≤ S ∧ S ≤ F - 1) : t / F * S + min (max (t % F - 0) 0) S = t - aheadS F S t := by
  unfold aheadS
  have e := Int.emod_add_mul_ediv t F
  have c := Int.emod_nonneg t (show F ≠ 0 by omega)
  have : t / F * (F - S) = t / F * F - t / F * S := Int.mul_sub _ _ _
  rw [this, Int.mul_comm (t / F) F]
  omega
end Go.Proofs.Ytmahagcghpoekaa
namespace Go.Proofs.Ytmahagcghpoekaa
open Go.RowKit
set_option linter.unusedSimpArgs false
set_option linter.unusedVariables false
theorem cahead_any (F S t : Int) (w : World) (h1 : 1 ≤ F ∧ F ≤ 60) (h2 : 0 ≤ S ∧ S ≤ F - 1) (h3 : 0 ≤ t ∧ t ≤ 2000000) :
    Calls Try.prog 66 #[.agg #[.int .i64 F, .int .i64 0, .int .i64 S], .int .i64 t] w fun e w' => e = .returned (.int .i64 (t - aheadS F S t)) ∧ Below w.heap.size w w' := by
  have hq := aheadS_parts (F := F) (S := F - S - 1) h1.1 (by omega) h3.1
  rw [show F - (F - S - 1) = S + 1 by omega] at hq
  obtain ⟨q1, q2, q3, q4, q5, q6⟩ := hq
  have hF0 : (F == 0) = false := by simp; omega
  have hE := aheadC_eq (F := F) (S := S) (t := t) (by omega) h2
  have q7 : 0 ≤ t / F * S ∧ t / F * S ≤ t := by
    have a := Int.mul_nonneg q1 h2.1
    have b : t / F * S ≤ t / F * (S + 1) := Int.mul_le_mul_of_nonneg_left (by omega) q1
    omega
  obtain ⟨q8, q9⟩ := q7
  have HE := Lib.hid hE
  clear q3 q4 hE
  go_enter Try.func66, Try.ntmps66
  go_wp2_with (refine wp_region_later_lit (by kernel_rfl) (by kernel_rfl) ?_; (repeat (go_big_quiet_step (fail))); refine wpQuiet_nil ?_; intro w3 hb3)
  go_ret
  exact ⟨ret_int (by have := HE.out; omega), Below.then (Below.alloc (Below.refl _ _) (Nat.le_refl _) _) hb3⟩
theorem collector_any (F S : Int) (w : World) :
    Calls Try.prog 40 #[.agg #[.int .i64 F, .int .i64 S]] w fun e w' => e = .returned (.agg #[.int .i64 F, .int .i64 0, .int .i64 S]) ∧ Below w.heap.size w w' := by
  go_enter Try.func40, Try.ntmps40
  go_wp2
  refine bodyPost_ret (v := .agg #[.int .i64 F, .int .i64 0, .int .i64 S]) (by simp [results, Try.results40, go_sem]) rfl ⟨rfl, by (repeat' (first | (with_reducible exact Below.refl _ _) | (with_reducible assumption) | (with_reducible refine Below.alloc ?_ ?_ _) | (with_reducible refine Below.drew ?_) | (with_reducible refine Below.draws ?_ _) | (with_reducible refine Below.setCell ?_ ?_ _) | (refine Below.then ?_ (by with_reducible assumption)) | go_size))⟩
theorem cwinf_any (F S v : Int) (k : Nat) (p q : Nat) (w : World) (h1 : 1 ≤ F ∧ F ≤ 60) (h2 : 0 ≤ S ∧ S ≤ F - 1) (h3 : 0 ≤ v ∧ v ≤ 1000000) (hk : k ≤ 60)
    (hp : w.cell? ⟨p, 0, none⟩ = some (.int .i64 F) ∧ w.cell? ⟨p, 1, none⟩ = some (.int .i64 0) ∧ w.cell? ⟨p, 2, none⟩ = some (.int .i64 S)) (hq : w.cell? ⟨q, 0, none⟩ = some (.int .i64 v)) (hpw : p < w.heap.size) (hqw : q < w.heap.size) :
    Calls Try.prog 65 #[.int .i64 (k : Int), .pointer (some ⟨p, 0, none⟩), .pointer (some ⟨q, 0, none⟩)] w fun e w' => e = .returned (.int .i64 (v - diffS F S v k)) ∧ Below w.heap.size w w' := by
  obtain ⟨p0, p1, p2⟩ := hp
  have a1 := diff_parts h1 h2 (t := (k : Int)) (by omega)
  have a2 := diff_parts h1 h2 (t := (k : Int) + v) (by omega)
  unfold diffS
  obtain ⟨A1, hA1⟩ : ∃ x, (k : Int) - aheadS F S (k : Int) = x := ⟨_, rfl⟩
  obtain ⟨A2, hA2⟩ : ∃ x, (k : Int) + v - aheadS F S ((k : Int) + v) = x := ⟨_, rfl⟩
  have e : v - (aheadS F S ((k : Int) + v) - aheadS F S (k : Int)) = A2 - A1 := by omega
  rw [e]
  have HC1 := Lib.hid (fun w1 => (show Calls Try.prog 66 #[.agg #[.int .i64 F, .int .i64 0, .int .i64 S], .int .i64 (k : Int)] w1 fun e w' => e = .returned (.int .i64 A1) ∧ Below w1.heap.size w1 w' from hA1 ▸ cahead_any F S (k : Int) w1 h1 h2 (by omega)))
  have HC2 := Lib.hid (fun w1 => (show Calls Try.prog 66 #[.agg #[.int .i64 F, .int .i64 0, .int .i64 S], .int .i64 ((k : Int) + v)] w1 fun e w' => e = .returned (.int .i64 A2) ∧ Below w1.heap.size w1 w' from hA2 ▸ cahead_any F S ((k : Int) + v) w1 h1 h2 (by omega)))
  have b1 : 0 ≤ A1 ∧ A1 ≤ 60 := by omega
  have b2 : 0 ≤ A2 ∧ A2 ≤ 1000060 := by omega
  clear a1 a2 hA1 hA2 e
  go_enter Try.func65, Try.ntmps65
  go_wp2_with (refine wp_region_later_lit (by kernel_rfl) (by kernel_rfl) ?_; (repeat (go_big_quiet_step ((go_at_call 66; first | (with_reducible exact later_of (HC2.out _)) | (with_reducible exact later_of (HC1.out _)))))); refine wpQuiet_nil ?_; intro w3 hb3)
  go_ret
  exact ⟨rfl, hb3⟩
/-- what the closure has captured -/
structure WinD (F S v : Int) (p q : Nat) (w : World) : Prop where
  c0 : w.cell? ⟨p, 0, none⟩ = some (.int .i64 F)
  c1 : w.cell? ⟨p, 1, none⟩ = some (.int .i64 0)
  c2 : w.cell? ⟨p, 2, none⟩ = some (.int .i64 S)
  cq : w.cell? ⟨q, 0, none⟩ = some (.int .i64 v)
  hp : p < w.heap.size
  hq : q < w.heap.size
theorem WinD.ext {F S v : Int} {p q : Nat} {w w' : World} (h : WinD F S v p q w) (hb : Below w.heap.size w w') : WinD F S v p q w' :=
  ⟨(hb.cell (p := ⟨p, 0, none⟩) h.hp).trans h.c0, (hb.cell (p := ⟨p, 1, none⟩) h.hp).trans h.c1, (hb.cell (p := ⟨p, 2, none⟩) h.hp).trans h.c2, (hb.cell (p := ⟨q, 0, none⟩) h.hq).trans h.cq, Nat.lt_of_lt_of_le h.hp hb.size, Nat.lt_of_lt_of_le h.hq hb.size⟩
theorem cwinf_is {F S v x kv : Int} {k p q : Nat} {w : World} (hkv : kv = (k : Int)) (h1 : 1 ≤ F ∧ F ≤ 60) (h2 : 0 ≤ S ∧ S ≤ F - 1) (h3 : 0 ≤ v ∧ v ≤ 1000000) (hk : k ≤ 60) (hc : WinD F S v p q w) (hx : v - diffS F S v k = x) :
    Calls Try.prog 65 #[.int .i64 kv, .pointer (some ⟨p, 0, none⟩), .pointer (some ⟨q, 0, none⟩)] w fun e w' => e = .returned (.int .i64 x) ∧ Below w.heap.size w w' := by
  subst hkv; subst hx; exact cwinf_any F S v k p q w h1 h2 h3 hk ⟨hc.c0, hc.c1, hc.c2⟩ hc.cq hc.hp hc.hq
theorem cwindow_any (F S v : Int) (w : World) :
    Calls Try.prog 38 #[.agg #[.int .i64 F, .int .i64 0, .int .i64 S], .int .i64 v] w fun e w' => ∃ p q, e = .returned (.func (.func 65) #[] #[.pointer (some ⟨p, 0, none⟩), .pointer (some ⟨q, 0, none⟩)]) ∧ WinD F S v p q w' ∧ Below w.heap.size w w' := by
  go_enter Try.func38, Try.ntmps38
  go_wp2
  go_ret
  exact ⟨_, _, rfl, ⟨by simp [go_sem], by simp [go_sem], by simp [go_sem], by simp [go_sem], by simp; omega, by simp⟩, by (repeat' (first | (with_reducible exact Below.refl _ _) | (with_reducible assumption) | (with_reducible refine Below.alloc ?_ ?_ _) | (with_reducible refine Below.drew ?_) | (with_reducible refine Below.draws ?_ _) | (with_reducible refine Below.setCell ?_ ?_ _) | (refine Below.then ?_ (by with_reducible assumption)) | go_size))⟩
set_option maxHeartbeats 1000000 in
theorem cextreme_any (F S v : Int) (p q : Nat) (w : World) (h1 : 1 ≤ F ∧ F ≤ 60) (h2 : 0 ≤ S ∧ S ≤ F - 1) (h3 : 0 ≤ v ∧ v ≤ 1000000) (hc : WinD F S v p q w) :
    Calls Try.prog 37 #[.agg #[.int .i64 F, .int .i64 0, .int .i64 S], .func (.func 65) #[] #[.pointer (some ⟨p, 0, none⟩), .pointer (some ⟨q, 0, none⟩)], .func (.func 39) #[] #[]] w fun e w' => e = .returned (.int .i64 (colN F S v)) ∧ Below w.heap.size w w' := by
  obtain ⟨f, rfl⟩ := Int.eq_ofNat_of_zero_le (show 0 ≤ F by omega)
  obtain ⟨x0, hx0⟩ : ∃ x, v - diffS f S v (0 : Nat) = x := ⟨_, rfl⟩
  obtain ⟨R, hR⟩ : ∃ R, colN f S v = R := ⟨_, rfl⟩
  obtain ⟨u, rfl⟩ := Int.eq_ofNat_of_zero_le h3.1
  have HST : Hid (colFrom f S u (f - 1) 1 x0 = R) := Lib.hid (by rw [← hR, ← hx0]; rfl)
  rw [hR]
  have HX0 := Lib.hid hx0
  have HC := Lib.hid (hc.ext (Below.alloc (Below.refl _ _) (Nat.le_refl _) (.cells #[.int .i64 f, .int .i64 0, .int .i64 S] 85)))
  have hf60 : f ≤ 60 := by omega
  have hf1 : 1 ≤ f := by omega
  clear hc hx0 hR
  go_enter Try.func37, Try.ntmps37
  go_wp2_with (go_at_call 65; (with_reducible refine (cwinf_is (k := 0) z0 h1 h2 h3 (by omega) HC.out HX0.out).mono ?_); rintro e w1 ⟨rfl, hb1⟩; have B1 := Lib.hid hb1; have c0 := (hb1.cell (p := ⟨w.heap.size, 0, none⟩) (by simp)).trans (show _ = some (.int .i64 (f : Int)) by simp [go_sem]); have hz := hb1.size; clear hb1)
  go_loopw [7, 8] (fun v i wr => ∃ (k : Nat) (m : Int), 1 ≤ k ∧ k ≤ f ∧ v = .int .i64 m ∧ i = .int .i64 k ∧ colFrom f S u (f - k) k m = R ∧ Below w1.heap.size w1 wr) (fun _ i _ => f - (intOf i).toNat)
  case atStart => exact ⟨1, x0, Nat.le_refl _, hf1, rfl, rfl, HST.out, Below.refl _ _⟩
  case round =>
    clear HST
    obtain ⟨k, m, hk1, hk, rfl, rfl, he, hB⟩ := hrel
    have HE := Lib.hid he; have HB := Lib.hid hB
    have d0 := (hB.cell (p := ⟨w.heap.size, 0, none⟩) (by simp at hz; simp only []; omega)).trans c0
    clear he hB
    by_cases hlt : k < f
    · obtain ⟨x, hx⟩ : ∃ x, (u : Int) - diffS f S u k = x := ⟨_, rfl⟩
      have HX := Lib.hid hx
      have hE := HE.out
      rw [show f - k = (f - (k + 1)) + 1 by omega, colFrom, hx] at hE
      clear hx
      by_cases hxm : x < m
      · have hd : decide (x < m) = true := decide_eq_true hxm
        have HE2 : Hid (colFrom f S u (f - (k + 1)) (k + 1) x = R) := Lib.hid (by rw [← hE]; congr 1; omega)
        have HD := Lib.hid hd
        clear hd hE
        go_wp2_with (first
          | (go_at_call 65; (with_reducible refine (cwinf_is (k := k) rfl h1 h2 h3 (by omega) ((HC.out.ext B1.out).ext HB.out) HX.out).mono ?_); rintro e w3 ⟨rfl, hb3⟩; have B3 := Lib.hid hb3; clear hb3)
          | (go_at_call 39; (with_reducible refine (less_is HD.out).mono ?_); rintro e w4 ⟨rfl, rfl⟩))
        go_roundw
        case rel => exact ⟨k + 1, x, by omega, by omega, rfl, by go_num, HE2.out, Below.then HB.out B3.out⟩
        case measure => simp [intOf]; omega
      · have hd : decide (x < m) = false := decide_eq_false hxm
        have HE2 : Hid (colFrom f S u (f - (k + 1)) (k + 1) m = R) := Lib.hid (by rw [← hE]; congr 1; omega)
        have HD := Lib.hid hd
        clear hd hE
        go_wp2_with (first
          | (go_at_call 65; (with_reducible refine (cwinf_is (k := k) rfl h1 h2 h3 (by omega) ((HC.out.ext B1.out).ext HB.out) HX.out).mono ?_); rintro e w3 ⟨rfl, hb3⟩; have B3 := Lib.hid hb3; clear hb3)
          | (go_at_call 39; (with_reducible refine (less_is HD.out).mono ?_); rintro e w4 ⟨rfl, rfl⟩))
        go_roundw
        case rel => exact ⟨k + 1, m, by omega, by omega, rfl, by go_num, HE2.out, Below.then HB.out B3.out⟩
        case measure => simp [intOf]; omega
    · have hE := HE.out
      rw [show f - k = 0 by omega, colFrom] at hE
      subst hE
      go_wp2
      go_ret
      exact ⟨rfl, Below.then (Below.then (Below.alloc (Below.refl _ _) (Nat.le_refl _) _) B1.out) HB.out⟩
set_option maxRecDepth 10000 in
set_option maxHeartbeats 1000000 in
theorem Collector_any (F S v : Int) (w : World) (hs : supB F S = true) (hv : inB v 0 1000000 = true) : Calls Try.prog 13 #[.agg #[.int .i64 F, .int .i64 S], .int .i64 v] w fun e w' => e = rII (colN F S v) 0 ∧ Below w.heap.size w w' := by
  have HS := Lib.hid hs
  obtain ⟨h1, h2⟩ := supB_iff.1 hs
  have HV := Lib.hid hv
  have h3 := inB_iff.1 hv
  clear hs hv
  go_enter Try.func13, Try.ntmps13
  go_wp2_with (first
    | (go_at_call 34; (with_reducible refine (supV_is HS.out).mono ?_); rintro e w1 ⟨rfl, hb1⟩; have B1 := Lib.hid hb1; have c0 := (hb1.cell (p := ⟨w.heap.size, 0, none⟩) (by simp)).trans (show _ = some (.int .i64 F) by simp [go_sem]); have c1 := (hb1.cell (p := ⟨w.heap.size, 1, none⟩) (by simp)).trans (show _ = some (.int .i64 S) by simp [go_sem]); have hz1 := hb1.size; clear hb1)
    | (go_at_call 35; (with_reducible refine (swithin_is HV.out).mono ?_); rintro e w2 ⟨rfl, rfl⟩))
  have HW1 : Hid (Below w.heap.size w w1.drew) := Lib.hid (Below.then (Below.alloc (Below.refl _ _) (Nat.le_refl _) _) B1.out).drew
  go_region_held3 (fun w' => w'.cell? ⟨w.heap.size, 0, none⟩ = some (.int .i64 F) ∧ w'.cell? ⟨w.heap.size, 1, none⟩ = some (.int .i64 S))
    (first | go_keep)
    (first
      | (go_at_call 40; (with_reducible refine (collector_any F S _).mono ?_); rintro e w3 ⟨rfl, hb3⟩; have B3 := Lib.hid hb3; have k0 := (hb3.cell (p := ⟨w.heap.size, 0, none⟩) (by simp at *; omega)).trans (show _ = some (.int .i64 F) by simp [*]); have k1 := (hb3.cell (p := ⟨w.heap.size, 1, none⟩) (by simp at *; omega)).trans (show _ = some (.int .i64 S) by simp [*]); have hz := hb3.size; clear hb3)
      | (go_at_call 38; (with_reducible refine (cwindow_any F S v _).mono ?_); rintro e w4 ⟨p, q, rfl, hwc, hb4⟩; have HWC := Lib.hid hwc; have B4 := Lib.hid hb4; have k0 := (hb4.cell (p := ⟨w.heap.size, 0, none⟩) (by simp at *; omega)).trans (show _ = some (.int .i64 F) by simp [*]); have k1 := (hb4.cell (p := ⟨w.heap.size, 1, none⟩) (by simp at *; omega)).trans (show _ = some (.int .i64 S) by simp [*]); have hz := hb4.size; clear hb4 hwc)
      | (go_at_call 37; (with_reducible refine (cextreme_any F S v p q _ h1 h2 h3 (HWC.out.ext (by repeat (first | (with_reducible exact Below.refl _ _) | (refine Below.then ?_ (Hid.out (by with_reducible assumption))))))).mono ?_); rintro e w5 ⟨rfl, hb5⟩; have B5 := Lib.hid hb5; have k0 := (hb5.cell (p := ⟨w.heap.size, 0, none⟩) (by simp at *; omega)).trans (show _ = some (.int .i64 F) by simp [*]); have k1 := (hb5.cell (p := ⟨w.heap.size, 1, none⟩) (by simp at *; omega)).trans (show _ = some (.int .i64 S) by simp [*]); have hz := hb5.size; clear hb5))
  all_goals
    go_wp2_with fail
    go_ret2
    exact ⟨rfl, (by repeat (first | (with_reducible exact Below.refl _ _) | (refine Below.then ?_ (Hid.out (by with_reducible assumption)))))⟩
end Go.Proofs.Ytmahagcghpoekaa
namespace Go.Proofs.Ytmahagcghpoekaa
open Go.RowKit
set_option linter.unusedSimpArgs false
set_option linter.unusedVariables false
def saneL : List Ta := [⟨0, 20, 0, 20, 0, [(4, -1)]⟩]
theorem sane_win : winR saneL 10 3 0 = (7, 0) := by decide +kernel
theorem sane_accR : accE saneL 10 3 = 0 := by decide +kernel
def saneWR (w : World) : World := (w.alloc (.cells #[.int .i64 4, .int .i64 (-1)] 79)).alloc (.cells #[.int .i64 0, .int .i64 20, .int .i64 0, .int .i64 20, .int .i64 0, .slice (some ⟨w.heap.size, 0, none⟩) 1 1] 72)
theorem saneWR_rd (w : World) : RdL (saneWR w) (some ⟨w.heap.size + 1, 0, none⟩) 1 saneL := by
  refine ⟨[⟨0, 20, 0, 20, 0, some ⟨w.heap.size, 0, none⟩, 1, 1, [(4, -1)]⟩], ⟨⟨rfl, by omega, fun _ => ⟨_, 0, rfl, by simp [saneWR], fun i hi j hj => ?_⟩⟩, fun t ht => ?_⟩, rfl⟩
  · have hi' : i < 1 := hi
    obtain rfl : i = 0 := by omega
    have hj' : j < 6 := hj
    rcases j with _ | _ | _ | _ | _ | _ | j <;> first | omega | (simp [saneWR, encTa, go_sem])
  · simp at ht
    subst ht
    refine ⟨⟨rfl, by simp, fun _ => ⟨_, 0, rfl, by simp [saneWR]; omega, fun i hi j hj => ?_⟩⟩, fun h => by simp at h⟩
    have hi' : i < 1 := hi
    obtain rfl : i = 0 := by omega
    have hj' : j < 2 := hj
    rcases j with _ | _ | j <;> first | omega | (simp [saneWR, enc2, go_sem])
theorem Many_no {n : Nat} {L : List Ta} (h : manyL n L = false) : n < 400 ∧ ∀ t ∈ L, t.pcs.length ≤ 1000 := by
  obtain ⟨h1, h2⟩ := manyL_no h
  exact ⟨h1, fun t ht => by have := h2 t ht; omega⟩
end Go.Proofs.Ytmahagcghpoekaa
namespace Go.Proofs.Ytmahagcghpoekaa
open Go.RowKit
set_option linter.unusedSimpArgs false
set_option linter.unusedVariables false
theorem EPc : Elt Try.prog 70 79 2 16 := Elt.mk' (z := .agg #[.int .i64 0, .int .i64 0]) Try.underlying70 (by kernel_rfl) rfl (by decide)
theorem ETk : Elt Try.prog 22 72 6 64 := Elt.mk' (z := .agg #[.int .i64 0, .int .i64 0, .int .i64 0, .int .i64 0, .int .i64 0, .slice none 0 0]) Try.underlying22 (by kernel_rfl) rfl (by decide)
def PcO (B : Nat) (w : World) (t : TaV) : Prop := w.ownsRow B 79 2 (.slice t.a t.n t.c) t.n (t.pcs.flatMap enc2)
/-- tasks that the call made -/
structure OwnT (B : Nat) (w : World) (a : Option Addr) (n c : Nat) (g : List TaV) : Prop where
  own : w.ownsRow B 72 6 (.slice a n c) n (g.flatMap encTa)
  ok : ∀ t ∈ g, PcO B w t
theorem owns_nilT {w : World} {B e k n c : Nat} {a : Option Addr} {xs : List Value} (h : w.ownsRow B e k (.slice a n c) n xs) : NilOk a n c := by
  intro _
  rcases h.2 with ⟨hv, _⟩ | ⟨g, cap, cur, hv, _⟩
  · simp at hv; exact .inl ⟨hv.1, hv.2.2⟩
  · simp at hv; exact .inr ⟨_, hv.1⟩
theorem OwnT.rd {B : Nat} {w : World} {a n c g} (h : OwnT B w a n c g) : RdT w a n g :=
  ⟨Rd.of_owns encTa_len (by decide) h.own, fun t ht => ⟨ownsP_rd (h.ok t ht), owns_nilT (h.ok t ht)⟩⟩
def OutT (w : World) (n : Nat) (L : List Ta) (e : Ending) (w' : World) : Prop :=
  ∃ a c, e = .returned (.slice a n c) ∧ RdL w' a n L ∧ Below w.heap.size w w'
set_option maxRecDepth 10000 in
set_option maxHeartbeats 4000000 in
theorem copied_T (a : Option Addr) (n c : Nat) (L : List Ta) (hn : n ≤ 1000) (hP : ∀ t ∈ L, t.pcs.length ≤ 1000) (w : World) (hL : RdL w a n L) (hN : NilOk a n c) :
    Calls Try.prog 50 #[.slice a n c] w (OutT w n L) := by
  obtain ⟨g, hG, rfl⟩ := hL
  have HR := Lib.hid hG
  have HL := Lib.hid hG.length
  have HH : Hid (∀ t ∈ g, t.n ≤ 1000) := Lib.hid (fun t ht => by
    have h1 := hP t.ta (List.mem_map_of_mem ht)
    have h2 := (hG.ok t ht).1.length
    have h3 : t.ta.pcs.length = t.pcs.length := rfl
    omega)
  clear hG hP
  have e1 := EPc
  have e2 := ETk
  go_enter Try.func50, Try.ntmps50
  go_wp2
  go_loopw [3, 4] (fun v i wr => ∃ (k : Nat) (g' : List TaV) (a' : Option Addr) (c' : Nat), k ≤ n ∧ v = .slice a' k c' ∧ i = .int .i64 k ∧ OwnT w.heap.size wr a' k c' g' ∧ g'.map TaV.ta = (g.take k).map TaV.ta ∧ Below w.heap.size w wr) (fun _ i _ => n - (intOf i).toNat)
  case atStart => exact ⟨0, [], none, 0, Nat.zero_le _, rfl, rfl, ⟨World.ownsRow_nil _ _ _ _, by simp⟩, rfl, by (repeat' (first | (with_reducible exact Below.refl _ _) | (with_reducible assumption) | (with_reducible refine Below.alloc ?_ ?_ _) | (with_reducible refine Below.drew ?_) | (with_reducible refine Below.draws ?_ _) | (with_reducible refine Below.setCell ?_ ?_ _) | (refine Below.then ?_ (by with_reducible assumption)) | go_size))⟩
  case round =>
    obtain ⟨k, g', a', c', hk, rfl, rfl, hO, hg', hB⟩ := hrel
    have HO := Lib.hid hO; have HB := Lib.hid hB; have HG' := Lib.hid hg'
    have hz := hB.size
    clear hO hB hg'
    by_cases hlt : k < n
    · have hkl : k < g.length := by rw [HL.out]; exact hlt
      have hgd : g.drop k = g[k] :: g.drop (k + 1) := List.drop_eq_getElem_cons hkl
      have hgm : g[k] ∈ g := List.getElem_mem hkl
      obtain ⟨t, ht⟩ : ∃ t, g[k] = t := ⟨_, rfl⟩
      rw [ht] at hgd hgm
      obtain ⟨b, off, rfl, hb0, hc⟩ := HR.out.rd.at_ (by omega)
      have hgk : (g.map encTa)[k]'(by simpa using hkl) = encTa t := by rw [List.getElem_map, ht]
      have x0 := hc k (by simpa using hkl) 0 (by omega)
      have x1 := hc k (by simpa using hkl) 1 (by omega)
      have x2 := hc k (by simpa using hkl) 2 (by omega)
      have x3 := hc k (by simpa using hkl) 3 (by omega)
      have x4 := hc k (by simpa using hkl) 4 (by omega)
      have x5 := hc k (by simpa using hkl) 5 (by omega)
      rw [hgk] at x0 x1 x2 x3 x4 x5
      clear hgk hc
      have hok := (HR.out.ok t hgm).ext HB.out
      have htn : t.n ≤ 1000 := HH.out _ hgm
      obtain ⟨pri, dl, fi, gap, jit, ta, tn, tc, pcs⟩ := t
      simp [encTa] at x0 x1 x2 x3 x4 x5
      simp only [] at htn
      have h0 := (HB.out.cell (p := ⟨b, off + k * 6, none⟩) hb0).trans x0
      have h1 := (HB.out.cell (p := ⟨b, off + k * 6 + 1, none⟩) hb0).trans x1
      have h2 := (HB.out.cell (p := ⟨b, off + k * 6 + 2, none⟩) hb0).trans x2
      have h3 := (HB.out.cell (p := ⟨b, off + k * 6 + 3, none⟩) hb0).trans x3
      have h4 := (HB.out.cell (p := ⟨b, off + k * 6 + 4, none⟩) hb0).trans x4
      have h5 := (HB.out.cell (p := ⟨b, off + k * 6 + 5, none⟩) hb0).trans x5
      have hb : b < wr.heap.size := by omega
      have HT1 : Hid (Rd wr ta tn 2 (pcs.map enc2)) := Lib.hid hok.1
      have HT2 : Hid (NilOk ta tn tc) := Lib.hid hok.2
      have HTK := Lib.hid (take_of_drop hgd)
      clear ht hok hgd hgm x0 x1 x2 x3 x4 x5
      have HOW : Hid (((wr.alloc (.cells #[.int .i64 pri, .int .i64 dl, .int .i64 fi, .int .i64 gap, .int .i64 jit, .slice ta tn tc] 72)).alloc (.cells #[] 79)).ownsRow (wr.heap.size + 1) 79 2 (.slice (some ⟨wr.heap.size + 1, 0, none⟩) 0 0) 0 []) := Lib.hid (by
        have := World.ownsRow_lit (e := 79) (size := 2) (base := wr.heap.size + 1) (wr.alloc (.cells #[.int .i64 pri, .int .i64 dl, .int .i64 fi, .int .i64 gap, .int .i64 jit, .slice ta tn tc] 72)) #[] 0 (by simp) (by decide) rfl
        rw [World.size_alloc] at this; exact this)
      go_wp2_with (first
        | (at_builtin; refine wpList_pushAll (B := wr.heap.size + 1) (n := 0) (xs := []) rfl _ _ _ rfl e1 enc2_len enc2_one rfl HOW.out rfl (HT1.out.ext (by (repeat' (first | (with_reducible exact Below.refl _ _) | (with_reducible assumption) | (with_reducible refine Below.alloc ?_ ?_ _) | (with_reducible refine Below.drew ?_) | (with_reducible refine Below.draws ?_ _) | (with_reducible refine Below.setCell ?_ ?_ _) | (refine Below.then ?_ (by with_reducible assumption)) | go_size)))) HT2.out (by omega) (by decide) (by simp) ?_
           intro v2 w2 hown2 hv2 hb2
           rw [Nat.zero_add, List.nil_append] at hown2
           obtain ⟨a2, c2, rfl⟩ := hv2
           rw [Nat.zero_add] at hown2 ⊢
           have HB2 := Lib.hid hb2
           have HO2 := Lib.hid hown2
           have hz2 := hb2.size
           simp only [World.size_alloc] at hz2
           have hc0 := (hb2.cell (p := ⟨wr.heap.size, 0, none⟩) (by simp)).trans (show _ = some (.int .i64 pri) by simp [go_sem])
           have hc1 := (hb2.cell (p := ⟨wr.heap.size, 1, none⟩) (by simp)).trans (show _ = some (.int .i64 dl) by simp [go_sem])
           have hc2 := (hb2.cell (p := ⟨wr.heap.size, 2, none⟩) (by simp)).trans (show _ = some (.int .i64 fi) by simp [go_sem])
           have hc3 := (hb2.cell (p := ⟨wr.heap.size, 3, none⟩) (by simp)).trans (show _ = some (.int .i64 gap) by simp [go_sem])
           have hc4 := (hb2.cell (p := ⟨wr.heap.size, 4, none⟩) (by simp)).trans (show _ = some (.int .i64 jit) by simp [go_sem])
           have hc5 := (hb2.cell (p := ⟨wr.heap.size, 5, none⟩) (by simp)).trans (show _ = some (.slice ta tn tc) by simp [go_sem])
           have hf5 := (hb2.frozen (p := ⟨wr.heap.size, 5, none⟩) (by simp)).trans (show _ = false by simp [go_sem])
           have HBW : Hid (Below wr.heap.size wr w2) := Lib.hid ((((Below.refl wr.heap.size wr).alloc (Nat.le_refl _) _).alloc (by simp) _).trans (hb2.mono (by omega)))
           clear hown2 hb2)
        | (at_builtin; refine wpList_pushM (N := w2.heap.size) (v := .slice a' k c') (by simp) rfl _ _ _ rfl e2 rfl (owns_ext HO.out.own (HBW.out.setCell (p := ⟨wr.heap.size, 5, none⟩) (Nat.le_refl _) _)) rfl rfl (by intro u hu; simp at hu; rcases hu with rfl | rfl | rfl | rfl | rfl | rfl <;> rfl) (by omega) (by decide) (by simp; omega) ?_; intro a3 c3 w3 hown3 hb3; have HO3 := Lib.hid hown3; have HB3 := Lib.hid hb3; clear hown3 hb3))
      go_roundw
      case rel =>
        have hS : Below wr.heap.size wr (w2.setCell ⟨wr.heap.size, 5, none⟩ (.slice a2 tn c2)) := HBW.out.setCell (p := ⟨wr.heap.size, 5, none⟩) (Nat.le_refl _) _
        have hOw := (owns_ext HO.out.own hS).alloc (.cells #[.int .i64 pri, .int .i64 dl, .int .i64 fi, .int .i64 gap, .int .i64 jit, .slice a2 tn c2] 72)
        have hkeep : ∀ {t : TaV} {B : Nat}, PcO B (w2.setCell ⟨wr.heap.size, 5, none⟩ (.slice a2 tn c2)) t → PcO B w3 t := fun h => owns_kept (h.alloc _) hOw (by decide) HB3.out
        refine ⟨k + 1, g' ++ [⟨pri, dl, fi, gap, jit, a2, tn, c2, pcs⟩], a3, c3, by omega, rfl, by go_num, ⟨by rw [List.flatMap_append]; exact HO3.out, fun t ht => ?_⟩, by rw [HTK.out, List.map_append, List.map_append, HG'.out]; rfl, ?_⟩
        · rcases List.mem_append.1 ht with ht | ht
          · exact hkeep (owns_ext (HO.out.ok t ht) hS)
          · simp at ht
            subst ht
            exact hkeep (t := ⟨pri, dl, fi, gap, jit, a2, tn, c2, pcs⟩) (owns_mono (owns_far HO2.out (Nat.lt_succ_self _) _) (by omega))
        · exact ((Below.then HB.out hS).alloc (by simp; omega) _).grown HB3.out (by simp; omega) (fun j hj => (HO.out.own.lt j hj).1)
      case measure => simp [intOf]; omega
    · have hkn : k = n := by omega
      subst hkn
      have hgg : g'.map TaV.ta = g.map TaV.ta := by rw [HG'.out, List.take_of_length_le (by rw [HL.out]; exact Nat.le_refl _)]
      have HGG := Lib.hid hgg
      clear hgg
      go_wp2
      go_ret
      exact ⟨_, _, rfl, ⟨g', HO.out.rd, HGG.out⟩, HB.out⟩
end Go.Proofs.Ytmahagcghpoekaa
namespace Go.Proofs.Ytmahagcghpoekaa
open Go.RowKit
set_option linter.unusedSimpArgs false
set_option linter.unusedVariables false
def TaV.blk (t : TaV) : Option Nat := (Value.slice t.a t.n t.c).ownBlock
/-- no two tasks' pieces lie in one block -/
def PcAp (g : List TaV) : Prop := g.Pairwise (fun t u => ∀ x, t.blk = some x → u.blk ≠ some x)
structure MutT (B : Nat) (w : World) (a : Option Addr) (n c : Nat) (g : List TaV) : Prop where
  own : OwnT B w a n c g
  ap : PcAp g
theorem PcO.low {B : Nat} {w : World} {t : TaV} (h : PcO B w t) : ∀ x, t.blk = some x → B ≤ x ∧ x < w.heap.size := by
  intro x hx
  rcases h.2 with ⟨hv, _⟩ | ⟨g, cap, cur, hv, hB, hg, _⟩
  · unfold TaV.blk at hx; rw [hv] at hx; simp [Value.ownBlock] at hx
  · unfold TaV.blk at hx; rw [hv] at hx; simp [Value.ownBlock] at hx; subst hx; exact ⟨hB, (Array.getElem?_eq_some_iff.1 hg).1⟩
theorem MutT.rd {B w a n c g} (h : MutT B w a n c g) : RdT w a n g := h.own.rd
theorem MutT.rdL {B w a n c g} (h : MutT B w a n c g) : RdL w a n (g.map TaV.ta) := ⟨g, h.own.rd, rfl⟩
theorem MutT.ext {B w w' a n c g} (h : MutT B w a n c g) (hb : Below w.heap.size w w') : MutT B w' a n c g :=
  ⟨⟨owns_ext h.own.own hb, fun t ht => owns_ext (h.own.ok t ht) hb⟩, h.ap⟩
theorem MutT.addr {B w a n c g} (h : MutT B w a n c g) (hn : 0 < n) : ∃ q, a = some ⟨q, 0, none⟩ ∧ B ≤ q ∧ q < w.heap.size := by
  rcases h.own.own.2 with ⟨_, h8⟩ | ⟨g, cap, cur, hv, hB, hg, _⟩
  · omega
  · simp at hv; exact ⟨g, hv.1, hB, (Array.getElem?_eq_some_iff.1 hg).1⟩
theorem PcO.addr {B w} {t : TaV} (h : PcO B w t) (hn : 0 < t.n) : ∃ q, t.a = some ⟨q, 0, none⟩ ∧ B ≤ q ∧ q < w.heap.size ∧ t.blk = some q := by
  rcases h.2 with ⟨_, h8⟩ | ⟨g, cap, cur, hv, hB, hg, _⟩
  · omega
  · simp at hv; exact ⟨g, hv.1, hB, (Array.getElem?_eq_some_iff.1 hg).1, by unfold TaV.blk; rw [hv.1]; rfl⟩
/-- rows of tasks and of pieces share no block -/
theorem owns_diff {w : World} {B B' e e' k k' n n' q c : Nat} {v : Value} {xs xs' : List Value} (h : w.ownsRow B e k (.slice (some ⟨q, 0, none⟩) n c) n xs) (h' : w.ownsRow B' e' k' v n' xs') (hne : e ≠ e') : v.ownBlock ≠ some q := by
  rcases h'.2 with ⟨rfl, _⟩ | ⟨g', cap', cur', rfl, _, hh', _⟩
  · simp [Value.ownBlock]
  · simp only [Value.ownBlock, ne_eq, Option.some.injEq]
    rintro rfl
    rcases h.2 with ⟨hv, _⟩ | ⟨g, cap, cur, hv, _, hh, _⟩
    · simp at hv
    · simp at hv
      obtain ⟨rfl, _⟩ := hv
      rw [hh] at hh'
      simp at hh'
      exact hne hh'.2
theorem flat_set {α : Type} {enc : α → List Value} {k : Nat} (he : ∀ x, (enc x).length = k) : ∀ (xs : List α) (i j : Nat) (x y : α) (u : Value), xs[i]? = some x → j < k → enc y = (enc x).set j u → (xs.flatMap enc).set (i * k + j) u = (xs.set i y).flatMap enc
  | [], i, j, x, y, u, h, _, _ => by simp at h
  | z :: xs, 0, j, x, y, u, h, hj, e => by
    simp at h; subst h
    simp only [List.flatMap_cons, List.set_cons_zero, Nat.zero_mul, Nat.zero_add]
    rw [List.set_append_left _ _ (by rw [he]; exact hj), e]
  | z :: xs, i + 1, j, x, y, u, h, hj, e => by
    have := flat_set he xs i j x y u (by simpa using h) hj e
    simp only [List.flatMap_cons, List.set_cons_succ]
    rw [List.set_append_right _ _ (by rw [he, Nat.add_mul]; omega), he, ← this]
    congr 2
    rw [Nat.add_mul]; omega
theorem pairwise_set {α β : Type} {R : α → α → Prop} (f : α → β) (hR : ∀ a b a' b', f a = f a' → f b = f b' → R a b → R a' b') : ∀ (g : List α) (k : Nat) (x y : α), g[k]? = some x → f x = f y → g.Pairwise R → (g.set k y).Pairwise R
  | [], _, _, _, h, _, _ => by simp at h
  | z :: g, 0, x, y, h, e, hp => by
    simp at h; subst h
    rw [List.pairwise_cons] at hp
    rw [List.set_cons_zero, List.pairwise_cons]
    exact ⟨fun b hb => hR z b y b e rfl (hp.1 b hb), hp.2⟩
  | z :: g, k + 1, x, y, h, e, hp => by
    rw [List.pairwise_cons] at hp
    rw [List.set_cons_succ, List.pairwise_cons]
    have hk : g[k]? = some x := by simpa using h
    refine ⟨fun b hb => ?_, pairwise_set f hR g k x y hk e hp.2⟩
    rcases List.mem_or_eq_of_mem_set hb with hb | rfl
    · exact hp.1 b hb
    · exact hR z x z b rfl e (hp.1 x (List.mem_of_getElem? hk))
theorem PcAp.set {g : List TaV} (h : PcAp g) {k : Nat} {t t' : TaV} (hk : g[k]? = some t) (e : t.blk = t'.blk) : PcAp (g.set k t') :=
  pairwise_set TaV.blk (fun a b a' b' e1 e2 r x hx => by rw [← e2]; exact r x (by rw [e1]; exact hx)) g k t t' hk e h
theorem mem_set {α : Type} {g : List α} {k : Nat} {x y : α} (h : y ∈ g.set k x) : y ∈ g ∨ y = x := List.mem_or_eq_of_mem_set h
theorem MutT.at_ {B w q n c g} (h : MutT B w (some ⟨q, 0, none⟩) n c g) {k : Nat} {t : TaV} (hk : g[k]? = some t) (j : Nat) (hj : j < 6) : w.cell? ⟨q, k * 6 + j, none⟩ = (encTa t)[j]? ∧ w.frozen? ⟨q, k * 6 + j, none⟩ = false := by
  obtain ⟨hi, rfl⟩ := List.getElem?_eq_some_iff.1 hk
  have hl := (Rd.of_owns encTa_len (by decide) h.own.own).length
  have : (k + 1) * 6 ≤ n * 6 := Nat.mul_le_mul_right 6 (by omega)
  rw [h.own.own.cellAt (k * 6 + j) (by omega), flat_get encTa_len g k j hi hj]
  exact ⟨rfl, h.own.own.frozenAt _⟩
theorem MutT.piece {B w a n c g} (h : MutT B w a n c g) {k : Nat} {t : TaV} (hk : g[k]? = some t) {q i : Nat} {p : P2} (ha : t.a = some ⟨q, 0, none⟩) (hi : t.pcs[i]? = some p) (j : Nat) (hj : j < 2) : w.cell? ⟨q, i * 2 + j, none⟩ = (enc2 p)[j]? ∧ w.frozen? ⟨q, i * 2 + j, none⟩ = false := by
  have hO := h.own.ok t (List.mem_of_getElem? hk)
  obtain ⟨ta, tn, tc, pcs, e⟩ : ∃ a n c ps, t.a = a ∧ t.n = n ∧ t.c = c ∧ t.pcs = ps := ⟨_, _, _, _, rfl, rfl, rfl, rfl⟩
  obtain ⟨hi', rfl⟩ := List.getElem?_eq_some_iff.1 hi
  have hO' : w.ownsRow B 79 2 (.slice (some ⟨q, 0, none⟩) t.n t.c) t.n (t.pcs.flatMap enc2) := by have := hO; unfold PcO at this; rw [ha] at this; exact this
  have hl := (Rd.of_owns enc2_len (by decide) hO').length
  have : (i + 1) * 2 ≤ t.n * 2 := Nat.mul_le_mul_right 2 (by omega)
  rw [hO'.cellAt (i * 2 + j) (by omega), flat_get enc2_len t.pcs i j hi' hj]
  exact ⟨rfl, hO'.frozenAt _⟩
/-- a cell of a task is written -/
theorem MutT.set {B w q n c g} (h : MutT B w (some ⟨q, 0, none⟩) n c g) {k : Nat} {t t' : TaV} (hk : g[k]? = some t) (j : Nat) (hj : j < 6) (u : Value) (he : encTa t' = (encTa t).set j u) (ha : t'.a = t.a) (hn : t'.n = t.n) (hc : t'.c = t.c) (hp : t'.pcs = t.pcs) :
    MutT B (w.setCell ⟨q, k * 6 + j, none⟩ u) (some ⟨q, 0, none⟩) n c (g.set k t') := by
  have hs := (h.own.own.stored (k * 6 + j) u).1
  rw [flat_set encTa_len g k j t t' u hk hj he] at hs
  have hkeep : ∀ x ∈ g, PcO B (w.setCell ⟨q, k * 6 + j, none⟩ u) x := fun x hx => ownsRow_setCell_other (h.own.ok x hx) (owns_diff h.own.own (h.own.ok x hx) (by decide)) u
  refine ⟨⟨hs, fun x hx => ?_⟩, h.ap.set hk (by unfold TaV.blk; rw [ha, hn, hc])⟩
  rcases mem_set hx with hx | rfl
  · exact hkeep x hx
  · have := hkeep t (List.mem_of_getElem? hk)
    unfold PcO at this ⊢
    rw [ha, hn, hc, hp]; exact this
theorem PcAp.ne {g : List TaV} (h : PcAp g) {i k : Nat} {t u : TaV} (hi : g[i]? = some t) (hk : g[k]? = some u) (hne : i ≠ k) {q : Nat} (hq : t.blk = some q) : u.blk ≠ some q := by
  obtain ⟨h1, rfl⟩ := List.getElem?_eq_some_iff.1 hi
  obtain ⟨h2, rfl⟩ := List.getElem?_eq_some_iff.1 hk
  unfold PcAp at h
  rw [List.pairwise_iff_getElem] at h
  rcases Nat.lt_or_gt_of_ne hne with h3 | h3
  · exact h i k h1 h2 h3 q hq
  · exact fun e => h k i h2 h1 h3 q e hq
/-- a cell of a piece is written -/
theorem MutT.setP {B w a n c g} (h : MutT B w a n c g) {k : Nat} {t t' : TaV} (hk : g[k]? = some t) {q i : Nat} {p p' : P2} (ha : t.a = some ⟨q, 0, none⟩) (hi : t.pcs[i]? = some p) (j : Nat) (hj : j < 2) (u : Value) (he : enc2 p' = (enc2 p).set j u) (ht : t' = { t with pcs := t.pcs.set i p' }) :
    MutT B (w.setCell ⟨q, i * 2 + j, none⟩ u) a n c (g.set k t') := by
  have hO := h.own.ok t (List.mem_of_getElem? hk)
  have hO' : w.ownsRow B 79 2 (.slice (some ⟨q, 0, none⟩) t.n t.c) t.n (t.pcs.flatMap enc2) := by have := hO; unfold PcO at this; rw [ha] at this; exact this
  have hs := (hO'.stored (i * 2 + j) u).1
  rw [flat_set enc2_len t.pcs i j p p' u hi hj he] at hs
  have hq : t.blk = some q := by unfold TaV.blk; rw [ha]; rfl
  have hm := ownsRow_setCell_other (a := ⟨q, i * 2 + j, none⟩) h.own.own (owns_diff hO' h.own.own (by decide)) u
  have hfl : (g.set k t').flatMap encTa = g.flatMap encTa := by
    have e1 : encTa t' = encTa t := by rw [ht]; rfl
    have : (g.set k t').map encTa = g.map encTa := by
      rw [List.map_set, e1]
      apply List.ext_getElem?
      intro m
      rw [List.getElem?_set]
      split
      · rename_i h1
        subst h1
        have hlt := (List.getElem?_eq_some_iff.1 hk).1
        rw [if_pos (by simpa using hlt), List.getElem?_map, hk]; rfl
      · rfl
    rw [List.flatMap_def, List.flatMap_def, this]
  refine ⟨⟨by rw [hfl]; exact hm, fun x hx => ?_⟩, h.ap.set hk (by rw [ht]; rfl)⟩
  obtain ⟨m, hm⟩ := List.getElem?_of_mem hx
  rw [List.getElem?_set] at hm
  split at hm
  · split at hm
    · simp at hm; subst hm; rw [ht]; unfold PcO; simp only []; rw [ha]; exact hs
    · simp at hm
  · rename_i hne
    exact ownsRow_setCell_other (h.own.ok x (List.mem_of_getElem? hm)) (h.ap.ne hk hm hne hq) u
theorem set_map {α β : Type} (f : α → β) (g : List α) (k : Nat) (x : α) : (g.set k x).map f = (g.map f).set k (f x) := List.map_set
/-- a copy that may be written -/
def OutM (w : World) (n : Nat) (L : List Ta) (e : Ending) (w' : World) : Prop :=
  ∃ a c g, e = .returned (.slice a n c) ∧ MutT w.heap.size w' a n c g ∧ g.map TaV.ta = L ∧ Below w.heap.size w w'
theorem PcAp.app {g : List TaV} {t : TaV} {K : Nat} (h : PcAp g) (h1 : ∀ u ∈ g, ∀ x, u.blk = some x → x < K) (h2 : ∀ x, t.blk = some x → K + 1 ≤ x) : PcAp (g ++ [t]) := by
  refine List.pairwise_append.2 ⟨h, List.pairwise_singleton _ _, fun u hu v hv x hx e => ?_⟩
  simp at hv; subst hv
  have := h1 u hu x hx
  have := h2 x e
  omega
set_option maxRecDepth 10000 in
set_option maxHeartbeats 4000000 in
theorem copied_M (a : Option Addr) (n c : Nat) (L : List Ta) (hn : n ≤ 1000) (hP : ∀ t ∈ L, t.pcs.length ≤ 1000) (w : World) (hL : RdL w a n L) (hN : NilOk a n c) :
    Calls Try.prog 50 #[.slice a n c] w (OutM w n L) := by
  obtain ⟨g, hG, rfl⟩ := hL
  have HR := Lib.hid hG
  have HL := Lib.hid hG.length
  have HH : Hid (∀ t ∈ g, t.n ≤ 1000) := Lib.hid (fun t ht => by
    have h1 := hP t.ta (List.mem_map_of_mem ht)
    have h2 := (hG.ok t ht).1.length
    have h3 : t.ta.pcs.length = t.pcs.length := rfl
    omega)
  clear hG hP
  have e1 := EPc
  have e2 := ETk
  go_enter Try.func50, Try.ntmps50
  go_wp2
  go_loopw [3, 4] (fun v i wr => ∃ (k : Nat) (g' : List TaV) (a' : Option Addr) (c' : Nat), k ≤ n ∧ v = .slice a' k c' ∧ i = .int .i64 k ∧ MutT w.heap.size wr a' k c' g' ∧ g'.map TaV.ta = (g.take k).map TaV.ta ∧ Below w.heap.size w wr) (fun _ i _ => n - (intOf i).toNat)
  case atStart => exact ⟨0, [], none, 0, Nat.zero_le _, rfl, rfl, ⟨⟨World.ownsRow_nil _ _ _ _, by simp⟩, List.Pairwise.nil⟩, rfl, by (repeat' (first | (with_reducible exact Below.refl _ _) | (with_reducible assumption) | (with_reducible refine Below.alloc ?_ ?_ _) | (with_reducible refine Below.drew ?_) | (with_reducible refine Below.draws ?_ _) | (with_reducible refine Below.setCell ?_ ?_ _) | (refine Below.then ?_ (by with_reducible assumption)) | go_size))⟩
  case round =>
    obtain ⟨k, g', a', c', hk, rfl, rfl, hO, hg', hB⟩ := hrel
    have HO := Lib.hid hO; have HB := Lib.hid hB; have HG' := Lib.hid hg'
    have hz := hB.size
    clear hO hB hg'
    by_cases hlt : k < n
    · have hkl : k < g.length := by rw [HL.out]; exact hlt
      have hgd : g.drop k = g[k] :: g.drop (k + 1) := List.drop_eq_getElem_cons hkl
      have hgm : g[k] ∈ g := List.getElem_mem hkl
      obtain ⟨t, ht⟩ : ∃ t, g[k] = t := ⟨_, rfl⟩
      rw [ht] at hgd hgm
      obtain ⟨b, off, rfl, hb0, hc⟩ := HR.out.rd.at_ (by omega)
      have hgk : (g.map encTa)[k]'(by simpa using hkl) = encTa t := by rw [List.getElem_map, ht]
      have x0 := hc k (by simpa using hkl) 0 (by omega)
      have x1 := hc k (by simpa using hkl) 1 (by omega)
      have x2 := hc k (by simpa using hkl) 2 (by omega)
      have x3 := hc k (by simpa using hkl) 3 (by omega)
      have x4 := hc k (by simpa using hkl) 4 (by omega)
      have x5 := hc k (by simpa using hkl) 5 (by omega)
      rw [hgk] at x0 x1 x2 x3 x4 x5
      clear hgk hc
      have hok := (HR.out.ok t hgm).ext HB.out
      have htn : t.n ≤ 1000 := HH.out _ hgm
      obtain ⟨pri, dl, fi, gap, jit, ta, tn, tc, pcs⟩ := t
      simp [encTa] at x0 x1 x2 x3 x4 x5
      simp only [] at htn
      have h0 := (HB.out.cell (p := ⟨b, off + k * 6, none⟩) hb0).trans x0
      have h1 := (HB.out.cell (p := ⟨b, off + k * 6 + 1, none⟩) hb0).trans x1
      have h2 := (HB.out.cell (p := ⟨b, off + k * 6 + 2, none⟩) hb0).trans x2
      have h3 := (HB.out.cell (p := ⟨b, off + k * 6 + 3, none⟩) hb0).trans x3
      have h4 := (HB.out.cell (p := ⟨b, off + k * 6 + 4, none⟩) hb0).trans x4
      have h5 := (HB.out.cell (p := ⟨b, off + k * 6 + 5, none⟩) hb0).trans x5
      have hb : b < wr.heap.size := by omega
      have HT1 : Hid (Rd wr ta tn 2 (pcs.map enc2)) := Lib.hid hok.1
      have HT2 : Hid (NilOk ta tn tc) := Lib.hid hok.2
      have HTK := Lib.hid (take_of_drop hgd)
      clear ht hok hgd hgm x0 x1 x2 x3 x4 x5
      have HOW : Hid (((wr.alloc (.cells #[.int .i64 pri, .int .i64 dl, .int .i64 fi, .int .i64 gap, .int .i64 jit, .slice ta tn tc] 72)).alloc (.cells #[] 79)).ownsRow (wr.heap.size + 1) 79 2 (.slice (some ⟨wr.heap.size + 1, 0, none⟩) 0 0) 0 []) := Lib.hid (by
        have := World.ownsRow_lit (e := 79) (size := 2) (base := wr.heap.size + 1) (wr.alloc (.cells #[.int .i64 pri, .int .i64 dl, .int .i64 fi, .int .i64 gap, .int .i64 jit, .slice ta tn tc] 72)) #[] 0 (by simp) (by decide) rfl
        rw [World.size_alloc] at this; exact this)
      go_wp2_with (first
        | (at_builtin; refine wpList_pushAll (B := wr.heap.size + 1) (n := 0) (xs := []) rfl _ _ _ rfl e1 enc2_len enc2_one rfl HOW.out rfl (HT1.out.ext (by (repeat' (first | (with_reducible exact Below.refl _ _) | (with_reducible assumption) | (with_reducible refine Below.alloc ?_ ?_ _) | (with_reducible refine Below.drew ?_) | (with_reducible refine Below.draws ?_ _) | (with_reducible refine Below.setCell ?_ ?_ _) | (refine Below.then ?_ (by with_reducible assumption)) | go_size)))) HT2.out (by omega) (by decide) (by simp) ?_
           intro v2 w2 hown2 hv2 hb2
           rw [Nat.zero_add, List.nil_append] at hown2
           obtain ⟨a2, c2, rfl⟩ := hv2
           rw [Nat.zero_add] at hown2 ⊢
           have HB2 := Lib.hid hb2
           have HO2 := Lib.hid hown2
           have hz2 := hb2.size
           simp only [World.size_alloc] at hz2
           have hc0 := (hb2.cell (p := ⟨wr.heap.size, 0, none⟩) (by simp)).trans (show _ = some (.int .i64 pri) by simp [go_sem])
           have hc1 := (hb2.cell (p := ⟨wr.heap.size, 1, none⟩) (by simp)).trans (show _ = some (.int .i64 dl) by simp [go_sem])
           have hc2 := (hb2.cell (p := ⟨wr.heap.size, 2, none⟩) (by simp)).trans (show _ = some (.int .i64 fi) by simp [go_sem])
           have hc3 := (hb2.cell (p := ⟨wr.heap.size, 3, none⟩) (by simp)).trans (show _ = some (.int .i64 gap) by simp [go_sem])
           have hc4 := (hb2.cell (p := ⟨wr.heap.size, 4, none⟩) (by simp)).trans (show _ = some (.int .i64 jit) by simp [go_sem])
           have hc5 := (hb2.cell (p := ⟨wr.heap.size, 5, none⟩) (by simp)).trans (show _ = some (.slice ta tn tc) by simp [go_sem])
           have hf5 := (hb2.frozen (p := ⟨wr.heap.size, 5, none⟩) (by simp)).trans (show _ = false by simp [go_sem])
           have HBW : Hid (Below wr.heap.size wr w2) := Lib.hid ((((Below.refl wr.heap.size wr).alloc (Nat.le_refl _) _).alloc (by simp) _).trans (hb2.mono (by omega)))
           clear hown2 hb2)
        | (at_builtin; refine wpList_pushM (N := w2.heap.size) (v := .slice a' k c') (by simp) rfl _ _ _ rfl e2 rfl (owns_ext HO.out.own.own (HBW.out.setCell (p := ⟨wr.heap.size, 5, none⟩) (Nat.le_refl _) _)) rfl rfl (by intro u hu; simp at hu; rcases hu with rfl | rfl | rfl | rfl | rfl | rfl <;> rfl) (by omega) (by decide) (by simp; omega) ?_; intro a3 c3 w3 hown3 hb3; have HO3 := Lib.hid hown3; have HB3 := Lib.hid hb3; clear hown3 hb3))
      go_roundw
      case rel =>
        have hS : Below wr.heap.size wr (w2.setCell ⟨wr.heap.size, 5, none⟩ (.slice a2 tn c2)) := HBW.out.setCell (p := ⟨wr.heap.size, 5, none⟩) (Nat.le_refl _) _
        have hOw := (owns_ext HO.out.own.own hS).alloc (.cells #[.int .i64 pri, .int .i64 dl, .int .i64 fi, .int .i64 gap, .int .i64 jit, .slice a2 tn c2] 72)
        have hkeep : ∀ {t : TaV} {B : Nat}, PcO B (w2.setCell ⟨wr.heap.size, 5, none⟩ (.slice a2 tn c2)) t → PcO B w3 t := fun h => owns_kept (h.alloc _) hOw (by decide) HB3.out
        refine ⟨k + 1, g' ++ [⟨pri, dl, fi, gap, jit, a2, tn, c2, pcs⟩], a3, c3, by omega, rfl, by go_num, ⟨⟨by rw [List.flatMap_append]; exact HO3.out, fun t ht => ?_⟩, PcAp.app HO.out.ap (fun u hu x hx => ((HO.out.own.ok u hu).low x hx).2) (fun x hx => (PcO.low (t := ⟨pri, dl, fi, gap, jit, a2, tn, c2, pcs⟩) HO2.out x hx).1)⟩, by rw [HTK.out, List.map_append, List.map_append, HG'.out]; rfl, ?_⟩
        · rcases List.mem_append.1 ht with ht | ht
          · exact hkeep (owns_ext (HO.out.own.ok t ht) hS)
          · simp at ht
            subst ht
            exact hkeep (t := ⟨pri, dl, fi, gap, jit, a2, tn, c2, pcs⟩) (owns_mono (owns_far HO2.out (Nat.lt_succ_self _) _) (by omega))
        · exact ((Below.then HB.out hS).alloc (by simp; omega) _).grown HB3.out (by simp; omega) (fun j hj => (HO.out.own.own.lt j hj).1)
      case measure => simp [intOf]; omega
    · have hkn : k = n := by omega
      subst hkn
      have hgg : g'.map TaV.ta = g.map TaV.ta := by rw [HG'.out, List.take_of_length_le (by rw [HL.out]; exact Nat.le_refl _)]
      have HGG := Lib.hid hgg
      clear hgg
      go_wp2
      go_ret
      exact ⟨_, _, _, rfl, HO.out, HGG.out, HB.out⟩
end Go.Proofs.Ytmahagcghpoekaa
namespace Go.Proofs.Ytmahagcghpoekaa
open Go.RowKit
set_option linter.unusedSimpArgs false
set_option linter.unusedVariables false
/-- each task of K stands for one of L and is no harder -/
structure Sim (K L : List Ta) (σ : Nat → Nat) : Prop where
  len : ∀ i, i < K.length → σ i < L.length
  mono : ∀ i j, i < j → σ i < σ j
  pri : ∀ i : Nat, i < K.length → (taAt K i).pri = (taAt L (σ i)).pri
  gap : ∀ i : Nat, i < K.length → (taAt L (σ i)).gap ≤ (taAt K i).gap
  jit : ∀ i : Nat, i < K.length → (taAt K i).jit ≤ (taAt L (σ i)).jit
  dl : ∀ i : Nat, i < K.length → (taAt L (σ i)).dl ≤ (taAt K i).dl
  pl : ∀ i : Nat, i < K.length → (taAt K i).pcs.length = (taAt L (σ i)).pcs.length
  pc : ∀ i : Nat, i < K.length → ∀ (k : Nat) (p q : P2), (taAt K i).pcs[k]? = some p → (taAt L (σ i)).pcs[k]? = some q → p.2 = q.2 ∧ p.1 ≤ q.1
theorem costP_le : ∀ (ps qs : List P2), ps.length = qs.length → (∀ (k : Nat) (p q : P2), ps[k]? = some p → qs[k]? = some q → p.1 ≤ q.1) → costP ps ≤ costP qs
  | [], [], _, _ => Int.le_refl _
  | p :: ps, q :: qs, hl, h => by
    have h1 := costP_le ps qs (by simpa using hl) (fun k a b ha hb => h (k + 1) a b (by simpa using ha) (by simpa using hb))
    have h2 := h 0 p q rfl rfl
    rw [costP, costP]; omega
theorem mostN_le {g g' j j' v : Int} (hg : 1 ≤ g) (hgg : g ≤ g') (hj : 0 ≤ j') (hjj : j' ≤ j) (hv : 0 ≤ v) : mostN g' j' v ≤ mostN g j v := by
  unfold mostN
  split
  · omega
  · have h1 : (v - 1 + j') / g' ≤ (v - 1 + j') / g := by
      rw [Int.le_ediv_iff_mul_le (by omega)]
      have a := Int.ediv_mul_le (v - 1 + j') (show g' ≠ 0 by omega)
      have b := Int.ediv_nonneg (a := v - 1 + j') (b := g') (by omega) (by omega)
      have c := Int.mul_le_mul_of_nonneg_left hgg b
      omega
    have h2 : (v - 1 + j') / g ≤ (v - 1 + j) / g := Int.ediv_le_ediv (by omega) (by omega)
    omega
section
variable {K L : List Ta} {σ : Nat → Nat}
theorem Sim.ahead (h : Sim K L σ) {i j : Nat} (hi : i < K.length) (hj : j < K.length) : Ahead K i j ↔ Ahead L (σ i) (σ j) := by
  have e1 : priI K i = priI L (σ i) := h.pri i hi
  have e2 : priI K j = priI L (σ j) := h.pri j hj
  have e3 : i < j ↔ σ i < σ j := by
    constructor
    · exact h.mono i j
    · intro hlt
      rcases Nat.lt_trichotomy i j with q | q | q
      · exact q
      · subst q; omega
      · have := h.mono j i q; omega
  unfold Ahead
  rw [e1, e2]
  omega
theorem Sim.cost (h : Sim K L σ) {i : Nat} (hi : i < K.length) : costT (taAt K i) ≤ costT (taAt L (σ i)) :=
  costP_le _ _ (h.pl i hi) (fun k p q hp hq => (h.pc i hi k p q hp hq).2)
theorem Sim.demTL (h : Sim K L σ) (hK : ValidT K) (hL : ValidT L) {i : Nat} (hi : i < K.length) {v : Int} (hv : 0 ≤ v) : demT (taAt K i) v ≤ demT (taAt L (σ i)) v := by
  have hk := taAt_mem' (L := K) (k := i) (by omega) (by omega)
  have hl := taAt_mem' (L := L) (k := (σ i : Int)) (by omega) (by have := h.len i hi; omega)
  have h1 := mostN_le (hL.gap _ hl).1 (h.gap i hi) (hK.jit _ hk).1 (h.jit i hi) hv
  have h2 := h.cost hi
  have h3 := (mostN_mono (hL.gap _ hl).1 (hL.jit _ hl).1 hv (Int.le_refl v)).1
  have h4 := (costT_bd hK.r hk).1
  exact Int.mul_le_mul h1 h2 (by omega) h3
theorem Sim.usesL (h : Sim K L σ) {i : Nat} (hi : i < K.length) {l : Int} (hu : uses K i l) : uses L (σ i) l := by
  obtain ⟨p, hp, e⟩ := hu
  obtain ⟨k, hk⟩ := List.mem_iff_getElem?.1 hp
  have hkl := (List.getElem?_eq_some_iff.1 hk).1
  have hq : (taAt L (σ i)).pcs[k]? = some ((taAt L (σ i)).pcs[k]'(by have := h.pl i hi; omega)) := List.getElem?_eq_getElem _
  have := (h.pc i hi k _ _ hk hq).1
  exact ⟨_, List.mem_of_getElem? hq, by rw [← this]; exact e⟩
/-- the ceiling of L is no further behind -/
theorem Sim.ceil (h : Sim K L σ) {i j : Nat} (hi : i < K.length) (hj : j < K.length) {l : Int} (hu : uses K i l) (hn : ¬ Ahead K j (ceilG K l)) : ¬ Ahead L (σ j) (ceilG L l) := by
  have hcK := isCeil K l
  have hcL := isCeil L l
  have hk0 : 0 ≤ ceilG K l := by
    rcases Int.lt_or_le (ceilG K l) 0 with q | q
    · exact absurd hu (hcK.none_ q i hi)
    · exact q
  have hl0 : 0 ≤ ceilG L l := by
    rcases Int.lt_or_le (ceilG L l) 0 with q | q
    · exact absurd (h.usesL hi hu) (hcL.none_ q _ (h.len i hi))
    · exact q
  obtain ⟨c, hc⟩ := Int.eq_ofNat_of_zero_le hk0
  have hck : c < K.length := by have := hcK.hi; omega
  have huc := h.usesL hck (by have := (hcK.some_ hk0).1; rw [hc] at this; exact this)
  rw [hc] at hn
  intro ha
  apply hn
  rw [h.ahead hj hck]
  by_cases e : ((σ c : Nat) : Int) = ceilG L l
  · rw [e]; exact ha
  · exact ahead_trans _ _ _ ha ((hcL.some_ hl0).2 (σ c) (h.len c hck) huc e)
end
theorem blkP_in {L : List Ta} {t : Int} {j : Nat} : ∀ (ps : List P2) (k i : Nat) (p : P2), (taAt L j).pcs.drop k = ps → ps[i]? = some p → 0 ≤ p.2 → ¬ Ahead L t (ceilG L p.2) → ((j : Int), ((k + i : Nat) : Int)) ∈ blkP L t j k ps
  | [], _, _, _, _, h, _, _ => by simp at h
  | q :: ps, k, i, p, hd, hi, h0, hn => by
    have hd' : (taAt L j).pcs.drop (k + 1) = ps := by rw [← List.drop_drop, hd]; rfl
    rw [blkP]
    cases i with
    | zero =>
      simp at hi
      subst hi
      rw [if_pos ⟨h0, aheadB_no.2 hn⟩]
      simp
    | succ i =>
      have := blkP_in ps (k + 1) i p hd' (by simpa using hi) h0 hn
      rw [show k + (i + 1) = k + 1 + i by omega]
      split
      · exact List.mem_cons_of_mem _ this
      · exact this
theorem blkFrom_in {L : List Ta} {t : Int} {b : P2} : ∀ (f j m : Nat), j ≤ m → m < j + f → aheadB L t m = true → b ∈ blkP L t m 0 (taAt L m).pcs → b ∈ blkFrom L t f j
  | 0, j, m, h1, h2, _, _ => by omega
  | f + 1, j, m, h1, h2, h3, h4 => by
    rw [blkFrom, List.mem_append]
    by_cases e : m = j
    · subst e; left; rw [if_pos h3]; exact h4
    · right; exact blkFrom_in f (j + 1) m (by omega) (by omega) h3 h4
theorem blockL_in {L : List Ta} {t : Int} {j k : Nat} {p : P2} (hj : j < L.length) (hp : (taAt L j).pcs[k]? = some p) (h0 : 0 ≤ p.2) (ha : Ahead L t j) (hn : ¬ Ahead L t (ceilG L p.2)) : ((j : Int), (k : Int)) ∈ blockL L t := by
  have := blkP_in (L := L) (t := t) (j := j) _ 0 k p rfl hp h0 hn
  rw [Nat.zero_add] at this
  exact blkFrom_in L.length 0 j (Nat.zero_le _) (by omega) (aheadB_iff.2 ha) this
theorem maxF_ge {L : List Ta} : ∀ (bs : List P2) (m : Int), m ≤ bs.foldl (fun m b => max m (ticksAt L b)) m ∧ ∀ b ∈ bs, ticksAt L b ≤ bs.foldl (fun m b => max m (ticksAt L b)) m
  | [], m => ⟨Int.le_refl _, by simp⟩
  | b :: bs, m => by
    obtain ⟨h1, h2⟩ := maxF_ge (L := L) bs (max m (ticksAt L b))
    rw [List.foldl_cons]
    refine ⟨by omega, fun c hc => ?_⟩
    rcases List.mem_cons.1 hc with rfl | hc
    · omega
    · exact h2 c hc
theorem maxF_le {L : List Ta} {x : Int} : ∀ (bs : List P2) (m : Int), m ≤ x → (∀ b ∈ bs, ticksAt L b ≤ x) → bs.foldl (fun m b => max m (ticksAt L b)) m ≤ x
  | [], m, h, _ => h
  | b :: bs, m, h, hb => by
    rw [List.foldl_cons]
    have := hb b (by simp)
    exact maxF_le (L := L) bs _ (by omega) (fun c hc => hb c (by simp [hc]))
section
variable {K L : List Ta} {σ : Nat → Nat}
theorem Sim.block (h : Sim K L σ) {j : Nat} (hj : j < K.length) : blockN K j ≤ blockN L (σ j) := by
  unfold blockN
  refine maxF_le _ 0 (maxF_ge _ _).1 (fun b hb => ?_)
  have hB := blockL_mem hb
  obtain ⟨i, hi⟩ := Int.eq_ofNat_of_zero_le hB.j0
  obtain ⟨k, hk⟩ := Int.eq_ofNat_of_zero_le hB.k0
  have hil : i < K.length := by have := hB.j1; omega
  have hkl : k < (taAt K i).pcs.length := by have := hB.k1; rw [hi, hk] at this; omega
  have hp : (taAt K i).pcs[k]? = some (taAt K i).pcs[k] := List.getElem?_eq_getElem hkl
  have hq : (taAt L (σ i)).pcs[k]? = some ((taAt L (σ i)).pcs[k]'(by have := h.pl i hil; omega)) := List.getElem?_eq_getElem _
  obtain ⟨e1, e2⟩ := h.pc i hil k _ _ hp hq
  have hlk := hB.lk
  rw [hi, hk, Int.toNat_natCast, hp] at hlk
  simp only [Option.getD_some] at hlk
  have hah := hB.ah
  rw [hi] at hah
  have hu : uses K i (taAt K i).pcs[k].2 := ⟨_, List.getElem_mem hkl, rfl⟩
  have hn := h.ceil hil hj hu hlk.2
  have hin := blockL_in (L := L) (t := (σ j : Int)) (h.len i hil) hq (by rw [← e1]; exact hlk.1) ((h.ahead hj hil).1 hah) (by rw [← e1]; exact hn)
  have hge := (maxF_ge (L := L) (blockL L (σ j)) 0).2 _ hin
  have et : ticksAt K b = (taAt K i).pcs[k].1 := by rw [ticksAt, hi, hk, Int.toNat_natCast, hp]; rfl
  have eu : ticksAt L (((σ i : Nat) : Int), (k : Int)) = ((taAt L (σ i)).pcs[k]'(by have := h.pl i hil; omega)).1 := by rw [ticksAt, Int.toNat_natCast, hq]; rfl
  rw [eu] at hge
  rw [et]; omega
theorem demL_nonneg {L : List Ta} {w : Int} {p : Int → Bool} : ∀ (ks : List Int) (n : Int), (∀ k ∈ ks, 0 ≤ demT (taAt L k) w) → demL L w (ks.filter p) n ≤ demL L w ks n
  | [], n, _ => Int.le_refl _
  | k :: ks, n, h => by
    have h0 := h k (by simp)
    have e : demL L w (k :: ks) n = demL L w ks (n + demT (taAt L k) w) := rfl
    rw [List.filter_cons, e]
    split
    · exact demL_nonneg ks _ (fun j hj => h j (by simp [hj]))
    · refine Int.le_trans (demL_nonneg ks n (fun j hj => h j (by simp [hj]))) ?_
      exact demL_le ks _ _ (by omega) (fun j _ => Int.le_refl _)
theorem demL_map {K L : List Ta} {v : Int} {f : Int → Int} : ∀ (ks : List Int) (n m : Int), n ≤ m → (∀ k ∈ ks, demT (taAt K k) v ≤ demT (taAt L (f k)) v) → demL K v ks n ≤ demL L v (ks.map f) m
  | [], n, m, h, _ => h
  | k :: ks, n, m, h, hk => by
    have h0 := hk k (by simp)
    refine demL_map (K := K) ks _ _ ?_ (fun j hj => hk j (by simp [hj]))
    show n + demT (taAt K k) v ≤ m + demT (taAt L (f k)) v
    omega
theorem Sim.dem (h : Sim K L σ) (hK : ValidT K) (hL : ValidT L) {j : Nat} (hj : j < K.length) {v : Int} (hv : 0 ≤ v ∧ v ≤ 1000000) : demN K j v ≤ demN L (σ j) v := by
  have hown : ownN K j ≤ ownN L (σ j) := by
    have := h.cost hj
    have := h.block hj
    unfold ownN; omega
  let f : Int → Int := fun k => ((σ k.toNat : Nat) : Int)
  have h1 : demN K j v ≤ demL L v ((aheadL K j).map f) (ownN L (σ j)) := by
    refine demL_map _ _ _ hown (fun k hk => ?_)
    obtain ⟨⟨k0, k1⟩, _⟩ := aheadL_mem.1 hk
    obtain ⟨i, rfl⟩ := Int.eq_ofNat_of_zero_le k0
    show demT (taAt K i) v ≤ demT (taAt L ((σ (Int.toNat (i : Int)) : Nat) : Int)) v
    rw [Int.toNat_natCast]
    exact h.demTL hK hL (by omega) hv.1
  have hp : ((aheadL K j).map f).Perm ((aheadL L (σ j)).filter (fun x => decide (x ∈ (aheadL K j).map f))) := by
    rw [List.perm_ext_iff_of_nodup]
    · intro x
      rw [List.mem_filter, decide_eq_true_eq]
      refine ⟨fun hx => ⟨?_, hx⟩, fun hx => hx.2⟩
      obtain ⟨k, hk, rfl⟩ := List.mem_map.1 hx
      obtain ⟨⟨k0, k1⟩, k2⟩ := aheadL_mem.1 hk
      obtain ⟨i, rfl⟩ := Int.eq_ofNat_of_zero_le k0
      have hi : i < K.length := by omega
      rw [aheadL_mem]
      refine ⟨⟨by show 0 ≤ ((σ _ : Nat) : Int); omega, ?_⟩, aheadB_iff.2 ?_⟩
      · show ((σ (Int.toNat (i : Int)) : Nat) : Int) < _
        rw [Int.toNat_natCast]
        have := h.len i hi; omega
      · show Ahead L ((σ (Int.toNat (i : Int)) : Nat) : Int) _
        rw [Int.toNat_natCast]
        exact (h.ahead hi hj).1 (aheadB_iff.1 k2)
    · have hpw : (aheadL K j).Pairwise (· < ·) := (idxs_pw _).filter _
      have hpm : ((aheadL K j).map f).Pairwise (· < ·) := by
        rw [List.pairwise_map]
        refine List.Pairwise.imp_of_mem (fun {a b} ha hb hab => ?_) hpw
        have a0 := (aheadL_mem.1 ha).1.1
        have b0 := (aheadL_mem.1 hb).1.1
        have := h.mono a.toNat b.toNat (by omega)
        show ((σ a.toNat : Nat) : Int) < ((σ b.toNat : Nat) : Int)
        omega
      exact hpm.imp (fun hab => by omega)
    · exact ((idxs_nodup _).filter _).filter _
  rw [demL_perm hp] at h1
  refine Int.le_trans h1 ?_
  exact demL_nonneg _ _ (fun k hk => by
    obtain ⟨⟨k0, k1⟩, _⟩ := aheadL_mem.1 hk
    exact (demT_bd hL (taAt_mem' k0 k1) hv).1)
theorem Sim.meet (h : Sim K L σ) (hK : ValidT K) (hL : ValidT L) {j : Nat} (hj : j < K.length) {F S : Int} (hm : meetB L F S (σ j) = true) : meetB K F S j = true ∧ winN K F S j ≤ winN L F S (σ j) := by
  unfold meetB at hm ⊢
  rw [Bool.and_eq_true, decide_eq_true_eq, decide_eq_true_eq] at hm ⊢
  obtain ⟨y, hy, y1, y2, y3, _⟩ := (isWin L F S (σ j)).some_ (by omega)
  have hd := h.dem hK hL hj (v := (y : Int)) (by omega)
  have hI := isWin K F S j
  have hb := winN_bd K F S j
  have hjt := h.jit j hj
  have hdl := h.dl j hj
  by_cases h0 : winN K F S j = 0
  · exact absurd (by omega) (hI.none_ h0 y y1 y2)
  · obtain ⟨x, hx, x1, x2, x3, x4⟩ := hI.some_ h0
    have hxy : x ≤ y := by
      rcases Nat.lt_or_ge y x with q | q
      · exact absurd (by omega) (x4 y y1 q)
      · exact q
    omega
theorem Sim.acc (h : Sim K L σ) (hK : ValidT K) (hL : ValidT L) {F S : Int} (ha : accB L F S = true) : accB K F S = true :=
  accB_iff.2 (fun j hj => (h.meet hK hL hj (accB_iff.1 ha (σ j) (h.len j hj))).1)
end
end Go.Proofs.Ytmahagcghpoekaa
namespace Go.Proofs.Ytmahagcghpoekaa
open Go.RowKit
set_option linter.unusedSimpArgs false
set_option linter.unusedVariables false
def pcE (p q : P2) : Bool := decide (p.2 = q.2) && decide (q.1 ≤ p.1)
def easP : List P2 → List P2 → Bool
  | [], [] => true
  | p :: ps, q :: qs => pcE p q && easP ps qs
  | _, _ => false
def loosB (t u : Ta) : Bool := decide (t.first ≤ u.first ∧ t.gap ≤ u.gap ∧ u.jit ≤ t.jit)
def easT (t u : Ta) : Bool := loosB t u && (decide (t.pri = u.pri) && (decide (t.dl ≤ u.dl) && easP t.pcs u.pcs))
def easL : List Ta → List Ta → Bool
  | [], [] => true
  | t :: L, u :: K => easT t u && easL L K
  | _, _ => false
def easR (L K : List Ta) : Bool × Int := if validL L && validL K then (easL L K, 0) else (false, 1)
theorem easP_len : ∀ {ps qs : List P2}, ¬ ps.length = qs.length → easP ps qs = false
  | [], [], h => absurd rfl h
  | [], _ :: _, _ => rfl
  | _ :: _, [], _ => rfl
  | p :: ps, q :: qs, h => by rw [easP, easP_len (fun e => h (by simp [e])), Bool.and_false]
theorem easL_len : ∀ {ps qs : List Ta}, ¬ ps.length = qs.length → easL ps qs = false
  | [], [], h => absurd rfl h
  | [], _ :: _, _ => rfl
  | _ :: _, [], _ => rfl
  | p :: ps, q :: qs, h => by rw [easL, easL_len (fun e => h (by simp [e])), Bool.and_false]
theorem easP_iff : ∀ {ps qs : List P2}, easP ps qs = true ↔ ps.length = qs.length ∧ ∀ (k : Nat) (p q : P2), ps[k]? = some p → qs[k]? = some q → p.2 = q.2 ∧ q.1 ≤ p.1
  | [], [] => by simp [easP]
  | [], _ :: _ => by simp [easP]
  | _ :: _, [] => by simp [easP]
  | p :: ps, q :: qs => by
    simp only [easP, Bool.and_eq_true, pcE, decide_eq_true_eq, easP_iff (ps := ps) (qs := qs), List.length_cons, Nat.add_right_cancel_iff]
    constructor
    · rintro ⟨h1, h2, h3⟩
      refine ⟨h2, fun k => ?_⟩
      cases k with
      | zero => intro a b ha hb; simp at ha hb; subst ha; subst hb; exact h1
      | succ k => intro a b ha hb; exact h3 k a b (by simpa using ha) (by simpa using hb)
    · rintro ⟨h1, h2⟩
      exact ⟨h2 0 p q rfl rfl, h1, fun k a b ha hb => h2 (k + 1) a b (by simpa using ha) (by simpa using hb)⟩
theorem easL_iff : ∀ {L K : List Ta}, easL L K = true ↔ L.length = K.length ∧ ∀ (k : Nat) (t u : Ta), L[k]? = some t → K[k]? = some u → easT t u = true
  | [], [] => by simp [easL]
  | [], _ :: _ => by simp [easL]
  | _ :: _, [] => by simp [easL]
  | t :: L, u :: K => by
    simp only [easL, Bool.and_eq_true, easL_iff (L := L) (K := K), List.length_cons, Nat.add_right_cancel_iff]
    constructor
    · rintro ⟨h1, h2, h3⟩
      refine ⟨h2, fun k => ?_⟩
      cases k with
      | zero => intro a b ha hb; simp at ha hb; subst ha; subst hb; exact h1
      | succ k => intro a b ha hb; exact h3 k a b (by simpa using ha) (by simpa using hb)
    · rintro ⟨h1, h2⟩
      exact ⟨h2 0 t u rfl rfl, h1, fun k a b ha hb => h2 (k + 1) a b (by simpa using ha) (by simpa using hb)⟩
theorem easT_iff {t u : Ta} : easT t u = true ↔ (t.first ≤ u.first ∧ t.gap ≤ u.gap ∧ u.jit ≤ t.jit) ∧ t.pri = u.pri ∧ t.dl ≤ u.dl ∧ easP t.pcs u.pcs = true := by
  simp only [easT, loosB, Bool.and_eq_true, decide_eq_true_eq]
end Go.Proofs.Ytmahagcghpoekaa
namespace Go.Proofs.Ytmahagcghpoekaa
open Go.RowKit
set_option linter.unusedSimpArgs false
set_option linter.unusedVariables false
structure Eased (t u : Ta) : Prop where
  pri : u.pri = t.pri
  first : t.first ≤ u.first ∧ u.first ≤ 10000
  gap : t.gap ≤ u.gap ∧ u.gap ≤ 10000
  jit : 0 ≤ u.jit ∧ u.jit ≤ t.jit
  dl : t.dl ≤ u.dl ∧ u.dl ≤ u.gap
  pl : u.pcs.length = t.pcs.length
  pc : ∀ (i : Nat) (p q : P2), t.pcs[i]? = some p → u.pcs[i]? = some q → q.2 = p.2 ∧ 1 ≤ q.1 ∧ q.1 ≤ p.1
def EasedL (L K : List Ta) : Prop := K.length = L.length ∧ ∀ (k : Nat) (t u : Ta), L[k]? = some t → K[k]? = some u → Eased t u
theorem Eased.refl {L : List Ta} (hv : ValidT L) {t : Ta} (h : t ∈ L) : Eased t t :=
  ⟨rfl, ⟨Int.le_refl _, (hv.first t h).2⟩, ⟨Int.le_refl _, (hv.gap t h).2⟩, ⟨(hv.jit t h).1, Int.le_refl _⟩, ⟨Int.le_refl _, (hv.dl t h).2⟩, rfl, fun i p q h1 h2 => by
    rw [h1] at h2; simp at h2; subst h2
    exact ⟨rfl, (hv.r.piece t h p (List.mem_of_getElem? h1)).1.1, Int.le_refl _⟩⟩
theorem EasedL.refl {L : List Ta} (hv : ValidT L) : EasedL L L := ⟨rfl, fun k t u h1 h2 => by rw [h1] at h2; simp at h2; subst h2; exact Eased.refl hv (List.mem_of_getElem? h1)⟩
theorem EasedL.set {L K : List Ta} (h : EasedL L K) {k : Nat} {u u' : Ta} (hu : K[k]? = some u) (hs : ∀ t, Eased t u → Eased t u') : EasedL L (K.set k u') := by
  refine ⟨by simpa using h.1, fun m t x h1 h2 => ?_⟩
  rw [List.getElem?_set] at h2
  split at h2
  · rename_i e; subst e
    split at h2
    · simp at h2; subst h2; exact hs t (h.2 _ t u h1 hu)
    · simp at h2
  · exact h.2 m t x h1 h2
theorem EasedL.eas {L K : List Ta} (h : EasedL L K) : easL L K = true := by
  refine easL_iff.2 ⟨h.1.symm, fun k t u h1 h2 => ?_⟩
  have e := h.2 k t u h1 h2
  refine easT_iff.2 ⟨⟨e.first.1, e.gap.1, e.jit.2⟩, e.pri.symm, e.dl.1, easP_iff.2 ⟨e.pl.symm, fun i p q h3 h4 => ?_⟩⟩
  have := e.pc i p q h3 h4
  exact ⟨this.1.symm, this.2.2⟩
theorem EasedL.mem {L K : List Ta} (h : EasedL L K) {u : Ta} (hu : u ∈ K) : ∃ t, t ∈ L ∧ Eased t u := by
  obtain ⟨k, hk⟩ := List.getElem?_of_mem hu
  have hlt := (List.getElem?_eq_some_iff.1 hk).1
  rw [h.1] at hlt
  exact ⟨L[k], List.getElem_mem hlt, h.2 k _ u (List.getElem?_eq_getElem hlt) hk⟩
theorem EasedL.valid {L K : List Ta} (h : EasedL L K) (hv : ValidT L) : validL K = true := by
  have hpc : ∀ {t u : Ta}, t ∈ L → Eased t u → ∀ q ∈ u.pcs, (1 ≤ q.1 ∧ q.1 ≤ 200) ∧ (-1 ≤ q.2 ∧ q.2 ≤ 5) := fun {t u} ht e q hq => by
    obtain ⟨i, hi⟩ := List.getElem?_of_mem hq
    have hlt := (List.getElem?_eq_some_iff.1 hi).1
    rw [e.pl] at hlt
    have h3 := e.pc i _ q (List.getElem?_eq_getElem hlt) hi
    have h4 := hv.r.piece t ht _ (List.getElem_mem hlt)
    omega
  unfold validL
  rw [Bool.and_eq_true, List.all_eq_true]
  constructor
  · unfold rightB
    rw [Bool.and_eq_true, decide_eq_true_eq, List.all_eq_true]
    refine ⟨by rw [h.1]; exact hv.r.len, fun u hu => ?_⟩
    obtain ⟨t, ht, e⟩ := h.mem hu
    have h1 := hv.r.pri t ht
    have h2 := hv.r.pcs t ht
    have h3 := e.pri
    have h4 := e.pl
    unfold taskB
    rw [Bool.and_eq_true, Bool.and_eq_true, inB_iff, inB_iff, List.all_eq_true]
    refine ⟨⟨by omega, by omega⟩, fun q hq => ?_⟩
    have := hpc ht e q hq
    unfold pieceB
    simp only [Bool.and_eq_true, Bool.or_eq_true, inB_iff, beq_iff_eq, decide_eq_true_eq]
    omega
  · intro u hu
    obtain ⟨t, ht, e⟩ := h.mem hu
    have h1 := hv.gap t ht; have h2 := hv.dl t ht; have h3 := hv.first t ht; have h4 := hv.jit t ht
    refine patB_iff.2 ⟨vpat_iff.2 ?_, ?_⟩
    · have := e.first; have := e.gap; have := e.jit; omega
    · have := e.dl; omega
/-- masks -/
theorem mask_bd (x : Int) (m : Nat) (hm : m ≤ 4095) : 0 ≤ bits .and .i64 x (m : Int) ∧ bits .and .i64 x (m : Int) ≤ m := by
  have h2 : (BitVec.ofInt 64 (m : Int)).toNat = m := by
    rw [BitVec.ofInt_natCast, BitVec.toNat_ofNat]; exact Nat.mod_eq_of_lt (by omega)
  have h3 : (BitVec.ofInt 64 x &&& BitVec.ofInt 64 (m : Int)).toNat ≤ m := by
    rw [BitVec.toNat_and, h2]; exact Nat.and_le_right
  have h4 : bits .and .i64 x (m : Int) = ((BitVec.ofInt 64 x &&& BitVec.ofInt 64 (m : Int)).toNat : Int) := by
    show IntKind.i64.wrap ((BitVec.ofInt 64 x &&& BitVec.ofInt 64 (m : Int)).toNat : Int) = _
    exact IntWalk.i64_in _ (by omega)
  omega
theorem mask4095 (x : Int) : ∃ y, bits .and .i64 x 4095 = y ∧ 0 ≤ y ∧ y ≤ 4095 := ⟨_, rfl, mask_bd x 4095 (by omega)⟩
theorem mask255 (x : Int) : ∃ y, bits .and .i64 x 255 = y ∧ 0 ≤ y ∧ y ≤ 255 := ⟨_, rfl, mask_bd x 255 (by omega)⟩
/-- by how much a task is made easier -/
structure E5 where
  x0 : Int
  x1 : Int
  x2 : Int
  x3 : Int
  x4 : Int
deriving Inhabited
def enc5 (u : E5) : List Value := [.int .i64 u.x0, .int .i64 u.x1, .int .i64 u.x2, .int .i64 u.x3, .int .i64 u.x4]
section
open Go.ChangeShapes Go.WideShapes Go.ChangeAt Go.RowKit Go.Joins Go.Deep
end
theorem Rd.ease {w : World} {a : Option Addr} {n : Nat} {xs : List E5} (h : Rd w a n 5 (xs.map enc5)) (k : Nat) (hk : k < n) : ∃ (u : E5) (b off : Nat), a = some ⟨b, off, none⟩ ∧ b < w.heap.size ∧
    w.cell? ⟨b, off + k * 5, none⟩ = some (.int .i64 u.x0) ∧ w.cell? ⟨b, off + k * 5 + 1, none⟩ = some (.int .i64 u.x1) ∧ w.cell? ⟨b, off + k * 5 + 2, none⟩ = some (.int .i64 u.x2) ∧ w.cell? ⟨b, off + k * 5 + 3, none⟩ = some (.int .i64 u.x3) ∧ w.cell? ⟨b, off + k * 5 + 4, none⟩ = some (.int .i64 u.x4) := by
  have hl : k < xs.length := by rw [h.length]; exact hk
  obtain ⟨b, off, rfl, hlt, hc⟩ := h.at_ (by omega)
  have c0 := hc k (by simpa using hl) 0 (by omega)
  have c1 := hc k (by simpa using hl) 1 (by omega)
  have c2 := hc k (by simpa using hl) 2 (by omega)
  have c3 := hc k (by simpa using hl) 3 (by omega)
  have c4 := hc k (by simpa using hl) 4 (by omega)
  simp [enc5] at c0 c1 c2 c3 c4
  exact ⟨xs[k], b, off, rfl, hlt, c0, c1, c2, c3, c4⟩
end Go.Proofs.Ytmahagcghpoekaa
namespace Go.Proofs.Ytmahagcghpoekaa
open Go.RowKit
set_option linter.unusedSimpArgs false
set_option linter.unusedVariables false
theorem EasedL.bd {L K : List Ta} (h : EasedL L K) (hv : ValidT L) {u : Ta} (hu : u ∈ K) : (0 ≤ u.gap ∧ u.gap ≤ 10000) ∧ (0 ≤ u.first ∧ u.first ≤ 10000) ∧ (0 ≤ u.jit ∧ u.jit ≤ 10000) ∧ (0 ≤ u.dl ∧ u.dl ≤ 10000) ∧ u.pcs.length ≤ 8 ∧ ∀ p ∈ u.pcs, 1 ≤ p.1 ∧ p.1 ≤ 200 := by
  obtain ⟨t, ht, e⟩ := h.mem hu
  have h1 := hv.gap t ht; have h2 := hv.dl t ht; have h3 := hv.first t ht; have h4 := hv.jit t ht; have h5 := hv.r.pcs t ht
  have := e.first; have := e.gap; have := e.jit; have := e.dl; have := e.pl
  refine ⟨by omega, by omega, by omega, by omega, by omega, fun p hp => ?_⟩
  obtain ⟨i, hi⟩ := List.getElem?_of_mem hp
  have hlt := (List.getElem?_eq_some_iff.1 hi).1
  rw [e.pl] at hlt
  have h6 := e.pc i _ p (List.getElem?_eq_getElem hlt) hi
  have h7 := hv.r.piece t ht _ (List.getElem_mem hlt)
  omega
theorem Eased.gap' {t u : Ta} (h : Eased t u) {m : Int} (hm : 0 ≤ m) : Eased t { u with gap := min 10000 (u.gap + m) } :=
  ⟨h.pri, h.first, ⟨by have := h.gap; simp only []; omega, by simp only []; omega⟩, h.jit, ⟨h.dl.1, by have := h.gap; have := h.dl; simp only []; omega⟩, h.pl, h.pc⟩
theorem Eased.first' {t u : Ta} (h : Eased t u) {m : Int} (hm : 0 ≤ m) : Eased t { u with first := min 10000 (u.first + m) } :=
  ⟨h.pri, ⟨by have := h.first; simp only []; omega, by simp only []; omega⟩, h.gap, h.jit, h.dl, h.pl, h.pc⟩
theorem Eased.jit' {t u : Ta} (h : Eased t u) {m : Int} (hm : 0 ≤ m) : Eased t { u with jit := max 0 (u.jit - m) } :=
  ⟨h.pri, h.first, h.gap, ⟨by simp only []; omega, by have := h.jit; simp only []; omega⟩, h.dl, h.pl, h.pc⟩
theorem Eased.dl' {t u : Ta} (h : Eased t u) {m : Int} (hm : 0 ≤ m) : Eased t { u with dl := min u.gap (u.dl + m) } :=
  ⟨h.pri, h.first, h.gap, h.jit, ⟨by have := h.dl; simp only []; omega, by simp only []; omega⟩, h.pl, h.pc⟩
theorem Eased.pc' {t u : Ta} (h : Eased t u) {m : Int} (hm : 0 ≤ m) {j : Nat} {p : P2} (hp : u.pcs[j]? = some p) : Eased t { u with pcs := u.pcs.set j (max 1 (p.1 - m), p.2) } := by
  refine ⟨h.pri, h.first, h.gap, h.jit, h.dl, by simp only [List.length_set]; exact h.pl, fun i a b h1 h2 => ?_⟩
  simp only [List.getElem?_set] at h2
  split at h2
  · rename_i e; subst e
    split at h2
    · simp at h2; subst h2
      have := h.pc _ a p h1 hp
      simp only []; omega
    · simp at h2
  · exact h.pc i a b h1 h2
theorem set_get {α : Type} {g : List α} {k : Nat} {x y : α} (h : g[k]? = some x) : (g.set k y)[k]? = some y := by
  have := (List.getElem?_eq_some_iff.1 h).1
  rw [List.getElem?_set_self this]
theorem map_get {g : List TaV} {k : Nat} {t : TaV} (h : g[k]? = some t) : (g.map TaV.ta)[k]? = some t.ta := by rw [List.getElem?_map, h]; rfl
theorem EasedL.setV {L : List Ta} {g : List TaV} (h : EasedL L (g.map TaV.ta)) {k : Nat} {v : TaV} (v' : TaV) (hk : g[k]? = some v) (hs : ∀ t, Eased t v.ta → Eased t v'.ta) : EasedL L ((g.set k v').map TaV.ta) := by
  rw [set_map]; exact h.set (map_get hk) hs
def OutEased (w : World) (n : Nat) (L : List Ta) (e : Ending) (w' : World) : Prop :=
  ∃ a c K, e = .returned (.slice a n c) ∧ RdL w' a n K ∧ EasedL L K ∧ Below w.heap.size w w'
end Go.Proofs.Ytmahagcghpoekaa
namespace Go.Proofs.Ytmahagcghpoekaa
open Go.RowKit
set_option linter.unusedSimpArgs false
set_option linter.unusedVariables false
def firstL (L : List Ta) (F S : Int) : List Int → Int × Int
  | [] => (0, 3)
  | k :: ks => if meetB L F S k then firstL L F S ks else (k, 0)
def firstR (L : List Ta) (F S : Int) : Int × Int := if okB L F S then firstL L F S (rankL L) else (0, 1)
def respsR (L : List Ta) (F S : Int) : List Int × Int := if okB L F S then ((List.range L.length).map (fun k => respN L F S k), 0) else ([], 1)
theorem firstL_cons {L : List Ta} {F S k : Int} {ks : List Int} : firstL L F S (k :: ks) = if meetB L F S k then firstL L F S ks else (k, 0) := rfl
set_option maxHeartbeats 2000000 in
theorem Resps_any (a : Option Addr) (n c : Nat) (L : List Ta) (F S : Int) (w : World) (hL : RdL w a n L) :
    Calls Try.prog 22 #[.slice a n c, .agg #[.int .i64 F, .int .i64 S]] w (OutTE w.heap.size w (respsR L F S).1 (respsR L F S).2) := by
  have hll := hL.length
  have hsm := hL.small
  have HR := Lib.hid hL
  unfold respsR
  cases ho : okB L F S
  · have HO := Lib.hid ho
    clear hL hll ho
    go_enter Try.func22, Try.ntmps22
    go_wp2_with (go_at_call 48; (with_reducible refine (right25_is (HR.out.ext (Below.alloc (Below.refl _ _) (Nat.le_refl _) _)) HO.out).mono ?_); rintro e w1 ⟨rfl, hb1⟩; have B1 := Lib.hid hb1; have c0 := (hb1.cell (p := ⟨w.heap.size, 0, none⟩) (by simp)).trans (show _ = some (.int .i64 F) by simp [go_sem]); have c1 := (hb1.cell (p := ⟨w.heap.size, 1, none⟩) (by simp)).trans (show _ = some (.int .i64 S) by simp [go_sem]); have hz1 := hb1.size; clear hb1)
    go_ret2
    exact .none (Below.then (Below.alloc (Below.refl _ _) (Nat.le_refl _) _) B1.out)
  · have HO := Lib.hid ho
    obtain ⟨hv, hs⟩ := ok_of ho
    have hn5 := hv.r.len
    rw [hll] at hn5
    have HV := Lib.hid hv
    have HS := Lib.hid hs
    rw [if_pos rfl, hll]
    have e1 := E1
    clear hL hll ho hv hs
    go_enter Try.func22, Try.ntmps22
    go_wp2_with (go_at_call 48; (with_reducible refine (right25_is (HR.out.ext (Below.alloc (Below.refl _ _) (Nat.le_refl _) _)) HO.out).mono ?_); rintro e w1 ⟨rfl, hb1⟩; have B1 := Lib.hid hb1; have c0 := (hb1.cell (p := ⟨w.heap.size, 0, none⟩) (by simp)).trans (show _ = some (.int .i64 F) by simp [go_sem]); have c1 := (hb1.cell (p := ⟨w.heap.size, 1, none⟩) (by simp)).trans (show _ = some (.int .i64 S) by simp [go_sem]); have hz1 := hb1.size; clear hb1)
    simp only [World.size_alloc] at hz1
    go_loopw [6, 14] (fun v i wr => ∃ (k : Nat) (a' : Option Addr) (c' : Nat), k ≤ n ∧ v = .slice a' k c' ∧ i = .int .i64 k ∧ wr.ownsRow w1.heap.size 3 1 (.slice a' k c') k (((List.range k).map (fun k => respN L F S k)).flatMap enc1) ∧ Below w1.heap.size w1 wr) (fun _ i _ => n - (intOf i).toNat)
    case atStart => exact ⟨0, none, 0, Nat.zero_le _, rfl, rfl, World.ownsRow_nil _ _ _ _, Below.refl _ _⟩
    case round =>
      obtain ⟨k, a', c', hk, rfl, rfl, ho, hB⟩ := hrel
      have HO2 := Lib.hid ho; have HB := Lib.hid hB; have HBW : Hid (Below w.heap.size w wr) := Lib.hid (Below.then (Below.then (Below.alloc (Below.refl _ _) (Nat.le_refl _) _) B1.out) hB)
      have d0 := (hB.cell (p := ⟨w.heap.size, 0, none⟩) (by simp only []; omega)).trans c0
      have d1 := (hB.cell (p := ⟨w.heap.size, 1, none⟩) (by simp only []; omega)).trans c1
      clear ho hB
      by_cases hlt : k < n
      · obtain ⟨x, hx⟩ : ∃ x, respN L F S k = x := ⟨_, rfl⟩
        have HX := Lib.hid hx
        clear hx
        go_wp2_with (first | (go_at_call 51; (with_reducible refine (resp_is ((((HR.out.ext (Below.alloc (Below.refl _ _) (Nat.le_refl _) _)).ext B1.out).ext HB.out)) HV.out HS.out hlt HX.out).mono ?_); rintro e w3 ⟨rfl, hb3⟩; have B3 := Lib.hid hb3; have HO3 := Lib.hid (owns_ext HO2.out hb3); have hz3 : w1.heap.size ≤ w3.heap.size := (by have := hb3.size; have := HB.out.size; omega); clear hb3) | (at_builtin; refine wpList_push (B := w1.heap.size) rfl _ _ _ rfl e1 rfl HO3.out rfl rfl (by intro u hu; simp at hu; rcases hu with rfl; rfl) (by omega) (by decide) hz3 ?_; intro a4 c4 w4 hown4 hb4; have HO4 := Lib.hid (ownsI_snoc hown4); have HB4 := Lib.hid hb4; clear hown4 hb4))
        go_roundw
        case rel =>
          refine ⟨k + 1, a4, c4, by omega, by go_num, by go_num, ?_, (Below.then HB.out B3.out).trans HB4.out⟩
          rw [List.range_succ, List.map_append, List.map_singleton, HX.out]; exact HO4.out
        case measure => simp [intOf]; omega
      · obtain rfl : k = n := by omega
        go_wp2
        go_ret2
        exact ⟨_, _, _, rfl, owns_mono HO2.out (Nat.le_of_lt hz1), HBW.out⟩
end Go.Proofs.Ytmahagcghpoekaa
