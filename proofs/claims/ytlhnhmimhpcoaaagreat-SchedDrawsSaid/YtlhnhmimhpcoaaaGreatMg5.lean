/- Plain facts: supplies, costs, demands, windows. No condition: plain lemmas. Contracts of the functions of arrive and of its reference that only compute with numbers. No condition beyond those that each contract names. Plain facts: validity, demands, windows, who meets. No condition: plain lemmas. The contracts of Valid of supply and of its reference. The conditions: numbers in range where named. The contracts of Valid and Least of supply and of its reference. The conditions: numbers in range where named. The contract of ranksOf of the program. The conditions: the tasks read as named. -/
import Derived.Test.YtlhnhmimhpcoaaaGreatMg1
import Derived.Test.YtlhnhmimhpcoaaaGreatMg3
import Derived.Deep.RegionHeld3
import Derived.Test.YtlhnhmimhpcoaaaGreatMg4
namespace Go.Proofs.YtlhnhmimhpcoaaaGreat
open Go.RowKit
set_option linter.unusedSimpArgs false
set_option linter.unusedVariables false
/-- the program's ticks ahead of a moment -/
def aheadS (F S t : Int) : Int := t / F * (F - S) + max (t % F - S) 0
def supB (F S : Int) : Bool := inB F 1 60 && inB S 0 (F - 1)
theorem aheadS_step {F S : Int} (h0 : 0 ≤ S) (h1 : S < F) (t : Nat) : aheadS F S ((t : Int) + 1) = aheadS F S t + (if S ≤ (t : Int) % F then 1 else 0) := by
  unfold aheadS
  have hF : 0 < F := by omega
  have e := Int.emod_add_mul_ediv (t : Int) F
  have hr0 := Int.emod_nonneg (t : Int) (show F ≠ 0 by omega)
  have hr1 := Int.emod_lt_of_pos (t : Int) hF
  by_cases hlast : (t : Int) % F + 1 = F
  · have hd : ((t : Int) + 1) / F = (t : Int) / F + 1 := by
      have : (t : Int) + 1 = F * ((t : Int) / F + 1) := by rw [Int.mul_add]; omega
      rw [this, Int.mul_ediv_cancel_left _ (by omega)]
    have hm : ((t : Int) + 1) % F = 0 := by
      have : (t : Int) + 1 = F * ((t : Int) / F + 1) := by rw [Int.mul_add]; omega
      rw [this]; exact Int.mul_emod_right _ _
    rw [hd, hm, Int.add_mul, if_pos (by omega), Int.one_mul]
    omega
  · have hd : ((t : Int) + 1) / F = (t : Int) / F := by
      have : (t : Int) + 1 = ((t : Int) % F + 1) + F * ((t : Int) / F) := by omega
      rw [this, Int.add_mul_ediv_left _ _ (by omega), Int.ediv_eq_zero_of_lt (by omega) (by omega), Int.zero_add]
    have hm : ((t : Int) + 1) % F = (t : Int) % F + 1 := by
      have e2 := Int.emod_add_mul_ediv ((t : Int) + 1) F
      rw [hd] at e2; omega
    rw [hd, hm]
    split <;> omega
theorem aheadS_zero {F S : Int} (h0 : 0 ≤ S) : aheadS F S 0 = 0 := by unfold aheadS; simp; omega
theorem aheadS_mono {F S : Int} (h0 : 0 ≤ S) (h1 : S < F) (t d : Nat) : aheadS F S t ≤ aheadS F S ((t : Int) + d) ∧ aheadS F S ((t : Int) + d) ≤ aheadS F S t + d := by
  induction d with
  | zero => simp
  | succ d ih =>
    have := aheadS_step h0 h1 (t + d)
    rw [show ((t + d : Nat) : Int) = (t : Int) + d by omega] at this
    rw [show (t : Int) + ((d + 1 : Nat) : Int) = (t : Int) + d + 1 by omega, this]
    split <;> omega
theorem aheadS_bd {F S : Int} (h0 : 0 ≤ S) (h1 : S < F) (t : Nat) : 0 ≤ aheadS F S t ∧ aheadS F S t ≤ t := by
  have := aheadS_mono h0 h1 0 t
  simp [aheadS_zero h0] at this
  simpa using this
theorem aheadS_period {F S : Int} (hF : 0 < F) (t q : Int) : aheadS F S (t + q * F) = aheadS F S t + q * (F - S) := by
  unfold aheadS
  rw [Int.add_mul_ediv_right _ _ (by omega), Int.add_mul_emod_self_right, Int.add_mul]; omega
/-- what lies in a window that begins at k -/
def diffS (F S w : Int) (k : Nat) : Int := aheadS F S ((k : Int) + w) - aheadS F S k
def leastFrom (F S w : Int) : Nat → Nat → Int → Int
  | 0, _, m => m
  | f + 1, k, m => leastFrom F S w f (k + 1) (min m (diffS F S w k))
def leastN (F S w : Int) : Int := leastFrom F S w F.toNat 0 w
theorem leastFrom_le {F S w : Int} : ∀ (f k : Nat) (m : Int), leastFrom F S w f k m ≤ m ∧ ∀ j, k ≤ j → j < k + f → leastFrom F S w f k m ≤ diffS F S w j
  | 0, k, m => ⟨by simp [leastFrom], fun j h1 h2 => by omega⟩
  | f + 1, k, m => by
    obtain ⟨h1, h2⟩ := leastFrom_le (F := F) (S := S) (w := w) f (k + 1) (min m (diffS F S w k))
    rw [leastFrom]
    refine ⟨by omega, fun j hj hjf => ?_⟩
    by_cases e : j = k
    · subst e; omega
    · exact h2 j (by omega) (by omega)
theorem leastFrom_is {F S w : Int} : ∀ (f k : Nat) (m : Int), leastFrom F S w f k m = m ∨ ∃ j, k ≤ j ∧ j < k + f ∧ leastFrom F S w f k m = diffS F S w j
  | 0, k, m => .inl rfl
  | f + 1, k, m => by
    rw [leastFrom]
    rcases leastFrom_is (F := F) (S := S) (w := w) f (k + 1) (min m (diffS F S w k)) with h | ⟨j, h1, h2, h3⟩
    · rw [h]
      by_cases q : m ≤ diffS F S w k
      · left; omega
      · right; exact ⟨k, by omega, by omega, by omega⟩
    · exact .inr ⟨j, by omega, by omega, h3⟩
structure IsLeast (F S w m : Int) : Prop where
  le : ∀ j : Nat, (j : Int) < F → m ≤ diffS F S w j
  is : ∃ j : Nat, (j : Int) < F ∧ m = diffS F S w j
theorem diffS_le {F S : Int} (h0 : 0 ≤ S) (h1 : S < F) (w k : Nat) : 0 ≤ diffS F S w k ∧ diffS F S w k ≤ w := by
  have := aheadS_mono h0 h1 k w
  unfold diffS; omega
theorem isLeast {F S : Int} (h0 : 0 ≤ S) (h1 : S < F) (w : Nat) : IsLeast F S w (leastN F S w) := by
  obtain ⟨h2, h3⟩ := leastFrom_le (F := F) (S := S) (w := w) F.toNat 0 w
  refine ⟨fun j hj => h3 j (by omega) (by omega), ?_⟩
  rcases leastFrom_is (F := F) (S := S) (w := w) F.toNat 0 w with h | ⟨j, _, hj, h⟩
  · refine ⟨0, by omega, ?_⟩
    have h4 := h3 0 (by omega) (by omega)
    have h5 := (diffS_le h0 h1 w 0).2
    unfold leastN; omega
  · exact ⟨j, by omega, h⟩
theorem IsLeast.unique {F S w m m' : Int} (h : IsLeast F S w m) (k : IsLeast F S w m') : m = m' := by
  obtain ⟨j, hj, e⟩ := h.is
  obtain ⟨i, hi, e2⟩ := k.is
  have := h.le i hi
  have := k.le j hj
  omega
/-- as the program looks for it -/
theorem least_from_first {F S : Int} (h0 : 0 ≤ S) (h1 : S < F) (w : Nat) : leastFrom F S w (F.toNat - 1) 1 (diffS F S w 0) = leastN F S w := by
  unfold leastN
  rw [show F.toNat = (F.toNat - 1) + 1 by omega, leastFrom]
  have h5 := (diffS_le h0 h1 w 0).2
  rw [show min (w : Int) (diffS F S w 0) = diffS F S w 0 by omega]
  simp
theorem least_bd {F S : Int} (h0 : 0 ≤ S) (h1 : S < F) (w : Nat) : 0 ≤ leastN F S w ∧ leastN F S w ≤ w := by
  obtain ⟨j, hj, e⟩ := (isLeast h0 h1 w).is
  have := diffS_le h0 h1 w j
  omega
theorem least_succ {F S : Int} (h0 : 0 ≤ S) (h1 : S < F) (w : Nat) : leastN F S w ≤ leastN F S ((w + 1 : Nat) : Int) ∧ leastN F S ((w + 1 : Nat) : Int) ≤ leastN F S w + 1 := by
  have hs : ∀ j : Nat, diffS F S w j ≤ diffS F S ((w + 1 : Nat) : Int) j ∧ diffS F S ((w + 1 : Nat) : Int) j ≤ diffS F S w j + 1 := fun j => by
    have := aheadS_step h0 h1 (j + w)
    rw [show ((j + w : Nat) : Int) + 1 = (j : Int) + ((w + 1 : Nat) : Int) by omega, show ((j + w : Nat) : Int) = (j : Int) + (w : Int) by omega] at this
    unfold diffS
    rw [this]
    split <;> omega
  constructor
  · obtain ⟨j, hj, e⟩ := (isLeast h0 h1 (w + 1)).is
    have := (isLeast h0 h1 w).le j hj
    have := (hs j).1
    omega
  · obtain ⟨j, hj, e⟩ := (isLeast h0 h1 w).is
    have := (isLeast h0 h1 (w + 1)).le j hj
    have := (hs j).2
    omega
theorem least_zero {F S : Int} (h0 : 0 ≤ S) (h1 : S < F) : leastN F S 0 = 0 := by
  have := least_bd h0 h1 0
  simp at this; omega
/-- costs -/
def costP : List P2 → Int
  | [] => 0
  | p :: ps => p.1 + costP ps
def costT (t : Ta) : Int := costP t.pcs
theorem costP_drop {ps : List P2} {k : Nat} {p : P2} (h : ps[k]? = some p) : costP (ps.drop k) = p.1 + costP (ps.drop (k + 1)) := by
  obtain ⟨h1, h2⟩ := List.getElem?_eq_some_iff.1 h
  rw [List.drop_eq_getElem_cons h1, h2, costP]
theorem costP_bd : ∀ (ps : List P2), (∀ p ∈ ps, 1 ≤ p.1 ∧ p.1 ≤ 200) → (ps.length : Int) ≤ costP ps ∧ costP ps ≤ 200 * ps.length
  | [], _ => by simp [costP]
  | p :: ps, h => by
    have h1 := costP_bd ps (fun q hq => h q (by simp [hq]))
    have h2 := h p (by simp)
    rw [costP, List.length_cons]
    omega
theorem costT_bd {L : List Ta} (hv : Right L) {t : Ta} (h : t ∈ L) : 1 ≤ costT t ∧ costT t ≤ 1600 := by
  have := costP_bd t.pcs (fun p hp => (hv.piece t h p hp).1)
  have := hv.pcs t h
  unfold costT; omega
end Go.Proofs.YtlhnhmimhpcoaaaGreat
namespace Go.Proofs.YtlhnhmimhpcoaaaGreat
open Go.RowKit
set_option linter.unusedSimpArgs false
set_option linter.unusedVariables false
theorem within_any (n a b : Int) (w : World) : Calls Tryz.prog 100 #[.int .i64 n, .int .i64 a, .int .i64 b] w fun e w' => e = .returned (.bool (inB n a b)) ∧ w = w' := by
  go_enter Tryz.func100, Tryz.ntmps100
  go_wp2
  all_goals (go_ret; exact ⟨ret_bool (by rw [inB_eq]; simp [*]; try omega), rfl⟩)
theorem in_any (n a b : Int) (w : World) : Calls Tryz.prog 105 #[.int .i64 n, .int .i64 a, .int .i64 b] w fun e w' => e = .returned (.bool (inB n a b)) ∧ w = w' := by
  go_enter Tryz.func105, Tryz.ntmps105
  go_wp2
  all_goals (go_ret; exact ⟨ret_bool (by rw [inB_eq]; simp [*]; try omega), rfl⟩)
/-- a pattern, a clock as values -/
abbrev patV (f g j : Int) : Value := .agg #[.int .i64 f, .int .i64 g, .int .i64 j]
def vpat (f g j : Int) : Bool := inB f 0 10000 && inB g 1 10000 && inB j 0 10000
theorem vpat_iff {f g j : Int} : vpat f g j = true ↔ (0 ≤ f ∧ f ≤ 10000) ∧ (1 ≤ g ∧ g ≤ 10000) ∧ (0 ≤ j ∧ j ≤ 10000) := by
  simp [vpat, inB_iff, and_assoc]
theorem valid_any (f g j : Int) (w : World) : Calls Tryz.prog 65 #[patV f g j] w fun e w' => e = .returned (.bool (vpat f g j)) ∧ Below w.heap.size w w' := by
  go_enter Tryz.func65, Tryz.ntmps65
  go_wp2_with (go_at_call 100; refine (within_any _ _ _ _).mono ?_; rintro e w1 ⟨rfl, rfl⟩)
  all_goals (go_ret; exact ⟨ret_bool (by simp [vpat, *]), by (repeat' (first | (with_reducible exact Below.refl _ _) | (with_reducible assumption) | (with_reducible refine Below.alloc ?_ ?_ _) | (with_reducible refine Below.drew ?_) | (with_reducible refine Below.draws ?_ _) | (with_reducible refine Below.setCell ?_ ?_ _) | (refine Below.then ?_ (by with_reducible assumption)) | go_size))⟩)
theorem rvalid_any (f g j : Int) (w : World) : Calls Tryz.prog 70 #[patV f g j] w fun e w' => e = .returned (.bool (vpat f g j)) ∧ Below w.heap.size w w' := by
  go_enter Tryz.func70, Tryz.ntmps70
  go_wp2_with (go_at_call 105; refine (in_any _ _ _ _).mono ?_; rintro e w1 ⟨rfl, rfl⟩)
  all_goals (go_ret; exact ⟨ret_bool (by simp [vpat, *]), by (repeat' (first | (with_reducible exact Below.refl _ _) | (with_reducible assumption) | (with_reducible refine Below.alloc ?_ ?_ _) | (with_reducible refine Below.drew ?_) | (with_reducible refine Below.draws ?_ _) | (with_reducible refine Below.setCell ?_ ?_ _) | (refine Below.then ?_ (by with_reducible assumption)) | go_size))⟩)
def vclk (o n d : Int) : Bool := inB o (-1000000) 1000000 && inB n 1 1000 && inB d 1 1000
theorem vclk_iff {o n d : Int} : vclk o n d = true ↔ (-1000000 ≤ o ∧ o ≤ 1000000) ∧ (1 ≤ n ∧ n ≤ 1000) ∧ (1 ≤ d ∧ d ≤ 1000) := by
  simp [vclk, inB_iff, and_assoc]
def mostN (g j win : Int) : Int := if win = 0 then 0 else (win - 1 + j) / g + 1
theorem quo_bd {a g m : Int} (h0 : 0 ≤ a) (hm : a ≤ m) (hg : 1 ≤ g) : 0 ≤ a / g ∧ a / g ≤ m :=
  ⟨Int.ediv_nonneg h0 (by omega), Int.le_trans (Int.ediv_le_self _ h0) hm⟩
def mostR (f g j win : Int) : Int × Int := if vpat f g j && inB win 0 1000000 then (mostN g j win, 0) else (0, 1)
theorem most_any (f g j win : Int) (w : World) : Calls Tryz.prog 138 #[patV f g j, .int .i64 win] w fun e w' => e = rP (mostR f g j win) ∧ Below w.heap.size w w' := by
  by_cases h : (vpat f g j && inB win 0 1000000) = true
  · rw [mostR, if_pos h]
    obtain ⟨h1, h2⟩ := Bool.and_eq_true_iff.1 h
    obtain ⟨k1, k2, k3⟩ := vpat_iff.1 h1
    obtain ⟨k4, k5⟩ := inB_iff.1 h2
    clear h
    by_cases hz : win = 0
    · subst hz
      go_enter Tryz.func138, Tryz.ntmps138
      go_wp2_with (first | (go_at_call 100; refine (within_any _ _ _ _).mono ?_; rintro e w1 ⟨rfl, rfl⟩) | (go_at_call 65; refine (valid_any _ _ _ _).mono ?_; rintro e w1 ⟨rfl, hb1⟩; obtain ⟨hc1, hf1, hz1, hr1⟩ := bfacts hb1; (try simp only [World.size_alloc, World.size_setCell, World.size_drew, World.size_drewN] at hz1 hr1); (try have hw0 : w.heap.size < w1.heap.size := by omega); (try have hw1 : w.heap.size + 1 < w1.heap.size := by omega); (try have hw2 : w.heap.size + 1 + 1 < w1.heap.size := by omega)))
      go_ret2
      exact ⟨rII_eq (by simp [mostN]) rfl, by (repeat' (first | (with_reducible exact Below.refl _ _) | (with_reducible assumption) | (with_reducible refine Below.alloc ?_ ?_ _) | (with_reducible refine Below.drew ?_) | (with_reducible refine Below.draws ?_ _) | (with_reducible refine Below.setCell ?_ ?_ _) | (refine Below.then ?_ (by with_reducible assumption)) | go_size))⟩
    · have hz' : (win == 0) = false := by simpa using hz
      obtain ⟨q1, q2⟩ := quo_bd (a := win - 1 + j) (g := g) (m := 1010000) (by omega) (by omega) (by omega)
      have hp : 0 ≤ win - 1 + j := by omega
      go_enter Tryz.func138, Tryz.ntmps138
      go_wp2_with (first | (go_at_call 100; refine (within_any _ _ _ _).mono ?_; rintro e w1 ⟨rfl, rfl⟩) | (go_at_call 65; refine (valid_any _ _ _ _).mono ?_; rintro e w1 ⟨rfl, hb1⟩; obtain ⟨hc1, hf1, hz1, hr1⟩ := bfacts hb1; (try simp only [World.size_alloc, World.size_setCell, World.size_drew, World.size_drewN] at hz1 hr1); (try have hw0 : w.heap.size < w1.heap.size := by omega); (try have hw1 : w.heap.size + 1 < w1.heap.size := by omega); (try have hw2 : w.heap.size + 1 + 1 < w1.heap.size := by omega)))
      go_ret2
      exact ⟨rII_eq (by simp [mostN, hz]) rfl, by (repeat' (first | (with_reducible exact Below.refl _ _) | (with_reducible assumption) | (with_reducible refine Below.alloc ?_ ?_ _) | (with_reducible refine Below.drew ?_) | (with_reducible refine Below.draws ?_ _) | (with_reducible refine Below.setCell ?_ ?_ _) | (refine Below.then ?_ (by with_reducible assumption)) | go_size))⟩
  · rw [mostR, if_neg h]
    have H := Lib.hid h; clear h
    go_enter Tryz.func138, Tryz.ntmps138
    go_wp2_with (first | (go_at_call 100; refine (within_any _ _ _ _).mono ?_; rintro e w1 ⟨rfl, rfl⟩) | (go_at_call 65; refine (valid_any _ _ _ _).mono ?_; rintro e w1 ⟨rfl, hb1⟩; obtain ⟨hc1, hf1, hz1, hr1⟩ := bfacts hb1; (try simp only [World.size_alloc, World.size_setCell, World.size_drew, World.size_drewN] at hz1 hr1); (try have hw0 : w.heap.size < w1.heap.size := by omega); (try have hw1 : w.heap.size + 1 < w1.heap.size := by omega); (try have hw2 : w.heap.size + 1 + 1 < w1.heap.size := by omega)))
    all_goals first | (exfalso; have := H.out; simp_all; done) | (go_ret2; exact ⟨rII_eq rfl rfl, by (repeat' (first | (with_reducible exact Below.refl _ _) | (with_reducible assumption) | (with_reducible refine Below.alloc ?_ ?_ _) | (with_reducible refine Below.drew ?_) | (with_reducible refine Below.draws ?_ _) | (with_reducible refine Below.setCell ?_ ?_ _) | (refine Below.then ?_ (by with_reducible assumption)) | go_size))⟩)
end Go.Proofs.YtlhnhmimhpcoaaaGreat
namespace Go.Proofs.YtlhnhmimhpcoaaaGreat
open Go.RowKit
set_option linter.unusedSimpArgs false
set_option linter.unusedVariables false
def patB (t : Ta) : Bool := vpat t.first t.gap t.jit && (decide (1 ≤ t.dl) && decide (t.dl ≤ t.gap))
def validL (L : List Ta) : Bool := rightB L && L.all patB
structure ValidT (L : List Ta) : Prop where
  r : Right L
  rb : rightB L = true
  first : ∀ t ∈ L, 0 ≤ t.first ∧ t.first ≤ 10000
  gap : ∀ t ∈ L, 1 ≤ t.gap ∧ t.gap ≤ 10000
  jit : ∀ t ∈ L, 0 ≤ t.jit ∧ t.jit ≤ 10000
  dl : ∀ t ∈ L, 1 ≤ t.dl ∧ t.dl ≤ t.gap
  vp : ∀ t ∈ L, vpat t.first t.gap t.jit = true
theorem patB_iff {t : Ta} : patB t = true ↔ vpat t.first t.gap t.jit = true ∧ 1 ≤ t.dl ∧ t.dl ≤ t.gap := by
  simp [patB, Bool.and_eq_true]
theorem valid_of {L : List Ta} (h : validL L = true) : ValidT L := by
  unfold validL at h
  rw [Bool.and_eq_true, List.all_eq_true] at h
  have hp := fun t ht => patB_iff.1 (h.2 t ht)
  have hv := fun t ht => vpat_iff.1 (hp t ht).1
  exact ⟨right_of h.1, h.1, fun t ht => (hv t ht).1, fun t ht => (hv t ht).2.1, fun t ht => (hv t ht).2.2, fun t ht => (hp t ht).2, fun t ht => (hp t ht).1⟩
/-- what task j demands in a window -/
def demT (t : Ta) (w : Int) : Int := mostN t.gap t.jit w * costT t
def demL (L : List Ta) (w : Int) (ks : List Int) (n : Int) : Int := ks.foldl (fun n k => n + demT (taAt L k) w) n
def aheadL (L : List Ta) (i : Int) : List Int := (idxs L.length).filter (fun j => aheadB L j i)
def ownN (L : List Ta) (i : Int) : Int := costT (taAt L i) + blockN L i
def demN (L : List Ta) (i w : Int) : Int := demL L w (aheadL L i) (ownN L i)
theorem demL_perm {L : List Ta} {w : Int} {ks js : List Int} (h : ks.Perm js) (n : Int) : demL L w ks n = demL L w js n :=
  h.foldl_eq' (fun x _ y _ z => by omega) n
theorem filter_take {R : Int → Int → Prop} {f : Int → Bool} {l : List Int} {p : Nat} {x : Int} (hl : l.Pairwise R) (has : ∀ a b, R a b → ¬ R b a) (hx : l[p]? = some x) (hf : ∀ y, f y = true ↔ R y x) : l.filter f = l.take p := by
  obtain ⟨hp, e⟩ := List.getElem?_eq_some_iff.1 hx
  have hs : l = l.take p ++ x :: l.drop (p + 1) := by
    have := List.take_append_drop p l
    rw [List.drop_eq_getElem_cons hp, e] at this; exact this.symm
  have hl2 := hl
  rw [hs] at hl2
  obtain ⟨h1, h2, h3⟩ := List.pairwise_append.1 hl2
  have hirr : f x = false := by
    cases q : f x with
    | false => rfl
    | true => exact absurd ((hf x).1 q) (has x x ((hf x).1 q))
  have e1 : (l.take p).filter f = l.take p := List.filter_eq_self.2 (fun y hy => (hf y).2 (h3 y hy x (by simp)))
  have e2 : (l.drop (p + 1)).filter f = [] := List.filter_eq_nil_iff.2 (fun y hy h => has x y ((List.pairwise_cons.1 h2).1 y hy) ((hf y).1 h))
  calc l.filter f = (l.take p ++ x :: l.drop (p + 1)).filter f := by rw [← hs]
    _ = l.take p := by rw [List.filter_append, List.filter_cons_of_neg (by simp [hirr]), e1, e2, List.append_nil]
/-- those ahead are the first of the ranks -/
theorem take_ahead {L : List Ta} {i : Int} (h0 : 0 ≤ i) (h1 : i < L.length) : ((rankL L).take (cnt L i)).Perm (aheadL L i) := by
  rw [← filter_take (rank_pw L) ahead_asym (rank_at h0 h1) (f := fun j => aheadB L j i) (fun y => aheadB_iff)]
  exact (rank_perm L).filter _
theorem demN_take {L : List Ta} {i w : Int} (h0 : 0 ≤ i) (h1 : i < L.length) : demL L w ((rankL L).take (cnt L i)) (ownN L i) = demN L i w := demL_perm (take_ahead h0 h1) _
theorem mostN_mono {g j w v : Int} (hg : 1 ≤ g) (hj : 0 ≤ j) (h0 : 0 ≤ w) (h : w ≤ v) : 0 ≤ mostN g j w ∧ mostN g j w ≤ mostN g j v := by
  unfold mostN
  by_cases hw : w = 0
  · rw [if_pos hw]
    split
    · omega
    · have := Int.ediv_nonneg (a := v - 1 + j) (b := g) (by omega) (by omega)
      omega
  · rw [if_neg hw, if_neg (by omega)]
    have h1 := Int.ediv_nonneg (a := w - 1 + j) (b := g) (by omega) (by omega)
    have h2 := Int.ediv_le_ediv (a := w - 1 + j) (b := v - 1 + j) (c := g) (by omega) (by omega)
    omega
theorem mostN_bd {g j w : Int} (hg : 1 ≤ g) (hj : 0 ≤ j ∧ j ≤ 10000) (h0 : 0 ≤ w ∧ w ≤ 1000000) : 0 ≤ mostN g j w ∧ mostN g j w ≤ 1010001 := by
  unfold mostN
  split
  · omega
  · have := quo_bd (a := w - 1 + j) (g := g) (m := 1010000) (by omega) (by omega) hg
    omega
theorem aheadL_mem {L : List Ta} {i k : Int} : k ∈ aheadL L i ↔ (0 ≤ k ∧ k < L.length) ∧ aheadB L k i = true := by
  unfold aheadL; rw [List.mem_filter, idxs_mem]
theorem taAt_mem' {L : List Ta} {k : Int} (h0 : 0 ≤ k) (h1 : k < L.length) : taAt L k ∈ L := by
  obtain ⟨j, rfl⟩ := Int.eq_ofNat_of_zero_le h0
  rw [taAt_of (List.getElem?_eq_getElem (by omega))]; exact List.getElem_mem (by omega)
theorem demT_bd {L : List Ta} (hv : ValidT L) {t : Ta} (ht : t ∈ L) {w : Int} (h0 : 0 ≤ w ∧ w ≤ 1000000) : 0 ≤ demT t w ∧ demT t w ≤ 1616001600 := by
  have h1 := mostN_bd (hv.gap t ht).1 (hv.jit t ht) h0
  have h2 := costT_bd hv.r ht
  unfold demT
  constructor
  · exact Int.mul_nonneg h1.1 (by omega)
  · have := Int.mul_le_mul h1.2 h2.2 (by omega) (by omega)
    omega
theorem demT_mono {L : List Ta} (hv : ValidT L) {t : Ta} (ht : t ∈ L) {w v : Int} (h0 : 0 ≤ w) (h : w ≤ v) : demT t w ≤ demT t v := by
  have h1 := mostN_mono (hv.gap t ht).1 (hv.jit t ht).1 h0 h
  have h2 := costT_bd hv.r ht
  unfold demT
  exact Int.mul_le_mul_of_nonneg_right h1.2 (by omega)
theorem demL_le {L : List Ta} {w v : Int} : ∀ (ks : List Int) (n m : Int), n ≤ m → (∀ k ∈ ks, demT (taAt L k) w ≤ demT (taAt L k) v) → demL L w ks n ≤ demL L v ks m
  | [], n, m, h, _ => h
  | k :: ks, n, m, h, hk => by
    have h1 := hk k (by simp)
    refine demL_le ks _ _ ?_ (fun j hj => hk j (by simp [hj]))
    show n + demT (taAt L k) w ≤ m + demT (taAt L k) v
    omega
theorem demN_mono {L : List Ta} (hv : ValidT L) {i w v : Int} (h0 : 0 ≤ w) (h : w ≤ v) : demN L i w ≤ demN L i v :=
  demL_le _ _ _ (Int.le_refl _) (fun k hk => demT_mono hv (taAt_mem' (aheadL_mem.1 hk).1.1 (aheadL_mem.1 hk).1.2) h0 h)
theorem demL_bd {L : List Ta} (hv : ValidT L) {w : Int} (h0 : 0 ≤ w ∧ w ≤ 1000000) : ∀ (ks : List Int) (n : Int), (∀ k ∈ ks, 0 ≤ k ∧ k < L.length) → n ≤ demL L w ks n ∧ demL L w ks n ≤ n + 1616001600 * ks.length
  | [], n, _ => by simp [demL]
  | k :: ks, n, hk => by
    have h1 := hk k (by simp)
    have h2 := demT_bd hv (taAt_mem' h1.1 h1.2) h0
    have h3 := demL_bd hv h0 ks (n + demT (taAt L k) w) (fun j hj => hk j (by simp [hj]))
    have e : demL L w (k :: ks) n = demL L w ks (n + demT (taAt L k) w) := rfl
    rw [e, List.length_cons]
    omega
theorem blockN_bd {L : List Ta} (hv : Right L) (t : Int) : 0 ≤ blockN L t ∧ blockN L t ≤ 200 := by
  have key : ∀ (bs : List P2) (m : Int), (∀ b ∈ bs, IsBlk L t b) → 0 ≤ m ∧ m ≤ 200 → 0 ≤ bs.foldl (fun m b => max m (ticksAt L b)) m ∧ bs.foldl (fun m b => max m (ticksAt L b)) m ≤ 200 := by
    intro bs
    induction bs with
    | nil => intro m _ h; exact h
    | cons b bs ih =>
      intro m hb h
      have h1 := hb b (by simp)
      have h2 : 1 ≤ ticksAt L b ∧ ticksAt L b ≤ 200 := by
        have hm := taAt_mem' h1.j0 h1.j1
        have hk := h1.k1
        have hk0 := h1.k0
        have e : (taAt L b.1).pcs[b.2.toNat]? = some ((taAt L b.1).pcs[b.2.toNat]'(by omega)) := List.getElem?_eq_getElem (by omega)
        have := (hv.piece _ hm _ (List.mem_of_getElem? e)).1
        rw [ticksAt, e]; exact this
      refine ih _ (fun c hc => hb c (by simp [hc])) ?_
      show 0 ≤ max m (ticksAt L b) ∧ max m (ticksAt L b) ≤ 200
      omega
  exact key _ 0 (fun b hb => blockL_mem hb) (by omega)
theorem ownN_bd {L : List Ta} (hv : Right L) {i : Int} (h0 : 0 ≤ i) (h1 : i < L.length) : 1 ≤ ownN L i ∧ ownN L i ≤ 1800 := by
  have := blockN_bd hv i
  have := costT_bd hv (taAt_mem' h0 h1)
  unfold ownN; omega
/-- the first window whose Least is enough; 0 without one -/
def winFrom (L : List Ta) (F S i : Int) : Nat → Nat → Int
  | 0, _ => 0
  | f + 1, w => if demN L i w ≤ leastN F S w then (w : Int) else winFrom L F S i f (w + 1)
def winN (L : List Ta) (F S i : Int) : Int := winFrom L F S i 2000 1
theorem winFrom_step {L : List Ta} {F S i : Int} {f w : Nat} : winFrom L F S i (f + 1) w = if demN L i w ≤ leastN F S w then (w : Int) else winFrom L F S i f (w + 1) := rfl
structure IsWin (L : List Ta) (F S i : Int) (f w : Nat) (x : Int) : Prop where
  none_ : x = 0 → ∀ v : Nat, w ≤ v → v < w + f → ¬ demN L i v ≤ leastN F S v
  some_ : x ≠ 0 → ∃ y : Nat, x = y ∧ w ≤ y ∧ y < w + f ∧ demN L i y ≤ leastN F S y ∧ ∀ v : Nat, w ≤ v → v < y → ¬ demN L i v ≤ leastN F S v
theorem isWinFrom {L : List Ta} {F S i : Int} : ∀ (f w : Nat), 1 ≤ w → IsWin L F S i f w (winFrom L F S i f w)
  | 0, w, _ => ⟨fun _ v h1 h2 => by omega, fun h => by simp [winFrom] at h⟩
  | f + 1, w, hw => by
    rw [winFrom_step]
    split
    · rename_i h
      exact ⟨fun e => by omega, fun _ => ⟨w, rfl, Nat.le_refl _, by omega, h, fun v h1 h2 => by omega⟩⟩
    · rename_i h
      obtain ⟨h1, h2⟩ := isWinFrom (L := L) (F := F) (S := S) (i := i) f (w + 1) (by omega)
      refine ⟨fun e v hv hvf => ?_, fun e => ?_⟩
      · by_cases q : v = w
        · subst q; exact h
        · exact h1 e v (by omega) (by omega)
      · obtain ⟨y, hy, k1, k2, k3, k4⟩ := h2 e
        refine ⟨y, hy, by omega, by omega, k3, fun v hv hvy => ?_⟩
        by_cases q : v = w
        · subst q; exact h
        · exact k4 v (by omega) hvy
theorem isWin (L : List Ta) (F S i : Int) : IsWin L F S i 2000 1 (winN L F S i) := isWinFrom 2000 1 (Nat.le_refl _)
theorem winN_bd (L : List Ta) (F S i : Int) : 0 ≤ winN L F S i ∧ winN L F S i ≤ 2000 := by
  by_cases h : winN L F S i = 0
  · omega
  · obtain ⟨y, hy, h1, h2, _⟩ := (isWin L F S i).some_ h
    omega
/-- task i has a response that is at most its deadline -/
def meetB (L : List Ta) (F S i : Int) : Bool := decide (0 < winN L F S i) && decide ((taAt L i).jit + winN L F S i ≤ (taAt L i).dl)
def accFrom (L : List Ta) (F S : Int) : Nat → Nat → Bool
  | 0, _ => true
  | f + 1, i => meetB L F S i && accFrom L F S f (i + 1)
def accB (L : List Ta) (F S : Int) : Bool := accFrom L F S L.length 0
theorem accFrom_iff {L : List Ta} {F S : Int} : ∀ (f i : Nat), accFrom L F S f i = true ↔ ∀ j : Nat, i ≤ j → j < i + f → meetB L F S j = true
  | 0, i => by simp [accFrom]; intro j h1 h2; omega
  | f + 1, i => by
    rw [accFrom, Bool.and_eq_true, accFrom_iff f (i + 1)]
    constructor
    · rintro ⟨h1, h2⟩ j hj hjf
      by_cases e : j = i
      · subst e; exact h1
      · exact h2 j (by omega) (by omega)
    · intro h
      exact ⟨h i (Nat.le_refl _) (by omega), fun j h1 h2 => h j (by omega) (by omega)⟩
theorem accB_iff {L : List Ta} {F S : Int} : accB L F S = true ↔ ∀ j : Nat, j < L.length → meetB L F S j = true := by
  unfold accB; rw [accFrom_iff]
  constructor
  · intro h j hj; exact h j (Nat.zero_le _) (by omega)
  · intro h j _ hj; exact h j (by omega)
end Go.Proofs.YtlhnhmimhpcoaaaGreat
namespace Go.Proofs.YtlhnhmimhpcoaaaGreat
open Go.RowKit
set_option linter.unusedSimpArgs false
set_option linter.unusedVariables false
theorem swithin_any (n a b : Int) (w : World) : Calls Tryz.prog 96 #[.int .i64 n, .int .i64 a, .int .i64 b] w fun e w' => e = .returned (.bool (inB n a b)) ∧ w = w' := by
  go_enter Tryz.func96, Tryz.ntmps96
  go_wp2
  all_goals (go_ret; exact ⟨ret_bool (by rw [inB_eq]; simp [*]; try omega), rfl⟩)
theorem sin_any (n a b : Int) (w : World) : Calls Tryz.prog 104 #[.int .i64 n, .int .i64 a, .int .i64 b] w fun e w' => e = .returned (.bool (inB n a b)) ∧ w = w' := by
  go_enter Tryz.func104, Tryz.ntmps104
  go_wp2
  all_goals (go_ret; exact ⟨ret_bool (by rw [inB_eq]; simp [*]; try omega), rfl⟩)
theorem swithin_is {n a b : Int} {x : Bool} {w : World} (h : inB n a b = x) : Calls Tryz.prog 96 #[.int .i64 n, .int .i64 a, .int .i64 b] w fun e w' => e = .returned (.bool x) ∧ w = w' := by subst h; exact swithin_any n a b w
theorem sin_is {n a b : Int} {x : Bool} {w : World} (h : inB n a b = x) : Calls Tryz.prog 104 #[.int .i64 n, .int .i64 a, .int .i64 b] w fun e w' => e = .returned (.bool x) ∧ w = w' := by subst h; exact sin_any n a b w
theorem supB_iff {F S : Int} : supB F S = true ↔ (1 ≤ F ∧ F ≤ 60) ∧ (0 ≤ S ∧ S ≤ F - 1) := by unfold supB; rw [Bool.and_eq_true, inB_iff, inB_iff]
theorem supV_any (F S : Int) (w : World) : Calls Tryz.prog 57 #[.agg #[.int .i64 F, .int .i64 S]] w fun e w' => e = .returned (.bool (supB F S)) ∧ Below w.heap.size w w' := by
  obtain ⟨x, hx⟩ : ∃ x, inB F 1 60 = x := ⟨_, rfl⟩
  have HX := Lib.hid hx
  unfold supB
  rw [hx]
  cases x
  · clear hx
    go_enter Tryz.func57, Tryz.ntmps57
    go_wp2_with (go_at_call 96; refine (swithin_is HX.out).mono ?_; rintro e w1 ⟨rfl, rfl⟩)
    go_ret
    exact ⟨rfl, by (repeat' (first | (with_reducible exact Below.refl _ _) | (with_reducible assumption) | (with_reducible refine Below.alloc ?_ ?_ _) | (with_reducible refine Below.drew ?_) | (with_reducible refine Below.draws ?_ _) | (with_reducible refine Below.setCell ?_ ?_ _) | (refine Below.then ?_ (by with_reducible assumption)) | go_size))⟩
  · obtain ⟨y, hy⟩ : ∃ y, inB S 0 (F - 1) = y := ⟨_, rfl⟩
    have HY := Lib.hid hy
    rw [hy]
    have hF := inB_iff.1 hx
    clear hx hy
    go_enter Tryz.func57, Tryz.ntmps57
    go_wp2_with (first | (go_at_call 96; (with_reducible refine (swithin_is HX.out).mono ?_); rintro e w1 ⟨rfl, rfl⟩) | (go_at_call 96; (with_reducible refine (swithin_is HY.out).mono ?_); rintro e w1 ⟨rfl, rfl⟩))
    go_ret
    exact ⟨rfl, by (repeat' (first | (with_reducible exact Below.refl _ _) | (with_reducible assumption) | (with_reducible refine Below.alloc ?_ ?_ _) | (with_reducible refine Below.drew ?_) | (with_reducible refine Below.draws ?_ _) | (with_reducible refine Below.setCell ?_ ?_ _) | (refine Below.then ?_ (by with_reducible assumption)) | go_size))⟩
theorem rsupV_any (F S : Int) (w : World) : Calls Tryz.prog 69 #[.agg #[.int .i64 F, .int .i64 S]] w fun e w' => e = .returned (.bool (supB F S)) ∧ Below w.heap.size w w' := by
  obtain ⟨x, hx⟩ : ∃ x, inB F 1 60 = x := ⟨_, rfl⟩
  have HX := Lib.hid hx
  unfold supB
  rw [hx]
  cases x
  · clear hx
    go_enter Tryz.func69, Tryz.ntmps69
    go_wp2_with (go_at_call 104; refine (sin_is HX.out).mono ?_; rintro e w1 ⟨rfl, rfl⟩)
    go_ret
    exact ⟨rfl, by (repeat' (first | (with_reducible exact Below.refl _ _) | (with_reducible assumption) | (with_reducible refine Below.alloc ?_ ?_ _) | (with_reducible refine Below.drew ?_) | (with_reducible refine Below.draws ?_ _) | (with_reducible refine Below.setCell ?_ ?_ _) | (refine Below.then ?_ (by with_reducible assumption)) | go_size))⟩
  · obtain ⟨y, hy⟩ : ∃ y, inB S 0 (F - 1) = y := ⟨_, rfl⟩
    have HY := Lib.hid hy
    rw [hy]
    have hF := inB_iff.1 hx
    clear hx hy
    go_enter Tryz.func69, Tryz.ntmps69
    go_wp2_with (first | (go_at_call 104; (with_reducible refine (sin_is HX.out).mono ?_); rintro e w1 ⟨rfl, rfl⟩) | (go_at_call 104; (with_reducible refine (sin_is HY.out).mono ?_); rintro e w1 ⟨rfl, rfl⟩))
    go_ret
    exact ⟨rfl, by (repeat' (first | (with_reducible exact Below.refl _ _) | (with_reducible assumption) | (with_reducible refine Below.alloc ?_ ?_ _) | (with_reducible refine Below.drew ?_) | (with_reducible refine Below.draws ?_ _) | (with_reducible refine Below.setCell ?_ ?_ _) | (refine Below.then ?_ (by with_reducible assumption)) | go_size))⟩
theorem supV_is {F S : Int} {b : Bool} {w : World} (h : supB F S = b) : Calls Tryz.prog 57 #[.agg #[.int .i64 F, .int .i64 S]] w fun e w' => e = .returned (.bool b) ∧ Below w.heap.size w w' := by subst h; exact supV_any F S w
theorem rsupV_is {F S : Int} {b : Bool} {w : World} (h : supB F S = b) : Calls Tryz.prog 69 #[.agg #[.int .i64 F, .int .i64 S]] w fun e w' => e = .returned (.bool b) ∧ Below w.heap.size w w' := by subst h; exact rsupV_any F S w
end Go.Proofs.YtlhnhmimhpcoaaaGreat
namespace Go.Proofs.YtlhnhmimhpcoaaaGreat
open Go.RowKit
set_option linter.unusedSimpArgs false
set_option linter.unusedVariables false
theorem aheadS_parts {F S : Int} (h1 : 1 ≤ F) (h2 : 0 ≤ S ∧ S ≤ F - 1) {t : Int} (h0 : 0 ≤ t) : 0 ≤ t / F ∧ t / F ≤ t ∧ 0 ≤ t / F * (F - S) ∧ t / F * (F - S) ≤ t ∧ 0 ≤ t % F ∧ t % F < F := by
  have e := Int.emod_add_mul_ediv t F
  have a := Int.ediv_nonneg (a := t) (b := F) h0 (by omega)
  have b := Int.ediv_le_self F h0
  have c := Int.emod_nonneg t (show F ≠ 0 by omega)
  have d := Int.emod_lt_of_pos t (show 0 < F by omega)
  have f := Int.mul_nonneg a (show 0 ≤ F - S by omega)
  have g : t / F * (F - S) ≤ t / F * F := Int.mul_le_mul_of_nonneg_left (by omega) a
  rw [Int.mul_comm (t / F) F] at g
  omega
theorem sahead_any (F S t : Int) (w : World) (h1 : 1 ≤ F ∧ F ≤ 60) (h2 : 0 ≤ S ∧ S ≤ F - 1) (h3 : 0 ≤ t ∧ t ≤ 2000000) :
    Calls Tryz.prog 146 #[.agg #[.int .i64 F, .int .i64 S, .int .i64 (F - S)], .int .i64 t] w fun e w' => e = .returned (.int .i64 (aheadS F S t)) ∧ Below w.heap.size w w' := by
  obtain ⟨q1, q2, q3, q4, q5, q6⟩ := aheadS_parts (F := F) (S := S) h1.1 h2 h3.1
  have hF0 : (F == 0) = false := by simp; omega
  go_enter Tryz.func146, Tryz.ntmps146
  go_wp2_with (refine wp_region_later_lit (by kernel_rfl) (by kernel_rfl) ?_; (repeat (go_big_quiet_step (fail))); refine wpQuiet_nil ?_; intro w3 hb3)
  go_ret
  exact ⟨ret_int (by unfold aheadS; omega), Below.then (Below.alloc (Below.refl _ _) (Nat.le_refl _) _) hb3⟩
theorem program_any (F S : Int) (w : World) (h1 : 1 ≤ F ∧ F ≤ 60) (h2 : 0 ≤ S ∧ S ≤ F - 1) :
    Calls Tryz.prog 139 #[.agg #[.int .i64 F, .int .i64 S]] w fun e w' => e = .returned (.agg #[.int .i64 F, .int .i64 S, .int .i64 (F - S)]) ∧ Below w.heap.size w w' := by
  go_enter Tryz.func139, Tryz.ntmps139
  go_wp2
  refine bodyPost_ret (v := .agg #[.int .i64 F, .int .i64 S, .int .i64 (F - S)]) (by simp [results, Tryz.results139, go_sem]) rfl ⟨rfl, by (repeat' (first | (with_reducible exact Below.refl _ _) | (with_reducible assumption) | (with_reducible refine Below.alloc ?_ ?_ _) | (with_reducible refine Below.drew ?_) | (with_reducible refine Below.draws ?_ _) | (with_reducible refine Below.setCell ?_ ?_ _) | (refine Below.then ?_ (by with_reducible assumption)) | go_size))⟩
theorem diff_parts {F S : Int} (h1 : 1 ≤ F ∧ F ≤ 60) (h2 : 0 ≤ S ∧ S ≤ F - 1) {t : Int} (h0 : 0 ≤ t) : 0 ≤ aheadS F S t ∧ aheadS F S t ≤ t := by
  obtain ⟨k, rfl⟩ := Int.eq_ofNat_of_zero_le h0
  exact aheadS_bd h2.1 (by omega) k
/-- the closure that tells how much lies in a window from a tick on -/
theorem winf_any (F S v : Int) (k : Nat) (p q : Nat) (w : World) (h1 : 1 ≤ F ∧ F ≤ 60) (h2 : 0 ≤ S ∧ S ≤ F - 1) (h3 : 0 ≤ v ∧ v ≤ 1000000) (hk : k ≤ 60)
    (hp : w.cell? ⟨p, 0, none⟩ = some (.int .i64 F) ∧ w.cell? ⟨p, 1, none⟩ = some (.int .i64 S) ∧ w.cell? ⟨p, 2, none⟩ = some (.int .i64 (F - S))) (hq : w.cell? ⟨q, 0, none⟩ = some (.int .i64 v)) (hpw : p < w.heap.size) (hqw : q < w.heap.size) :
    Calls Tryz.prog 145 #[.int .i64 (k : Int), .pointer (some ⟨p, 0, none⟩), .pointer (some ⟨q, 0, none⟩)] w fun e w' => e = .returned (.int .i64 (diffS F S v k)) ∧ Below w.heap.size w w' := by
  obtain ⟨p0, p1, p2⟩ := hp
  have a1 := diff_parts h1 h2 (t := (k : Int)) (by omega)
  have a2 := diff_parts h1 h2 (t := (k : Int) + v) (by omega)
  unfold diffS
  go_enter Tryz.func145, Tryz.ntmps145
  go_wp2_with (refine wp_region_later_lit (by kernel_rfl) (by kernel_rfl) ?_; (repeat (go_big_quiet_step ((go_at_call 146; first | (with_reducible exact later_of (sahead_any F S ((k : Int) + v) _ h1 h2 (by omega))) | (with_reducible exact later_of (sahead_any F S (k : Int) _ h1 h2 (by omega))))))); refine wpQuiet_nil ?_; intro w3 hb3)
  go_ret
  exact ⟨rfl, hb3⟩
/-- what the closure has captured -/
structure WinC (F S v : Int) (p q : Nat) (w : World) : Prop where
  c0 : w.cell? ⟨p, 0, none⟩ = some (.int .i64 F)
  c1 : w.cell? ⟨p, 1, none⟩ = some (.int .i64 S)
  c2 : w.cell? ⟨p, 2, none⟩ = some (.int .i64 (F - S))
  cq : w.cell? ⟨q, 0, none⟩ = some (.int .i64 v)
  hp : p < w.heap.size
  hq : q < w.heap.size
theorem WinC.ext {F S v : Int} {p q : Nat} {w w' : World} (h : WinC F S v p q w) (hb : Below w.heap.size w w') : WinC F S v p q w' :=
  ⟨(hb.cell (p := ⟨p, 0, none⟩) h.hp).trans h.c0, (hb.cell (p := ⟨p, 1, none⟩) h.hp).trans h.c1, (hb.cell (p := ⟨p, 2, none⟩) h.hp).trans h.c2, (hb.cell (p := ⟨q, 0, none⟩) h.hq).trans h.cq, Nat.lt_of_lt_of_le h.hp hb.size, Nat.lt_of_lt_of_le h.hq hb.size⟩
theorem z0 : (0 : Int) = ((0 : Nat) : Int) := rfl
theorem winf_is {F S v x kv : Int} {k p q : Nat} {w : World} (hkv : kv = (k : Int)) (h1 : 1 ≤ F ∧ F ≤ 60) (h2 : 0 ≤ S ∧ S ≤ F - 1) (h3 : 0 ≤ v ∧ v ≤ 1000000) (hk : k ≤ 60) (hc : WinC F S v p q w) (hx : diffS F S v k = x) :
    Calls Tryz.prog 145 #[.int .i64 kv, .pointer (some ⟨p, 0, none⟩), .pointer (some ⟨q, 0, none⟩)] w fun e w' => e = .returned (.int .i64 x) ∧ Below w.heap.size w w' := by
  subst hkv; subst hx; exact winf_any F S v k p q w h1 h2 h3 hk ⟨hc.c0, hc.c1, hc.c2⟩ hc.cq hc.hp hc.hq
theorem less_is {a b : Int} {x : Bool} {w : World} (h : decide (a < b) = x) : Calls Tryz.prog 142 #[.int .i64 a, .int .i64 b] w fun e w' => e = .returned (.bool x) ∧ w = w' := by
  go_enter Tryz.func142, Tryz.ntmps142
  go_wp2
  go_ret
  exact ⟨rfl, rfl⟩
theorem window_any (F S v : Int) (w : World) :
    Calls Tryz.prog 141 #[.agg #[.int .i64 F, .int .i64 S, .int .i64 (F - S)], .int .i64 v] w fun e w' => ∃ p q, e = .returned (.func (.func 145) #[] #[.pointer (some ⟨p, 0, none⟩), .pointer (some ⟨q, 0, none⟩)]) ∧ WinC F S v p q w' ∧ Below w.heap.size w w' := by
  go_enter Tryz.func141, Tryz.ntmps141
  go_wp2
  go_ret
  exact ⟨_, _, rfl, ⟨by simp [go_sem], by simp [go_sem], by simp [go_sem], by simp [go_sem], by simp; omega, by simp⟩, by (repeat' (first | (with_reducible exact Below.refl _ _) | (with_reducible assumption) | (with_reducible refine Below.alloc ?_ ?_ _) | (with_reducible refine Below.drew ?_) | (with_reducible refine Below.draws ?_ _) | (with_reducible refine Below.setCell ?_ ?_ _) | (refine Below.then ?_ (by with_reducible assumption)) | go_size))⟩
set_option maxHeartbeats 1000000 in
theorem extreme_any (F S v : Int) (p q : Nat) (w : World) (h1 : 1 ≤ F ∧ F ≤ 60) (h2 : 0 ≤ S ∧ S ≤ F - 1) (h3 : 0 ≤ v ∧ v ≤ 1000000) (hc : WinC F S v p q w) :
    Calls Tryz.prog 140 #[.agg #[.int .i64 F, .int .i64 S, .int .i64 (F - S)], .func (.func 145) #[] #[.pointer (some ⟨p, 0, none⟩), .pointer (some ⟨q, 0, none⟩)], .func (.func 142) #[] #[]] w fun e w' => e = .returned (.int .i64 (leastN F S v)) ∧ Below w.heap.size w w' := by
  obtain ⟨f, rfl⟩ := Int.eq_ofNat_of_zero_le (show 0 ≤ F by omega)
  obtain ⟨x0, hx0⟩ : ∃ x, diffS f S v 0 = x := ⟨_, rfl⟩
  obtain ⟨R, hR⟩ : ∃ R, leastN f S v = R := ⟨_, rfl⟩
  obtain ⟨u, rfl⟩ := Int.eq_ofNat_of_zero_le h3.1
  have HST : Hid (leastFrom f S u (f - 1) 1 x0 = R) := Lib.hid (by rw [← hR, ← hx0, ← least_from_first h2.1 (by omega) u]; rfl)
  rw [hR]
  have HX0 := Lib.hid hx0
  have HC := Lib.hid (hc.ext (Below.alloc (Below.refl _ _) (Nat.le_refl _) (.cells #[.int .i64 f, .int .i64 S, .int .i64 (f - S)] 176)))
  have hf60 : f ≤ 60 := by omega
  have hf1 : 1 ≤ f := by omega
  clear hc hx0 hR
  go_enter Tryz.func140, Tryz.ntmps140
  go_wp2_with (go_at_call 145; (with_reducible refine (winf_is (k := 0) z0 h1 h2 h3 (by omega) HC.out HX0.out).mono ?_); rintro e w1 ⟨rfl, hb1⟩; have B1 := Lib.hid hb1; have c0 := (hb1.cell (p := ⟨w.heap.size, 0, none⟩) (by simp)).trans (show _ = some (.int .i64 (f : Int)) by simp [go_sem]); have hz := hb1.size; clear hb1)
  go_loopw [7, 8] (fun v i wr => ∃ (k : Nat) (m : Int), 1 ≤ k ∧ k ≤ f ∧ v = .int .i64 m ∧ i = .int .i64 k ∧ leastFrom f S u (f - k) k m = R ∧ Below w1.heap.size w1 wr) (fun _ i _ => f - (intOf i).toNat)
  case atStart => exact ⟨1, x0, Nat.le_refl _, hf1, rfl, rfl, HST.out, Below.refl _ _⟩
  case round =>
    clear HST
    obtain ⟨k, m, hk1, hk, rfl, rfl, he, hB⟩ := hrel
    have HE := Lib.hid he; have HB := Lib.hid hB
    have d0 := (hB.cell (p := ⟨w.heap.size, 0, none⟩) (by simp at hz; simp only []; omega)).trans c0
    clear he hB
    by_cases hlt : k < f
    · obtain ⟨x, hx⟩ : ∃ x, diffS f S u k = x := ⟨_, rfl⟩
      have HX := Lib.hid hx
      have hE := HE.out
      rw [show f - k = (f - (k + 1)) + 1 by omega, leastFrom, hx] at hE
      clear hx
      by_cases hxm : x < m
      · have hd : decide (x < m) = true := decide_eq_true hxm
        have HE2 : Hid (leastFrom f S u (f - (k + 1)) (k + 1) x = R) := Lib.hid (by rw [← hE]; congr 1; omega)
        have HD := Lib.hid hd
        clear hd hE
        go_wp2_with (first
          | (go_at_call 145; (with_reducible refine (winf_is (k := k) rfl h1 h2 h3 (by omega) ((HC.out.ext B1.out).ext HB.out) HX.out).mono ?_); rintro e w3 ⟨rfl, hb3⟩; have B3 := Lib.hid hb3; clear hb3)
          | (go_at_call 142; (with_reducible refine (less_is HD.out).mono ?_); rintro e w4 ⟨rfl, rfl⟩))
        go_roundw
        case rel => exact ⟨k + 1, x, by omega, by omega, rfl, by go_num, HE2.out, Below.then HB.out B3.out⟩
        case measure => simp [intOf]; omega
      · have hd : decide (x < m) = false := decide_eq_false hxm
        have HE2 : Hid (leastFrom f S u (f - (k + 1)) (k + 1) m = R) := Lib.hid (by rw [← hE]; congr 1; omega)
        have HD := Lib.hid hd
        clear hd hE
        go_wp2_with (first
          | (go_at_call 145; (with_reducible refine (winf_is (k := k) rfl h1 h2 h3 (by omega) ((HC.out.ext B1.out).ext HB.out) HX.out).mono ?_); rintro e w3 ⟨rfl, hb3⟩; have B3 := Lib.hid hb3; clear hb3)
          | (go_at_call 142; (with_reducible refine (less_is HD.out).mono ?_); rintro e w4 ⟨rfl, rfl⟩))
        go_roundw
        case rel => exact ⟨k + 1, m, by omega, by omega, rfl, by go_num, HE2.out, Below.then HB.out B3.out⟩
        case measure => simp [intOf]; omega
    · have hE := HE.out
      rw [show f - k = 0 by omega, leastFrom] at hE
      subst hE
      go_wp2
      go_ret
      exact ⟨rfl, Below.then (Below.then (Below.alloc (Below.refl _ _) (Nat.le_refl _) _) B1.out) HB.out⟩
/-- what Least gives -/
def lstR (F S v : Int) : Int × Int := if supB F S && inB v 0 1000000 then (leastN F S v, 0) else (0, 1)
set_option maxRecDepth 10000 in
set_option maxHeartbeats 1000000 in
theorem Least_any (F S v : Int) (w : World) : Calls Tryz.prog 130 #[.agg #[.int .i64 F, .int .i64 S], .int .i64 v] w fun e w' => e = rII (lstR F S v).1 (lstR F S v).2 ∧ Below w.heap.size w w' := by
  unfold lstR
  cases hs : supB F S
  · have HS := Lib.hid hs
    clear hs
    go_enter Tryz.func130, Tryz.ntmps130
    go_wp2_with (go_at_call 57; (with_reducible refine (supV_is HS.out).mono ?_); rintro e w1 ⟨rfl, hb1⟩; have B1 := Lib.hid hb1; clear hb1)
    go_ret2
    exact ⟨rII_eq rfl rfl, Below.then (Below.alloc (Below.refl _ _) (Nat.le_refl _) _) B1.out⟩
  · have HS := Lib.hid hs
    obtain ⟨h1, h2⟩ := supB_iff.1 hs
    rw [Bool.true_and]
    cases hv : inB v 0 1000000
    · have HV := Lib.hid hv
      clear hs hv
      go_enter Tryz.func130, Tryz.ntmps130
      go_wp2_with (first
        | (go_at_call 57; (with_reducible refine (supV_is HS.out).mono ?_); rintro e w1 ⟨rfl, hb1⟩; have B1 := Lib.hid hb1; clear hb1)
        | (go_at_call 96; (with_reducible refine (swithin_is HV.out).mono ?_); rintro e w2 ⟨rfl, rfl⟩))
      go_ret2
      exact ⟨rII_eq rfl rfl, Below.then (Below.alloc (Below.refl _ _) (Nat.le_refl _) _) B1.out⟩
    · have HV := Lib.hid hv
      have h3 := inB_iff.1 hv
      rw [if_pos rfl]
      clear hs hv
      go_enter Tryz.func130, Tryz.ntmps130
      go_wp2_with (first
        | (go_at_call 57; (with_reducible refine (supV_is HS.out).mono ?_); rintro e w1 ⟨rfl, hb1⟩; have B1 := Lib.hid hb1; have c0 := (hb1.cell (p := ⟨w.heap.size, 0, none⟩) (by simp)).trans (show _ = some (.int .i64 F) by simp [go_sem]); have c1 := (hb1.cell (p := ⟨w.heap.size, 1, none⟩) (by simp)).trans (show _ = some (.int .i64 S) by simp [go_sem]); have hz1 := hb1.size; clear hb1)
        | (go_at_call 96; (with_reducible refine (swithin_is HV.out).mono ?_); rintro e w2 ⟨rfl, rfl⟩))
      have HW1 : Hid (Below w.heap.size w w1.drew) := Lib.hid (Below.then (Below.alloc (Below.refl _ _) (Nat.le_refl _) _) B1.out).drew
      go_region_held3 (fun w' => w'.cell? ⟨w.heap.size, 0, none⟩ = some (.int .i64 F) ∧ w'.cell? ⟨w.heap.size, 1, none⟩ = some (.int .i64 S))
        (first | go_keep)
        (first
          | (go_at_call 139; (with_reducible refine (program_any F S _ h1 h2).mono ?_); rintro e w3 ⟨rfl, hb3⟩; have B3 := Lib.hid hb3; have k0 := (hb3.cell (p := ⟨w.heap.size, 0, none⟩) (by simp at *; omega)).trans (show _ = some (.int .i64 F) by simp [*]); have k1 := (hb3.cell (p := ⟨w.heap.size, 1, none⟩) (by simp at *; omega)).trans (show _ = some (.int .i64 S) by simp [*]); have hz := hb3.size; clear hb3)
          | (go_at_call 141; (with_reducible refine (window_any F S v _).mono ?_); rintro e w4 ⟨p, q, rfl, hwc, hb4⟩; have HWC := Lib.hid hwc; have B4 := Lib.hid hb4; have k0 := (hb4.cell (p := ⟨w.heap.size, 0, none⟩) (by simp at *; omega)).trans (show _ = some (.int .i64 F) by simp [*]); have k1 := (hb4.cell (p := ⟨w.heap.size, 1, none⟩) (by simp at *; omega)).trans (show _ = some (.int .i64 S) by simp [*]); have hz := hb4.size; clear hb4 hwc)
          | (go_at_call 140; (with_reducible refine (extreme_any F S v p q _ h1 h2 h3 (HWC.out.ext (by repeat (first | (with_reducible exact Below.refl _ _) | (refine Below.then ?_ (Hid.out (by with_reducible assumption))))))).mono ?_); rintro e w5 ⟨rfl, hb5⟩; have B5 := Lib.hid hb5; have k0 := (hb5.cell (p := ⟨w.heap.size, 0, none⟩) (by simp at *; omega)).trans (show _ = some (.int .i64 F) by simp [*]); have k1 := (hb5.cell (p := ⟨w.heap.size, 1, none⟩) (by simp at *; omega)).trans (show _ = some (.int .i64 S) by simp [*]); have hz := hb5.size; clear hb5))
      all_goals
        go_wp2_with fail
        go_ret2
        exact ⟨rII_eq rfl rfl, (by repeat (first | (with_reducible exact Below.refl _ _) | (refine Below.then ?_ (Hid.out (by with_reducible assumption)))))⟩
theorem Least_is {F S v x e : Int} {w : World} (h : lstR F S v = (x, e)) : Calls Tryz.prog 130 #[.agg #[.int .i64 F, .int .i64 S], .int .i64 v] w fun en w' => en = rII x e ∧ Below w.heap.size w w' := by
  have := Least_any F S v w
  rw [h] at this; exact this
theorem lstR_ok {F S : Int} (hs : supB F S = true) {w : Nat} (hw : w ≤ 1000000) : lstR F S w = (leastN F S w, 0) := by
  unfold lstR; rw [hs, show inB (w : Int) 0 1000000 = true from inB_iff.2 (by omega)]; rfl
end Go.Proofs.YtlhnhmimhpcoaaaGreat
namespace Go.Proofs.YtlhnhmimhpcoaaaGreat
open Go.RowKit
set_option linter.unusedSimpArgs false
set_option linter.unusedVariables false
/-- the ranks as the program lays them -/
def ofSet : Nat → List Int → List Int → List Int
  | _, O, [] => O
  | p, O, k :: ks => ofSet (p + 1) (O.set k.toNat (p : Int)) ks
theorem ofSet_len : ∀ (ks : List Int) (p : Nat) (O : List Int), (ofSet p O ks).length = O.length
  | [], _, _ => rfl
  | k :: ks, p, O => by rw [ofSet, ofSet_len ks]; simp
theorem ofSet_get {n : Nat} : ∀ (ks : List Int) (p : Nat) (O : List Int), O.length = n → ks.Nodup → (∀ k ∈ ks, 0 ≤ k ∧ k < n) → ∀ x : Nat, x < n → (ofSet p O ks)[x]? = if (x : Int) ∈ ks then some ((p + ks.idxOf (x : Int) : Nat) : Int) else O[x]?
  | [], p, O, _, _, _, x, _ => by simp [ofSet]
  | k :: ks, p, O, hO, hn, hk, x, hx => by
    obtain ⟨hn1, hn2⟩ := List.nodup_cons.1 hn
    rw [ofSet, ofSet_get ks (p + 1) _ (by simpa using hO) hn2 (fun j hj => hk j (by simp [hj])) x hx]
    obtain ⟨k0, k1⟩ := hk k (by simp)
    by_cases e : (x : Int) = k
    · subst e
      rw [if_neg hn1, if_pos (by simp)]
      rw [List.getElem?_set, if_pos (by simp), if_pos (by rw [hO]; exact hx)]
      simp
    · have e2 : k.toNat ≠ x := by omega
      rw [List.getElem?_set, if_neg e2]
      by_cases hm : (x : Int) ∈ ks
      · rw [if_pos hm, if_pos (by simp [hm]), List.idxOf_cons, show (k == (x : Int)) = false from by simpa using (fun (q : k = (x : Int)) => e q.symm)]
        simp; omega
      · rw [if_neg hm, if_neg (by simp [hm, e])]
theorem rank_nodup (L : List Ta) : (rankL L).Nodup := ((rank_perm L).nodup_iff).2 (idxs_nodup _)
theorem ofSet_eq (L : List Ta) : ofSet 0 (List.replicate L.length 0) (rankL L) = ofL L := by
  apply List.ext_getElem?
  intro x
  by_cases hx : x < L.length
  · have hm : (x : Int) ∈ rankL L := rank_mem.2 ⟨by omega, by omega⟩
    rw [ofSet_get (rankL L) 0 _ (by simp) (rank_nodup L) (fun k hk => rank_mem.1 hk) x hx, if_pos hm, ofL_get hx]
    have h1 : (rankL L).idxOf (x : Int) < (rankL L).length := List.idxOf_lt_length_iff.2 hm
    have h2 : (rankL L)[(rankL L).idxOf (x : Int)]? = some (x : Int) := by rw [List.getElem?_eq_getElem h1, List.getElem_idxOf]
    rw [rank_cnt h2, Nat.zero_add]
  · rw [List.getElem?_eq_none (by rw [ofSet_len]; simp; omega), List.getElem?_eq_none (by unfold ofL; simp [idxs_len]; omega)]
theorem ofSet_step {p : Nat} {O R ks : List Int} {k : Int} (h : ofSet p O (k :: ks) = R) : ofSet (p + 1) (O.set k.toNat p) ks = R := h
theorem layC_step {L : List Ta} {C R ks : List Int} {k : Int} (h : layC L C (k :: ks) = R) : layC L (layP k C (taAt L k).pcs) ks = R := h
theorem Rd.pc_at' {w : World} {a : Option Addr} {n : Nat} {ps : List P2} (h : Rd w a n 2 (ps.map enc2)) (k : Nat) (hk : k < n) : ∃ (x y : Int) (b off : Nat), a = some ⟨b, off, none⟩ ∧ b < w.heap.size ∧
    w.cell? ⟨b, off + k * 2, none⟩ = some (.int .i64 x) ∧ w.cell? ⟨b, off + k * 2 + 1, none⟩ = some (.int .i64 y) ∧ ps[k]? = some (x, y) ∧ Hid (ps.drop k = (x, y) :: ps.drop (k + 1)) := by
  obtain ⟨hl, b, off, rfl, hb, h1, h2⟩ := h.two k hk
  exact ⟨_, _, b, off, rfl, hb, h1, h2, List.getElem?_eq_getElem hl, List.drop_eq_getElem_cons hl⟩
abbrev rkV (a : Option Addr) (n c : Nat) (f : Nat → Int) : Value := .agg #[.slice a n c, .int .i64 (f 0), .int .i64 (f 1), .int .i64 (f 2), .int .i64 (f 3), .int .i64 (f 4), .int .i64 (f 5)]
/-- the boxes of the walk: the row of ranks, the struct's box q, the result's cell -/
structure RkW (w wr : World) (n q : Nat) (O C : List Int) : Prop where
  own : wr.ownsRow (w.heap.size + 1) 3 1 (.slice (some ⟨w.heap.size + 1, 0, none⟩) n n) n (O.flatMap enc1)
  q0 : w.heap.size + 1 < q
  q1 : q < wr.heap.size
  s0 : wr.cell? ⟨q, 0, none⟩ = some (.slice (some ⟨w.heap.size + 1, 0, none⟩) n n)
  cs : ∀ j, j < 6 → wr.cell? ⟨q, 1 + j, none⟩ = some (.int .i64 (cAt C j))
  fz : ∀ j, wr.frozen? ⟨q, j, none⟩ = false
  r0 : wr.cell? ⟨w.heap.size, 0, none⟩ = some (.slice none 0 0)
  rs : ∀ j, j < 6 → wr.cell? ⟨w.heap.size, 1 + j, none⟩ = some (.int .i64 0)
  rf : ∀ j, wr.frozen? ⟨w.heap.size, j, none⟩ = false
  cl : C.length = 6
theorem RkW.ext {w wr w' : World} {n q : Nat} {O C : List Int} (h : RkW w wr n q O C) (hb : Below wr.heap.size wr w') : RkW w w' n q O C :=
  have hq := h.q0
  have hq1 := h.q1
  ⟨owns_ext h.own hb, h.q0, Nat.lt_of_lt_of_le h.q1 hb.size, (hb.cell (p := ⟨q, 0, none⟩) hq1).trans h.s0, fun j hj => (hb.cell (p := ⟨q, 1 + j, none⟩) hq1).trans (h.cs j hj), fun j => (hb.frozen (p := ⟨q, j, none⟩) hq1).trans (h.fz j),
    (hb.cell (p := ⟨w.heap.size, 0, none⟩) (by simp only []; omega)).trans h.r0, fun j hj => (hb.cell (p := ⟨w.heap.size, 1 + j, none⟩) (by simp only []; omega)).trans (h.rs j hj), fun j => (hb.frozen (p := ⟨w.heap.size, j, none⟩) (by simp only []; omega)).trans (h.rf j), h.cl⟩
theorem addr_ne {b b' i j : Nat} (h : b ≠ b' ∨ i ≠ j) : (⟨b, i, none⟩ : Addr) ≠ ⟨b', j, none⟩ := by
  intro q; rcases h with h | h
  · exact h (congrArg Addr.block q)
  · exact h (congrArg Addr.off q)
theorem owns_setBox {w : World} {B e k m n c q j : Nat} {v : Value} {xs : List Value} (h : w.ownsRow B e k (.slice (some ⟨m, 0, none⟩) n c) n xs) (hq : m ≠ q) : (w.setCell ⟨q, j, none⟩ v).ownsRow B e k (.slice (some ⟨m, 0, none⟩) n c) n xs :=
  h.kept (row := some q) ⟨rfl, rfl, rfl, by simp [World.setCell], fun k _ hk => Below.heap_setCell _ _ _ _ (fun e => hk (by simp [e]))⟩ (Or.inr (by simpa [Value.ownBlock] using hq))
theorem RkW.setC {w wr : World} {n q : Nat} {O C : List Int} (h : RkW w wr n q O C) (m : Nat) (hm : m < 6) (x : Int) : RkW w (wr.setCell ⟨q, 1 + m, none⟩ (.int .i64 x)) n q O (C.set m x) := by
  have hq := h.q0
  have hcl := h.cl
  refine ⟨owns_setBox h.own (by omega), h.q0, by simpa using h.q1, (World.cell?_setCell_other _ _ _ _ (addr_ne (.inr (by omega)))).trans h.s0, fun j hj => ?_, fun j => by rw [World.frozen?_setCell]; exact h.fz j,
    (World.cell?_setCell_other _ _ _ _ (addr_ne (.inl (by omega)))).trans h.r0, fun j hj => (World.cell?_setCell_other _ _ _ _ (addr_ne (.inl (by omega)))).trans (h.rs j hj), fun j => by rw [World.frozen?_setCell]; exact h.rf j, by simpa using h.cl⟩
  by_cases e : j = m
  · subst e
    have h1 := h.cs j hj
    have h2 : cAt (C.set j x) j = x := by simp [cAt, List.getElem?_set, hcl, hj]
    rw [h2]
    exact World.cell?_setCell_same _ _ _ (by rw [h1])
  · have h2 : cAt (C.set m x) j = cAt C j := by
      unfold cAt; rw [List.getElem?_set, if_neg (fun q => e q.symm)]
    rw [h2]
    exact (World.cell?_setCell_other _ _ _ _ (addr_ne (.inr (by omega)))).trans (h.cs j hj)
theorem RkW.setO {w wr : World} {n q : Nat} {O C : List Int} (h : RkW w wr n q O C) (k : Nat) (x : Int) : RkW w (wr.setCell ⟨w.heap.size + 1, k, none⟩ (.int .i64 x)) n q (O.set k x) C := by
  have hq := h.q0
  exact ⟨ownsI_set h.own k x, h.q0, by simpa using h.q1, (World.cell?_setCell_other _ _ _ _ (addr_ne (.inl (by omega)))).trans h.s0, fun j hj => (World.cell?_setCell_other _ _ _ _ (addr_ne (.inl (by omega)))).trans (h.cs j hj), fun j => by rw [World.frozen?_setCell]; exact h.fz j,
    (World.cell?_setCell_other _ _ _ _ (addr_ne (.inl (by omega)))).trans h.r0, fun j hj => (World.cell?_setCell_other _ _ _ _ (addr_ne (.inl (by omega)))).trans (h.rs j hj), fun j => by rw [World.frozen?_setCell]; exact h.rf j, h.cl⟩
theorem RkW.alloc {w wr : World} {n q : Nat} {O C : List Int} (h : RkW w wr n q O C) (o : Obj) : RkW w (wr.alloc o) n q O C := h.ext (Below.alloc (Below.refl _ _) (Nat.le_refl _) o)
theorem rep_set {k : Nat} (hk : k < 6) : (List.replicate k (-1) ++ List.replicate (6 - k) (0 : Int)).set k (-1) = List.replicate (k + 1) (-1) ++ List.replicate (6 - (k + 1)) 0 := by
  match k, hk with
  | 0, _ => rfl
  | 1, _ => rfl
  | 2, _ => rfl
  | 3, _ => rfl
  | 4, _ => rfl
  | 5, _ => rfl
theorem cAt_six (j : Nat) (hj : j < 6) : cAt (List.replicate 0 (-1) ++ List.replicate (6 - 0) (0 : Int)) j = 0 := by
  match j, hj with
  | 0, _ => rfl
  | 1, _ => rfl
  | 2, _ => rfl
  | 3, _ => rfl
  | 4, _ => rfl
  | 5, _ => rfl
def OutK (w : World) (n : Nat) (L : List Ta) (e : Ending) (w' : World) : Prop :=
  ∃ a c, e = .returned (rkV a n c (fun k => ceilG L (k : Int))) ∧ w'.ownsRow w.heap.size 3 1 (.slice a n c) n ((ofL L).flatMap enc1) ∧ Below w.heap.size w w'
theorem six_cases {j : Nat} (h : j < 6) : j = 0 ∨ j = 1 ∨ j = 2 ∨ j = 3 ∨ j = 4 ∨ j = 5 := by omega
set_option maxRecDepth 10000 in
set_option maxHeartbeats 4000000 in
theorem ranksOf_any (a : Option Addr) (n c : Nat) (L : List Ta) (w : World) (hL : RdL w a n L) (hv : Right L) :
    Calls Tryz.prog 134 #[.slice a n c] w (OutK w n L) := by
  have hll := hL.length
  have hs := hL.small
  have h5 := hv.len
  rw [hll] at h5
  have HR := Lib.hid hL
  have HLL := Lib.hid hll
  have HV := Lib.hid hv
  obtain ⟨RO, hRO⟩ : ∃ R, ofL L = R := ⟨_, rfl⟩
  obtain ⟨RC, hRC⟩ : ∃ R, layC L (List.replicate 6 (-1)) (rankL L) = R := ⟨_, rfl⟩
  obtain ⟨rk, hrk⟩ : ∃ R, rankL L = R := ⟨_, rfl⟩
  have HOS : Hid (ofSet 0 (List.replicate n 0) (rk.drop 0) = RO) := Lib.hid (by rw [← hRO, ← ofSet_eq, hll, hrk]; rfl)
  have HCS : Hid (layC L (List.replicate 6 (-1)) (rk.drop 0) = RC) := Lib.hid (by rw [← hRC, hrk]; rfl)
  have HCE : Hid (∀ j, j < 6 → cAt RC j = ceilG L (j : Int)) := Lib.hid (fun j hj => by rw [← hRC]; exact layC_ceil hj)
  have HRM : Hid (∀ k ∈ rk, 0 ≤ k ∧ k < n) := Lib.hid (fun k hk => by rw [← hrk] at hk; have := rank_mem.1 hk; rw [hll] at this; exact this)
  have HRL : Hid (rk.length = n) := Lib.hid (by rw [← hrk, rank_len, hll])
  have HRK := Lib.hid hrk
  have HRO := Lib.hid hRO
  clear hL hll hv hrk hRO hRC
  go_enter Tryz.func134, Tryz.ntmps134
  go_wp2_with (at_make; refine wpList_mkI rfl _ _ rfl n rfl rfl rfl rfl (by omega) (Nat.le_refl _) ?_; intro w1 hown1 hb1 hlt1; have HO1 := Lib.hid hown1; have HB1 := Lib.hid hb1; have r0 : w1.cell? ⟨w.heap.size, 0, none⟩ = some (.slice none 0 0) := (hb1.cell (p := ⟨w.heap.size, 0, none⟩) (by simp)).trans (by simp [go_sem]); have rs : ∀ j, j < 6 → w1.cell? ⟨w.heap.size, 1 + j, none⟩ = some (.int .i64 0) := (fun j hj => (hb1.cell (p := ⟨w.heap.size, 1 + j, none⟩) (by simp)).trans (by rcases six_cases hj with rfl | rfl | rfl | rfl | rfl | rfl <;> simp [go_sem])); have rf : ∀ j, w1.frozen? ⟨w.heap.size, j, none⟩ = false := (fun j => (hb1.frozen (p := ⟨w.heap.size, j, none⟩) (by simp)).trans (by simp [go_sem])); have R0 := Lib.hid r0; have RS := Lib.hid rs; have RF := Lib.hid rf; clear hown1 hb1 r0 rs rf)
  simp only [World.size_alloc] at HO1 HB1 hlt1
  have hb0 : Below w.heap.size w w1 := Below.trans (by (repeat' (first | (with_reducible exact Below.refl _ _) | (with_reducible assumption) | (with_reducible refine Below.alloc ?_ ?_ _) | (with_reducible refine Below.drew ?_) | (with_reducible refine Below.draws ?_ _) | (with_reducible refine Below.setCell ?_ ?_ _) | (refine Below.then ?_ (by with_reducible assumption)) | go_size))) (HB1.out.mono (by simp))
  have HB0 := Lib.hid hb0
  have HW : Hid (RkW w (w1.alloc (.cells #[.slice (some ⟨w.heap.size + 1, 0, none⟩) n n, .int .i64 0, .int .i64 0, .int .i64 0, .int .i64 0, .int .i64 0, .int .i64 0] 171)) n w1.heap.size (List.replicate n 0) (List.replicate 0 (-1) ++ List.replicate (6 - 0) 0)) := by
    have hba : Below w1.heap.size w1 (w1.alloc (.cells #[.slice (some ⟨w.heap.size + 1, 0, none⟩) n n, .int .i64 0, .int .i64 0, .int .i64 0, .int .i64 0, .int .i64 0, .int .i64 0] 171)) := Below.alloc (Below.refl _ _) (Nat.le_refl _) _
    refine Lib.hid ⟨owns_ext HO1.out hba, hlt1, by simp, by simp [go_sem], fun j hj => ?_, fun j => by simp [go_sem], (hba.cell (p := ⟨w.heap.size, 0, none⟩) (by simp only []; omega)).trans R0.out, fun j hj => (hba.cell (p := ⟨w.heap.size, 1 + j, none⟩) (by simp only []; omega)).trans (RS.out j hj), fun j => (hba.frozen (p := ⟨w.heap.size, j, none⟩) (by simp only []; omega)).trans (RF.out j), rfl⟩
    rw [cAt_six j hj]
    rcases six_cases hj with rfl | rfl | rfl | rfl | rfl | rfl <;> simp [go_sem]
  clear hb0 R0 RS RF HO1
  obtain ⟨q, hq⟩ : ∃ q, q = w1.heap.size := ⟨_, rfl⟩
  rw [← hq] at HW ⊢
  clear hq
  go_loopw [13] (fun i wr => ∃ k : Nat, k ≤ 6 ∧ i = .int .i64 k ∧ RkW w wr n q (List.replicate n 0) (List.replicate k (-1) ++ List.replicate (6 - k) 0) ∧ Below w.heap.size w wr) (fun i _ => 6 - (intOf i).toNat)
  case atStart => exact ⟨0, Nat.zero_le _, rfl, HW.out, Below.alloc HB0.out (by omega) _⟩
  case round =>
    clear HW
    obtain ⟨k, hk, rfl, hW, hB⟩ := hrel
    have HW := Lib.hid hW; have HB := Lib.hid hB
    have hq0 := hW.q0
    clear hW hB
    by_cases hlt : k < 6
    · have c0 := HW.out.cs k hlt
      have f0 := HW.out.fz (1 + k)
      go_wp2_with (first | go_region)
      go_roundw
      case rel => exact ⟨k + 1, by omega, by go_num, by have := HW.out.setC k hlt (-1); rw [rep_set hlt] at this; exact this, HB.out.setCell (p := ⟨q, 1 + k, none⟩) (by simp only []; omega) _⟩
      case measure => simp [intOf]; omega
    · obtain rfl : k = 6 := by omega
      have HW2 : Hid (RkW w wr n q (List.replicate n 0) (List.replicate 6 (-1))) := Lib.hid (by have := HW.out; simpa using this)
      clear HW
      go_wp2_with (go_at_call 78; (with_reducible refine (ranked_any _ _ _ L _ (HR.out.ext HB.out) (by omega)).mono ?_); rw [HRK.out]; rintro e w2 ⟨a2, c2, rfl, ho2, hb2⟩; have HO2 := Lib.hid ho2; have B2 := Lib.hid hb2; clear ho2 hb2)
      have hB2 : Below w.heap.size w w2 := Below.then HB.out B2.out
      have HB2 := Lib.hid hB2
      have HWW := Lib.hid (HW2.out.ext B2.out)
      obtain ⟨bk, hbk⟩ : ∃ b, b = wr.heap.size := ⟨_, rfl⟩
      rw [← hbk] at HO2
      have hqb : q < bk := by rw [hbk]; exact HW2.out.q1
      clear hB2 hbk B2 HB HW2
      go_loopw [23] (fun i wr => ∃ (p : Nat) (O C : List Int), p ≤ n ∧ i = .int .i64 p ∧ RkW w wr n q O C ∧ wr.ownsRow bk 3 1 (.slice a2 n c2) n (rk.flatMap enc1) ∧ ofSet p O (rk.drop p) = RO ∧ layC L C (rk.drop p) = RC ∧ Below w.heap.size w wr) (fun i _ => n - (intOf i).toNat)
      case atStart => exact ⟨0, _, _, Nat.zero_le _, rfl, HWW.out, HO2.out, HOS.out, HCS.out, HB2.out⟩
      case round =>
        clear HWW HO2 HB2 HOS HCS
        obtain ⟨p, O, C, hp, rfl, hW, ho, he1, he2, hB⟩ := hrel
        have HW := Lib.hid hW; have HO := Lib.hid ho; have HE1 := Lib.hid he1; have HE2 := Lib.hid he2; have HB := Lib.hid hB
        have hol := (ownsI_rd hW.own).length
        have hq1 := hW.q1
        clear hW ho he1 he2 hB
        by_cases hlt : p < n
        · obtain ⟨x, b2, o2, rfl, hb2, hc2, hx2⟩ := (ownsI_rd HO.out).idx p hlt
          have hxm := HRM.out x (List.mem_of_getElem? hx2)
          obtain ⟨k, rfl⟩ := Int.eq_ofNat_of_zero_le hxm.1
          have hkn : k < n := by omega
          have hrd : rk.drop p = (k : Int) :: rk.drop (p + 1) := by obtain ⟨h1, h2⟩ := List.getElem?_eq_some_iff.1 hx2; rw [List.drop_eq_getElem_cons h1, h2]
          obtain ⟨u, b, off, pa, pn, pc, rfl, hb, _, _, _, _, _, c5, hpc, _, hg, _⟩ := HR.out.at_ k hkn
          have d5 : ∀ wx : World, Below w.heap.size w wx → wx.cell? ⟨b, off + k * 6 + 5, none⟩ = some (.slice pa pn pc) := fun wx h => (h.cell (p := ⟨b, off + k * 6 + 5, none⟩) hb).trans c5
          have D5 := Lib.hid d5
          have hE1 := HE1.out
          rw [hrd] at hE1
          have hE2 := HE2.out
          rw [hrd] at hE2
          have hE1' := ofSet_step hE1
          have hE2' := layC_step hE2
          rw [taAt_of hg] at hE2'
          rw [Int.toNat_natCast] at hE1'
          have HE3 := Lib.hid hE1'
          have HE4 := Lib.hid hE2'
          have hps := hpc.small
          have HPL := Lib.hid hpc.length
          have HP := Lib.hid hpc
          have HPV : Hid (∀ v ∈ u.pcs, -1 ≤ v.2 ∧ v.2 ≤ 5) := Lib.hid (fun v hv => (HV.out.piece u (List.mem_of_getElem? hg) v hv).2)
          obtain ⟨y0, _, hcy, hfy, _⟩ := ownsI_at HW.out.own k hkn
          have s0 := HW.out.s0
          obtain ⟨CE, hCE⟩ : ∃ CE, layP k C u.pcs = CE := ⟨_, rfl⟩
          rw [hCE] at HE4
          have HLP : Hid (layP k C (u.pcs.drop 0) = CE) := Lib.hid hCE
          have HW3 := Lib.hid (HW.out.setO k p)
          have HO3 := Lib.hid (owns_far (q := w.heap.size + 1) (j := k) HO.out (Nat.lt_trans HW.out.q0 hqb) (.int .i64 p))
          have HB3 := Lib.hid (HB.out.setCell (p := ⟨w.heap.size + 1, k, none⟩) (by simp) (.int .i64 p))
          have c5' := d5 _ HB3.out
          clear hx2 hrd hg hE1 hE2 hE1' hE2' hpc c5 HE1 HE2 hCE HW HO HB d5
          go_wp2_with (first | go_region)
          go_loopw [39] (fun i wr => ∃ (j : Nat) (C : List Int), j ≤ pn ∧ i = .int .i64 j ∧ RkW w wr n q (O.set k p) C ∧ wr.ownsRow bk 3 1 (.slice (some ⟨b2, o2, none⟩) n c2) n (rk.flatMap enc1) ∧ layP k C (u.pcs.drop j) = CE ∧ Below w.heap.size w wr) (fun i _ => pn - (intOf i).toNat)
          case atStart => exact ⟨0, C, Nat.zero_le _, rfl, HW3.out, HO3.out, HLP.out, HB3.out⟩
          case round =>
            clear HW3 HO3 HB3 HLP
            obtain ⟨j, C, hj, rfl, hW, ho, he, hB⟩ := hrel
            have HW := Lib.hid hW; have HO := Lib.hid ho; have HE := Lib.hid he; have HB := Lib.hid hB
            have hq1 := hW.q1
            have hq0 := hW.q0
            clear hW ho he hB
            by_cases hjt : j < pn
            · obtain ⟨x, y, b1, off1, rfl, hbb, e1, e2, hpg, HD⟩ := (HP.out.ext HB.out).pc_at' j hjt
              have hE := HE.out
              rw [HD.out, layP] at hE
              simp only [] at hE
              have hyv := HPV.out (x, y) (List.mem_of_getElem? hpg)
              simp only [] at hyv
              clear hpg HD
              by_cases p1 : 0 ≤ y
              · obtain ⟨m, rfl⟩ := Int.eq_ofNat_of_zero_le p1
                have hm6 : m < 6 := by omega
                rw [Int.toNat_natCast] at hE
                have cm := HW.out.cs m hm6
                have fm := HW.out.fz (1 + m)
                obtain ⟨z, hz⟩ : ∃ z, cAt C m = z := ⟨_, rfl⟩
                have hz' : (C[m]?).getD 0 = z := hz
                rw [hz'] at hE
                rw [hz] at cm
                clear hz hz'
                by_cases p2 : z < 0
                · rw [if_pos ⟨p1, p2⟩] at hE
                  have HE5 := Lib.hid hE
                  clear hE HE
                  go_wp2_with (first | go_region)
                  go_roundw
                  case rel => exact ⟨j + 1, C.set m k, by omega, by go_num, (HW.out.setC m hm6 k).alloc _, owns_ext (owns_far HO.out hqb _) (Below.alloc (Below.refl _ _) (Nat.le_refl _) _), HE5.out, Below.alloc (HB.out.setCell (p := ⟨q, 1 + m, none⟩) (by simp only []; omega) _) (by simpa using HB.out.size) _⟩
                  case measure => simp [intOf]; omega
                · have p2' : decide (z < 0) = false := by simpa using p2
                  rw [if_neg (fun q => p2 q.2)] at hE
                  have HE5 := Lib.hid hE
                  clear hE HE
                  go_wp2_with (first | go_region)
                  go_roundw
                  case rel => exact ⟨j + 1, C, by omega, by go_num, HW.out.alloc _, owns_ext HO.out (Below.alloc (Below.refl _ _) (Nat.le_refl _) _), HE5.out, Below.alloc HB.out HB.out.size _⟩
                  case measure => simp [intOf]; omega
              · have p1' : decide (0 ≤ y) = false := by simpa using p1
                rw [if_neg (fun q => p1 q.1)] at hE
                have HE5 := Lib.hid hE
                clear hE HE
                go_wp2_with (first | go_region)
                go_roundw
                case rel => exact ⟨j + 1, C, by omega, by go_num, HW.out.alloc _, owns_ext HO.out (Below.alloc (Below.refl _ _) (Nat.le_refl _) _), HE5.out, Below.alloc HB.out HB.out.size _⟩
                case measure => simp [intOf]; omega
            · have hE := HE.out
              rw [drop_end HPL.out (by omega), layP] at hE
              subst hE
              go_wp2
              go_roundw
              case rel => exact ⟨p + 1, _, _, by omega, by go_num, HW.out, HO.out, HE3.out, HE4.out, HB.out⟩
              case measure => simp [intOf]; omega
        · have hE1 := HE1.out
          have hE2 := HE2.out
          rw [List.drop_of_length_le (by have := HRL.out; omega)] at hE1 hE2
          have e1 : O = RO := hE1
          have e2 : C = RC := hE2
          subst e1 e2
          have c0 := HW.out.s0
          have d0 := HW.out.r0
          have c1 := HW.out.cs 0 (by omega)
          have c2 := HW.out.cs 1 (by omega)
          have c3 := HW.out.cs 2 (by omega)
          have c4 := HW.out.cs 3 (by omega)
          have c5 := HW.out.cs 4 (by omega)
          have c6 := HW.out.cs 5 (by omega)
          have d1 := HW.out.rs 0 (by omega)
          have d2 := HW.out.rs 1 (by omega)
          have d3 := HW.out.rs 2 (by omega)
          have d4 := HW.out.rs 3 (by omega)
          have d5 := HW.out.rs 4 (by omega)
          have d6 := HW.out.rs 5 (by omega)
          have f0 := HW.out.rf 0
          have f1 := HW.out.rf 1
          have f2 := HW.out.rf 2
          have f3 := HW.out.rf 3
          have f4 := HW.out.rf 4
          have f5 := HW.out.rf 5
          have f6 := HW.out.rf 6
          simp only [Nat.reduceAdd] at c1 c2 c3 c4 c5 c6 d1 d2 d3 d4 d5 d6
          rw [HCE.out 0 (by omega)] at c1
          rw [HCE.out 1 (by omega)] at c2
          rw [HCE.out 2 (by omega)] at c3
          rw [HCE.out 3 (by omega)] at c4
          rw [HCE.out 4 (by omega)] at c5
          rw [HCE.out 5 (by omega)] at c6
          go_wp2
          refine bodyPost_ret (v := rkV (some ⟨w.heap.size + 1, 0, none⟩) n n (fun k => ceilG L (k : Int))) (by simp [results, Tryz.results134, go_sem, d0, d1, d2, d3, d4, d5, d6]) rfl ⟨_, _, rfl, ?_, ?_⟩
          · rw [HRO.out]
            have hne : w.heap.size + 1 ≠ w.heap.size := by omega
            exact owns_mono (owns_setBox (owns_setBox (owns_setBox (owns_setBox (owns_setBox (owns_setBox (owns_setBox HW.out.own hne) hne) hne) hne) hne) hne) hne) (Nat.le_succ _)
          · exact ((((((HB.out.setCell (Nat.le_refl _) _).setCell (Nat.le_refl _) _).setCell (Nat.le_refl _) _).setCell (Nat.le_refl _) _).setCell (Nat.le_refl _) _).setCell (Nat.le_refl _) _).setCell (Nat.le_refl _) _
end Go.Proofs.YtlhnhmimhpcoaaaGreat
