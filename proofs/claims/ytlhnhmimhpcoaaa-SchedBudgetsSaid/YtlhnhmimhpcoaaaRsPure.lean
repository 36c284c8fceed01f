/- Plain facts: supplies, costs, demands, windows. No condition: plain lemmas. -/
import Derived.Test.YtlhnhmimhpcoaaaTkPure
namespace Go.Proofs.Ytlhnhmimhpcoaaa
open Go.RowKit
set_option linter.unusedSimpArgs false
set_option linter.unusedVariables false
/-- the program's ticks ahead of a moment -/
def aheadS (F S t : Int) : Int := t / F * (F - S) + max (t % F - S) 0
def supB (F S : Int) : Bool := inB F 1 60 && inB S 0 (F - 1)
theorem aheadS_step {F S : Int} (h0 : 0 ≤ S) (h1 : S < F) (t : Nat) : aheadS F S ((t : Int) + 1) = aheadS F S t + (if S ≤ (t : Int) % F then 1 else 0) := by
  unfold aheadS
  have hF : 0 < F := by omega
  have e := Int.emod_add_mul_ediv (t : Int) F
  have hr0 := Int.emod_nonneg (t : Int) (show F ≠ 0 by omega)
  have hr1 := Int.emod_lt_of_pos (t : Int) hF
  by_cases hlast : (t : Int) % F + 1 = F
  · have hd : ((t : Int) + 1) / F = (t : Int) / F + 1 := by
      have : (t : Int) + 1 = F * ((t : Int) / F + 1) := by rw [Int.mul_add]; omega
      rw [this, Int.mul_ediv_cancel_left _ (by omega)]
    have hm : ((t : Int) + 1) % F = 0 := by
      have : (t : Int) + 1 = F * ((t : Int) / F + 1) := by rw [Int.mul_add]; omega
      rw [this]; exact Int.mul_emod_right _ _
    rw [hd, hm, Int.add_mul, if_pos (by omega), Int.one_mul]
    omega
  · have hd : ((t : Int) + 1) / F = (t : Int) / F := by
      have : (t : Int) + 1 = ((t : Int) % F + 1) + F * ((t : Int) / F) := by omega
      rw [this, Int.add_mul_ediv_left _ _ (by omega), Int.ediv_eq_zero_of_lt (by omega) (by omega), Int.zero_add]
    have hm : ((t : Int) + 1) % F = (t : Int) % F + 1 := by
      have e2 := Int.emod_add_mul_ediv ((t : Int) + 1) F
      rw [hd] at e2; omega
    rw [hd, hm]
    split <;> omega
theorem aheadS_zero {F S : Int} (h0 : 0 ≤ S) : aheadS F S 0 = 0 := by unfold aheadS; simp; omega
theorem aheadS_mono {F S : Int} (h0 : 0 ≤ S) (h1 : S < F) (t d : Nat) : aheadS F S t ≤ aheadS F S ((t : Int) + d) ∧ aheadS F S ((t : Int) + d) ≤ aheadS F S t + d := by
  induction d with
  | zero => simp
  | succ d ih =>
    have := aheadS_step h0 h1 (t + d)
    rw [show ((t + d : Nat) : Int) = (t : Int) + d by omega] at this
    rw [show (t : Int) + ((d + 1 : Nat) : Int) = (t : Int) + d + 1 by omega, this]
    split <;> omega
theorem aheadS_bd {F S : Int} (h0 : 0 ≤ S) (h1 : S < F) (t : Nat) : 0 ≤ aheadS F S t ∧ aheadS F S t ≤ t := by
  have := aheadS_mono h0 h1 0 t
  simp [aheadS_zero h0] at this
  simpa using this
theorem aheadS_period {F S : Int} (hF : 0 < F) (t q : Int) : aheadS F S (t + q * F) = aheadS F S t + q * (F - S) := by
  unfold aheadS
  rw [Int.add_mul_ediv_right _ _ (by omega), Int.add_mul_emod_self_right, Int.add_mul]; omega
/-- what lies in a window that begins at k -/
def diffS (F S w : Int) (k : Nat) : Int := aheadS F S ((k : Int) + w) - aheadS F S k
def leastFrom (F S w : Int) : Nat → Nat → Int → Int
  | 0, _, m => m
  | f + 1, k, m => leastFrom F S w f (k + 1) (min m (diffS F S w k))
def leastN (F S w : Int) : Int := leastFrom F S w F.toNat 0 w
theorem leastFrom_le {F S w : Int} : ∀ (f k : Nat) (m : Int), leastFrom F S w f k m ≤ m ∧ ∀ j, k ≤ j → j < k + f → leastFrom F S w f k m ≤ diffS F S w j
  | 0, k, m => ⟨by simp [leastFrom], fun j h1 h2 => by omega⟩
  | f + 1, k, m => by
    obtain ⟨h1, h2⟩ := leastFrom_le (F := F) (S := S) (w := w) f (k + 1) (min m (diffS F S w k))
    rw [leastFrom]
    refine ⟨by omega, fun j hj hjf => ?_⟩
    by_cases e : j = k
    · subst e; omega
    · exact h2 j (by omega) (by omega)
theorem leastFrom_is {F S w : Int} : ∀ (f k : Nat) (m : Int), leastFrom F S w f k m = m ∨ ∃ j, k ≤ j ∧ j < k + f ∧ leastFrom F S w f k m = diffS F S w j
  | 0, k, m => .inl rfl
  | f + 1, k, m => by
    rw [leastFrom]
    rcases leastFrom_is (F := F) (S := S) (w := w) f (k + 1) (min m (diffS F S w k)) with h | ⟨j, h1, h2, h3⟩
    · rw [h]
      by_cases q : m ≤ diffS F S w k
      · left; omega
      · right; exact ⟨k, by omega, by omega, by omega⟩
    · exact .inr ⟨j, by omega, by omega, h3⟩
structure IsLeast (F S w m : Int) : Prop where
  le : ∀ j : Nat, (j : Int) < F → m ≤ diffS F S w j
  is : ∃ j : Nat, (j : Int) < F ∧ m = diffS F S w j
theorem diffS_le {F S : Int} (h0 : 0 ≤ S) (h1 : S < F) (w k : Nat) : 0 ≤ diffS F S w k ∧ diffS F S w k ≤ w := by
  have := aheadS_mono h0 h1 k w
  unfold diffS; omega
theorem isLeast {F S : Int} (h0 : 0 ≤ S) (h1 : S < F) (w : Nat) : IsLeast F S w (leastN F S w) := by
  obtain ⟨h2, h3⟩ := leastFrom_le (F := F) (S := S) (w := w) F.toNat 0 w
  refine ⟨fun j hj => h3 j (by omega) (by omega), ?_⟩
  rcases leastFrom_is (F := F) (S := S) (w := w) F.toNat 0 w with h | ⟨j, _, hj, h⟩
  · refine ⟨0, by omega, ?_⟩
    have h4 := h3 0 (by omega) (by omega)
    have h5 := (diffS_le h0 h1 w 0).2
    unfold leastN; omega
  · exact ⟨j, by omega, h⟩
theorem IsLeast.unique {F S w m m' : Int} (h : IsLeast F S w m) (k : IsLeast F S w m') : m = m' := by
  obtain ⟨j, hj, e⟩ := h.is
  obtain ⟨i, hi, e2⟩ := k.is
  have := h.le i hi
  have := k.le j hj
  omega
/-- as the program looks for it -/
theorem least_from_first {F S : Int} (h0 : 0 ≤ S) (h1 : S < F) (w : Nat) : leastFrom F S w (F.toNat - 1) 1 (diffS F S w 0) = leastN F S w := by
  unfold leastN
  rw [show F.toNat = (F.toNat - 1) + 1 by omega, leastFrom]
  have h5 := (diffS_le h0 h1 w 0).2
  rw [show min (w : Int) (diffS F S w 0) = diffS F S w 0 by omega]
  simp
theorem least_bd {F S : Int} (h0 : 0 ≤ S) (h1 : S < F) (w : Nat) : 0 ≤ leastN F S w ∧ leastN F S w ≤ w := by
  obtain ⟨j, hj, e⟩ := (isLeast h0 h1 w).is
  have := diffS_le h0 h1 w j
  omega
theorem least_succ {F S : Int} (h0 : 0 ≤ S) (h1 : S < F) (w : Nat) : leastN F S w ≤ leastN F S ((w + 1 : Nat) : Int) ∧ leastN F S ((w + 1 : Nat) : Int) ≤ leastN F S w + 1 := by
  have hs : ∀ j : Nat, diffS F S w j ≤ diffS F S ((w + 1 : Nat) : Int) j ∧ diffS F S ((w + 1 : Nat) : Int) j ≤ diffS F S w j + 1 := fun j => by
    have := aheadS_step h0 h1 (j + w)
    rw [show ((j + w : Nat) : Int) + 1 = (j : Int) + ((w + 1 : Nat) : Int) by omega, show ((j + w : Nat) : Int) = (j : Int) + (w : Int) by omega] at this
    unfold diffS
    rw [this]
    split <;> omega
  constructor
  · obtain ⟨j, hj, e⟩ := (isLeast h0 h1 (w + 1)).is
    have := (isLeast h0 h1 w).le j hj
    have := (hs j).1
    omega
  · obtain ⟨j, hj, e⟩ := (isLeast h0 h1 w).is
    have := (isLeast h0 h1 (w + 1)).le j hj
    have := (hs j).2
    omega
theorem least_zero {F S : Int} (h0 : 0 ≤ S) (h1 : S < F) : leastN F S 0 = 0 := by
  have := least_bd h0 h1 0
  simp at this; omega
/-- costs -/
def costP : List P2 → Int
  | [] => 0
  | p :: ps => p.1 + costP ps
def costT (t : Ta) : Int := costP t.pcs
theorem costP_drop {ps : List P2} {k : Nat} {p : P2} (h : ps[k]? = some p) : costP (ps.drop k) = p.1 + costP (ps.drop (k + 1)) := by
  obtain ⟨h1, h2⟩ := List.getElem?_eq_some_iff.1 h
  rw [List.drop_eq_getElem_cons h1, h2, costP]
theorem costP_bd : ∀ (ps : List P2), (∀ p ∈ ps, 1 ≤ p.1 ∧ p.1 ≤ 200) → (ps.length : Int) ≤ costP ps ∧ costP ps ≤ 200 * ps.length
  | [], _ => by simp [costP]
  | p :: ps, h => by
    have h1 := costP_bd ps (fun q hq => h q (by simp [hq]))
    have h2 := h p (by simp)
    rw [costP, List.length_cons]
    omega
theorem costT_bd {L : List Ta} (hv : Right L) {t : Ta} (h : t ∈ L) : 1 ≤ costT t ∧ costT t ≤ 1600 := by
  have := costP_bd t.pcs (fun p hp => (hv.piece t h p hp).1)
  have := hv.pcs t h
  unfold costT; omega
end Go.Proofs.Ytlhnhmimhpcoaaa
