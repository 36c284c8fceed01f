/- Plain facts: who is reached by next; circles and chains by that; ascending lists. No condition: plain lemmas. -/
import Derived.Test.YtmdjbnicjohkjaaLkGoes
import Derived.Test.YtmdjbnicjohkjaaLkWith
namespace Go.Proofs.Ytmdjbnicjohkjaa
open Go.RowKit
set_option linter.unusedSimpArgs false
set_option linter.unusedVariables false
theorem nx_succ (g : List Th) (k : Nat) (i : Int) : nx g (k + 1) i = if nx g k i < 0 then -1 else nextG g (nx g k i).toNat := by
  rw [nx_add g k 1 i]; rfl
theorem nx_first (g : List Th) (k i : Nat) : nx g (k + 1) i = nx g k (nextG g i) := by
  rw [nx, if_neg (by omega)]; simp
theorem least {P : Nat → Prop} : ∀ k, P k → ∃ m, m ≤ k ∧ P m ∧ ∀ j, j < m → ¬ P j := by
  intro k
  induction k using Nat.strongRecOn with
  | ind k ih =>
    intro h
    by_cases q : ∃ j, j < k ∧ P j
    · obtain ⟨j, hj, hp⟩ := q
      obtain ⟨m, h1, h2, h3⟩ := ih j hj hp
      exact ⟨m, by omega, h2, h3⟩
    · exact ⟨k, Nat.le_refl _, h, fun j hj hp => q ⟨j, hj, hp⟩⟩
theorem chain_not {g : List Th} {i : Int} : ∀ (f : Nat) (n : Int) (out : List Int), i ∉ out → (∀ x ∈ out, 0 ≤ x) → i ∉ chainGo g i f n out ∧ ∀ x ∈ chainGo g i f n out, 0 ≤ x
  | 0, _, out, h, h0 => ⟨h, h0⟩
  | f + 1, n, out, h, h0 => by
    unfold chainGo
    split
    · rename_i hc
      exact chain_not f _ _ (by simp [h]; exact fun e => hc.2.1 e.symm) (fun x hx => by
        rcases List.mem_append.1 hx with hx | hx
        · exact h0 x hx
        · simp at hx; subst hx; exact hc.1)
    · exact ⟨h, h0⟩
theorem chain_nx {g : List Th} {i : Nat} : ∀ (f : Nat) (n : Int) (out : List Int), (∃ k, nx g (k + 1) i = n) → (∀ x ∈ out, ∃ k, nx g (k + 1) i = x) → ∀ x ∈ chainGo g i f n out, ∃ k, nx g (k + 1) i = x
  | 0, _, out, _, h => h
  | f + 1, n, out, ⟨k, hk⟩, h => by
    unfold chainGo
    split
    · rename_i hc
      refine chain_nx f _ _ ⟨k + 1, ?_⟩ (fun x hx => ?_)
      · rw [nx_succ, hk, if_neg (by omega)]
      · rcases List.mem_append.1 hx with hx | hx
        · exact h x hx
        · simp at hx; subst hx; exact ⟨k, hk⟩
    · exact h
/-- who stands in a chain -/
theorem chain_iff {g : List Th} {i : Nat} (hi : i < g.length) {y : Int} : y ∈ chainG g i ↔ y ≠ i ∧ 0 ≤ y ∧ ∃ k, nx g (k + 1) i = y := by
  have hn := chain_not (g := g) (i := (i : Int)) (g.length + 1) (nextG g i) [] (by simp) (by simp)
  constructor
  · intro h
    refine ⟨fun e => by rw [e] at h; exact hn.1 h, hn.2 y h, ?_⟩
    exact chain_nx (g.length + 1) (nextG g i) [] ⟨0, by rw [nx_first]; rfl⟩ (by simp) y h
  · rintro ⟨h1, h2, k, hk⟩
    have cl : ∀ k, nx g k i = i ∨ nx g k i ∈ chainG g i ∨ nx g k i < 0 := by
      intro k
      induction k with
      | zero => exact .inl rfl
      | succ k ih =>
        rw [nx_succ]
        split
        · exact .inr (.inr (by omega))
        · rename_i h0
          rcases ih with h | h | h
          · rw [h, Int.toNat_natCast]
            by_cases q0 : 0 ≤ nextG g i
            · by_cases q1 : nextG g i = i
              · exact .inl q1
              · exact .inr (.inl (chain_head q0 q1))
            · exact .inr (.inr (by omega))
          · rcases chain_closed' hi _ h with q | q | q
            · exact .inr (.inl q)
            · exact .inl q
            · exact .inr (.inr q)
          · omega
    rcases cl (k + 1) with h | h | h
    · exact absurd (hk.symm.trans h) h1
    · rw [hk] at h; exact h
    · omega
theorem circGo_of {g : List Th} {i : Int} : ∀ (f : Nat) (n : Int), circGo g i f n = true → ∃ k, nx g k n = i
  | 0, _, h => by simp [circGo] at h
  | f + 1, n, h => by
    unfold circGo at h
    split at h
    · split at h
      · rename_i e; exact ⟨0, e⟩
      · rename_i h0 _
        obtain ⟨k, hk⟩ := circGo_of f _ h
        exact ⟨k + 1, by rw [nx, if_neg (by omega)]; exact hk⟩
    · simp at h
/-- who stands in a circle -/
theorem circ_iff {g : List Th} {i : Nat} (hi : i < g.length) : circG g i = true ↔ ∃ k, nx g (k + 1) i = i := by
  constructor
  · intro h
    obtain ⟨k, hk⟩ := circGo_of _ _ h
    exact ⟨k, by rw [nx_first]; exact hk⟩
  · rintro ⟨k, hk⟩
    rw [circ_eq hi, decide_eq_true_eq]
    apply Classical.byContradiction
    intro hne
    have hnot := (chain_not (g := g) (i := (i : Int)) (g.length + 1) (nextG g i) [] (by simp) (by simp)).1
    have hlast : ∀ s y, (chainG g i)[s]? = some y → s + 1 = (chainG g i).length → lastOf i (chainG g i) = y := by
      intro s y hs hl
      unfold lastOf
      rw [List.getLast?_eq_getElem?, show (chainG g i).length - 1 = s by omega, hs]; rfl
    have cl : ∀ y ∈ chainG g i, nextG g y.toNat ∈ chainG g i ∨ nextG g y.toNat < 0 := by
      intro y hy
      rcases chain_closed' hi y hy with h | h | h
      · exact .inl h
      · obtain ⟨s, hs, e⟩ := List.mem_iff_getElem.1 hy
        have hs' : (chainG g i)[s]? = some y := by rw [List.getElem?_eq_getElem hs, e]
        by_cases q : s + 1 = (chainG g i).length
        · exact absurd (by rw [hlast s y hs' q]; exact h) hne
        · have hz : ∃ z, (chainG g i)[s + 1]? = some z := ⟨_, List.getElem?_eq_getElem (by omega)⟩
          obtain ⟨z, hz⟩ := hz
          have := chain_seq hz
          have el : lastOf i ((chainG g i).take (s + 1)) = y := by
            unfold lastOf
            rw [List.take_add_one, hs']; simp
          rw [el] at this
          exact .inl (this ▸ List.mem_of_getElem? hz)
      · exact .inr h
    have h0 : nextG g i ∈ chainG g i ∨ nextG g i < 0 := by
      by_cases q0 : 0 ≤ nextG g i
      · by_cases q1 : nextG g i = i
        · exfalso
          apply hne
          have : chainG g i = [] := by unfold chainG chainGo; rw [if_neg (by rintro ⟨_, h, _⟩; exact h q1)]
          rw [this]; simp [lastOf, q1]
        · exact .inl (chain_head q0 q1)
      · exact .inr (by omega)
    have all : ∀ k, nx g (k + 1) i ∈ chainG g i ∨ nx g (k + 1) i < 0 := by
      intro k
      induction k with
      | zero => rw [nx_first]; exact h0
      | succ k ih =>
        rw [nx_succ]
        split
        · exact .inr (by omega)
        · rcases ih with h | h
          · exact cl _ h
          · omega
    rcases all k with h | h
    · rw [hk] at h; exact hnot h
    · omega
/-- where next is the same but at t, the ways are the same up to t -/
theorem nx_same {g g' : List Th} {t : Nat} {o : Int} (hn : ∀ s : Nat, s ≠ t → nextG g' s = nextG g s) (ho : 0 ≤ o ∨ o = -1) : ∀ k, (∀ j, j < k → nx g j o ≠ t) → nx g' k o = nx g k o := by
  intro k
  induction k with
  | zero => intro _; rfl
  | succ k ih =>
    intro h
    rw [nx_succ, nx_succ, ih (fun j hj => h j (by omega))]
    split
    · rfl
    · rename_i h0
      exact hn _ (fun e => h k (by omega) (by omega))
end Go.Proofs.Ytmdjbnicjohkjaa
