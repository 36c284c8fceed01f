/- Plain facts on effective priorities. No condition: plain lemmas. -/
import Derived.Test.YtmdjbnicjohkjaaLkEffEq
import Derived.Test.YtmdjbnicjohkjaaLkCirc
namespace Go.Proofs.Ytmdjbnicjohkjaa
open Go.RowKit
set_option linter.unusedSimpArgs false
set_option linter.unusedVariables false
theorem effQ_le {g : List Th} {i : Nat} {b : Int} : ∀ (f k : Nat) (v : Int), effQ g i f k v ≤ b ↔ v ≤ b ∧ ∀ m, k ≤ m → m < k + f → hasB (chainG g m) i = true → priG g m ≤ b
  | 0, k, v => by
    constructor
    · exact fun h => ⟨h, fun m h1 h2 => by omega⟩
    · exact fun h => h.1
  | f + 1, k, v => by
    rw [effQ, effQ_le f (k + 1)]
    constructor
    · rintro ⟨h1, h2⟩
      refine ⟨by split at h1 <;> omega, fun m h3 h4 h5 => ?_⟩
      by_cases e : m = k
      · subst e; rw [if_pos h5] at h1; omega
      · exact h2 m (by omega) (by omega) h5
    · rintro ⟨h1, h2⟩
      refine ⟨?_, fun m h3 h4 h5 => h2 m (by omega) (by omega) h5⟩
      split
      · rename_i h; have := h2 k (by omega) (by omega) h; omega
      · exact h1
theorem effV_le {g : List Th} {i : Nat} {b : Int} : effV g i ≤ b ↔ priG g i ≤ b ∧ ∀ m, m < g.length → hasB (chainG g m) i = true → priG g m ≤ b := by
  unfold effV
  rw [effQ_le]
  constructor
  · exact fun ⟨h1, h2⟩ => ⟨h1, fun m hm => h2 m (by omega) (by omega)⟩
  · exact fun ⟨h1, h2⟩ => ⟨h1, fun m _ hm => h2 m (by omega)⟩
theorem effV_own (g : List Th) (i : Nat) : priG g i ≤ effV g i := (effV_le.1 (Int.le_refl (effV g i))).1
theorem effV_of {g : List Th} {i m : Nat} (hm : m < g.length) (h : hasB (chainG g m) i = true) : priG g m ≤ effV g i := (effV_le.1 (Int.le_refl (effV g i))).2 m hm h
/-- behind an element of a chain comes another one, the thread itself, or nobody -/
theorem chain_closed {g : List Th} {i : Nat} : ∀ (f : Nat) (n : Int) (out R : List Int), ChainInv g i n out R → (∀ y ∈ out, nextG g y.toNat ∈ out ∨ nextG g y.toNat = n) → f + out.length = g.length + 1 →
    ∀ y ∈ R, nextG g y.toNat ∈ R ∨ nextG g y.toNat = i ∨ nextG g y.toNat < 0
  | f, n, out, R, hinv, hcl, hf => by
    have hle := hinv.le
    by_cases h : 0 ≤ n ∧ n ≠ i ∧ hasB out n = false
    · obtain ⟨h0, h1, h2⟩ := h
      obtain ⟨f, rfl⟩ : ∃ f', f = f' + 1 := ⟨f - 1, by omega⟩
      refine chain_closed f _ _ R (hinv.on h0 h1 h2) ?_ (by simp; omega)
      intro y hy
      rcases List.mem_append.1 hy with hy | hy
      · rcases hcl y hy with h | h
        · exact .inl (List.mem_append_left _ h)
        · exact .inl (by rw [h]; simp)
      · simp at hy; subst hy; exact .inr rfl
    · have := hinv.stop h
      subst this
      intro y hy
      rcases hcl y hy with h3 | h3
      · exact .inl h3
      · rw [h3]
        by_cases h0 : 0 ≤ n
        · by_cases h1 : n = i
          · exact .inr (.inl h1)
          · cases h2 : hasB R n
            · exact absurd ⟨h0, h1, h2⟩ h
            · exact .inl (hasB_iff.1 h2)
        · exact .inr (.inr (by omega))
theorem chain_closed' {g : List Th} {i : Nat} (hi : i < g.length) : ∀ y ∈ chainG g i, nextG g y.toNat ∈ chainG g i ∨ nextG g y.toNat = i ∨ nextG g y.toNat < 0 :=
  chain_closed (g.length + 1) _ [] _ (ChainInv.start g i (by omega)) (by simp) (by simp)
theorem chain_sub {g : List Th} {i : Int} : ∀ (f : Nat) (n : Int) (out : List Int), ∀ x ∈ out, x ∈ chainGo g i f n out
  | 0, _, _ => fun x hx => hx
  | f + 1, n, out => fun x hx => by
    unfold chainGo
    split
    · exact chain_sub f _ _ x (List.mem_append_left _ hx)
    · exact hx
theorem chain_head {g : List Th} {i : Nat} (h0 : 0 ≤ nextG g i) (h1 : nextG g i ≠ i) : nextG g i ∈ chainG g i := by
  unfold chainG chainGo
  rw [if_pos ⟨h0, h1, rfl⟩]
  exact chain_sub _ _ _ _ (by simp)
/-- an element of a chain is the next of somebody -/
theorem chain_src {g : List Th} {i : Int} : ∀ (f : Nat) (n : Int) (out : List Int), (∃ s, s < g.length ∧ nextG g s = n) → n < g.length → (∀ y ∈ out, ∃ s, s < g.length ∧ nextG g s = y) → ∀ y ∈ chainGo g i f n out, ∃ s, s < g.length ∧ nextG g s = y
  | 0, _, _, _, _, h => h
  | f + 1, n, out, hn, hl, h => by
    unfold chainGo
    split
    · rename_i hc
      have := nextG_lo g n.toNat
      refine chain_src f _ _ ⟨n.toNat, by omega, rfl⟩ (by omega) (fun y hy => ?_)
      rcases List.mem_append.1 hy with hy | hy
      · exact h y hy
      · simp at hy; subst hy; exact hn
    · exact h
theorem effV_next {g : List Th} {i n : Nat} (hi : i < g.length) (h : nextG g i = n) : effV g i ≤ effV g n := by
  rw [effV_le]
  constructor
  · by_cases e : n = i
    · subst e; exact effV_own g n
    · exact effV_of hi (hasB_iff.2 (by rw [← h]; exact chain_head (by omega) (by omega)))
  · intro m hm hc
    rcases chain_closed' hm i (hasB_iff.1 hc) with h1 | h1 | h1
    · rw [Int.toNat_natCast, h] at h1; exact effV_of hm (hasB_iff.2 h1)
    · rw [Int.toNat_natCast, h] at h1; obtain rfl : n = m := by omega
      exact effV_own g n
    · rw [Int.toNat_natCast, h] at h1; omega
theorem effV_alone {g : List Th} {t : Nat} (h : ∀ s, s < g.length → nextG g s ≠ t) : effV g t = priG g t := by
  apply Int.le_antisymm _ (effV_own g t)
  rw [effV_le]
  refine ⟨Int.le_refl _, fun m hm hc => ?_⟩
  have hl := nextG_lo g m
  obtain ⟨s, hs, e⟩ := chain_src (i := (m : Int)) (g.length + 1) (nextG g m) [] ⟨m, hm, rfl⟩ (by omega) (by simp) t (hasB_iff.1 hc)
  exact absurd e (h s hs)
end Go.Proofs.Ytmdjbnicjohkjaa
