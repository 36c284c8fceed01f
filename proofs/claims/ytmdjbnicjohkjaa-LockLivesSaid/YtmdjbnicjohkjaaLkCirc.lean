/- Plain facts on circles of waiting. No condition: plain lemmas. -/
import Derived.Test.YtmdjbnicjohkjaaLkGraph
namespace Go.Proofs.Ytmdjbnicjohkjaa
open Go.RowKit
set_option linter.unusedSimpArgs false
set_option linter.unusedVariables false
/-- following from n, at most f steps, one comes to i -/
def circGo (g : List Th) (i : Int) : Nat → Int → Bool
  | 0, _ => false
  | f + 1, n => if 0 ≤ n then (if n = i then true else circGo g i f (nextG g n.toNat)) else false
def circG (g : List Th) (i : Nat) : Bool := circGo g i g.length (nextG g i)
/-- the last of a list, or i -/
def lastOf (i : Int) (l : List Int) : Int := l.getLast?.getD i
theorem lastOf_snoc (i x : Int) (l : List Int) : lastOf i (l ++ [x]) = x := by simp [lastOf]
/-- closed under next: outside it one never comes to i -/
theorem circGo_closed {g : List Th} {i : Int} {out : List Int} (h : ∀ y ∈ out, nextG g y.toNat ∈ out) (hi : i ∉ out) : ∀ (f : Nat) (n : Int), n ∈ out → circGo g i f n = false
  | 0, _, _ => rfl
  | f + 1, n, hn => by
    unfold circGo
    split
    · rw [if_neg (fun e => hi (by rw [← e]; exact hn))]; exact circGo_closed h hi f _ (h n hn)
    · rfl
theorem nodup_lt {N : Nat} {l : List Int} {i : Int} (hn : l.Nodup) (h : ∀ x ∈ l, 0 ≤ x ∧ x < N) (hi : 0 ≤ i ∧ i < N) (hni : i ∉ l) : l.length < N := by
  have := nodup_le N (i :: l) (List.nodup_cons.2 ⟨hni, hn⟩) (fun x hx => by rcases List.mem_cons.1 hx with rfl | hx; exact hi; exact h x hx)
  simp at this; omega
theorem circ_chain {g : List Th} {i : Nat} (hi : i < g.length) : ∀ (f : Nat) (n : Int) (out R : List Int), ChainInv g i n out R → (∀ y ∈ out, nextG g y.toNat ∈ out ∨ nextG g y.toNat = n) → (i : Int) ∉ out → nextG g (lastOf i out).toNat = n → f + out.length = g.length →
    circGo g i f n = decide (nextG g (lastOf i R).toNat = i)
  | f, n, out, R, hinv, hcl, hni, hlast, hf => by
    have hlt : out.length < g.length := nodup_lt hinv.nd hinv.rng ⟨by omega, by omega⟩ hni
    obtain ⟨f, rfl⟩ : ∃ f', f = f' + 1 := ⟨f - 1, by omega⟩
    unfold circGo
    by_cases h0 : 0 ≤ n
    · rw [if_pos h0]
      by_cases h1 : n = i
      · have := hinv.stop (fun h => h.2.1 h1)
        subst this
        rw [if_pos h1, hlast, h1]; simp
      · rw [if_neg h1]
        cases h2 : hasB out n
        · have hon := hinv.on h0 h1 h2
          refine circ_chain hi f _ _ R hon ?_ ?_ ?_ ?_
          · intro y hy
            rcases List.mem_append.1 hy with hy | hy
            · rcases hcl y hy with h | h
              · exact .inl (List.mem_append_left _ h)
              · exact .inl (by rw [h]; simp)
            · simp at hy; subst hy; exact .inr rfl
          · simp only [List.mem_append, List.mem_singleton, not_or]
            exact ⟨hni, fun e => h1 e.symm⟩
          · rw [lastOf_snoc]
          · simp; omega
        · have := hinv.stop (fun h => by rw [h2] at h; exact absurd h.2.2 (by simp))
          subst this
          have hm : n ∈ R := hasB_iff.1 h2
          have hcl' : ∀ y ∈ R, nextG g y.toNat ∈ R := fun y hy => (hcl y hy).elim id (fun e => by rw [e]; exact hm)
          rw [hlast, circGo_closed hcl' hni f _ (hcl' n hm)]
          simp [h1]
    · have := hinv.stop (fun h => h0 h.1)
      subst this
      rw [if_neg h0, hlast]
      have : n ≠ i := by omega
      simp [this]
theorem circ_eq {g : List Th} {i : Nat} (hi : i < g.length) : circG g i = decide (nextG g (lastOf i (chainG g i)).toNat = i) :=
  circ_chain hi g.length _ [] _ (ChainInv.start g i (by omega)) (by simp) (by simp) (by simp [lastOf]) (by simp)
/-- the first circle from k on -/
def circFrom (g : List Th) : Nat → Nat → List Int × Int
  | 0, _ => ([], 3)
  | f + 1, k => if circG g k then ((k : Int) :: chainG g k, 0) else circFrom g f (k + 1)
def circleR (g : List Th) : List Int × Int := if validG g then circFrom g g.length 0 else ([], 1)
end Go.Proofs.Ytmdjbnicjohkjaa
