/- Plain facts: a chain goes on by next; who is alone. No condition: plain lemmas. -/
import Derived.Test.YtmdjbnicjohkjaaLkFacts
import Derived.Test.YtmdjbnicjohkjaaLkNext
namespace Go.Proofs.Ytmdjbnicjohkjaa
open Go.RowKit
set_option linter.unusedSimpArgs false
set_option linter.unusedVariables false
theorem chainGo_seq {g : List Th} {i : Int} : ∀ (f : Nat) (n : Int) (out : List Int), nextG g (lastOf i out).toNat = n → ∀ (s : Nat) (y : Int), out.length ≤ s → (chainGo g i f n out)[s]? = some y → nextG g (lastOf i ((chainGo g i f n out).take s)).toNat = y
  | 0, n, out, h, s, y, hs, hy => by
    have := (List.getElem?_eq_some_iff.1 hy).1
    simp only [chainGo] at this
    omega
  | f + 1, n, out, h, s, y, hs, hy => by
    unfold chainGo at hy ⊢
    split at hy
    · rename_i hc
      rw [if_pos hc]
      by_cases e : s = out.length
      · subst e
        have hsub : ∃ r, chainGo g i f (nextG g n.toNat) (out ++ [n]) = (out ++ [n]) ++ r := chainGo_pre f _ _
        obtain ⟨r, hr⟩ := hsub
        rw [hr] at hy ⊢
        simp at hy
        subst hy
        rw [List.append_assoc, List.take_left]
        exact h
      · exact chainGo_seq f _ (out ++ [n]) (by rw [lastOf_snoc]) s y (by simp; omega) hy
    · have := (List.getElem?_eq_some_iff.1 hy).1
      omega
where
  chainGo_pre {g : List Th} {i : Int} : ∀ (f : Nat) (n : Int) (out : List Int), ∃ r, chainGo g i f n out = out ++ r
    | 0, _, out => ⟨[], by simp [chainGo]⟩
    | f + 1, n, out => by
      unfold chainGo
      split
      · obtain ⟨r, hr⟩ := chainGo_pre f (nextG g n.toNat) (out ++ [n])
        exact ⟨n :: r, by rw [hr]; simp⟩
      · exact ⟨[], by simp⟩
theorem chain_seq {g : List Th} {i s : Nat} {y : Int} (h : (chainG g i)[s]? = some y) : nextG g (lastOf i ((chainG g i).take s)).toNat = y :=
  chainGo_seq _ _ _ (by simp [lastOf]) s y (Nat.zero_le _) h
theorem owner_next {g : List Th} (hv : validG g = true) {s t : Nat} {u : Th} (hu : g[s]? = some u) (h : nextG g s = t) : ownerR g u.waits = ((t : Int), 0) := by
  have hw : nextG g s = if u.waits < 0 then -1 else holderG g u.waits := by rw [nextG, hu]
  rw [hw] at h
  split at h
  · omega
  · rename_i hn
    have hv2 := hv
    simp only [validG, Bool.and_eq_true] at hv2
    have := (thOk_iff.1 (thsGo_ok _ _ hv2.1.2 u (List.mem_of_getElem? hu))).2
    rw [ownerR, hv, inB_iff.2 ⟨by omega, this.2⟩, h]
    simp
end Go.Proofs.Ytmdjbnicjohkjaa
