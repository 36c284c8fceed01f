/- Plain facts: what LetGo gives. No condition: plain lemmas. -/
import Derived.Test.YtmdjbnicjohkjaaLkWout
namespace Go.Proofs.Ytmdjbnicjohkjaa
open Go.RowKit
set_option linter.unusedSimpArgs false
set_option linter.unusedVariables false
/-- who gets the lock so far, k looked at -/
def toStep (G : List Th) (L : List Int) (l : Int) (k : Nat) (b : Int) : Int := match G[k]? with
  | some t => if t.waits = l ∧ (b < 0 ∨ valAt L b < valAt L k) then k else b
  | none => b
def toFrom (G : List Th) (L : List Int) (l : Int) : Nat → Nat → Int → Int
  | 0, _, b => b
  | f + 1, k, b => toFrom G L l f (k + 1) (toStep G L l k b)
def toG (G : List Th) (l : Int) : Int := toFrom G (effL G) l G.length 0 (-1)
theorem toFrom_step {G L l f k b R} (h : toFrom G L l (f + 1) k b = R) : toFrom G L l f (k + 1) (toStep G L l k b) = R := h
theorem toStep_at {g : List ThV} {G : List Th} {L : List Int} {l : Int} {k : Nat} {t : ThV} {b : Int} (hg : g.map ThV.th = G) (h : g[k]? = some t) : toStep G L l k b = if t.waits = l ∧ (b < 0 ∨ valAt L b < valAt L k) then (k : Int) else b := by
  rw [toStep, ← hg, List.getElem?_map, h]; rfl
/-- it is the greatest of those that wait for the lock -/
structure ToInv (G : List Th) (L : List Int) (l : Int) (k : Nat) (b : Int) : Prop where
  lo : -1 ≤ b
  hi : b < k
  at_ : 0 ≤ b → ∃ t, G[b.toNat]? = some t ∧ t.waits = l
  best : ∀ j t, j < k → G[j]? = some t → t.waits = l → 0 ≤ b ∧ valAt L j ≤ valAt L b
theorem toInv_step {G L l k b} (h : ToInv G L l k b) : ToInv G L l (k + 1) (toStep G L l k b) := by
  obtain ⟨h1, h2, h3, h4⟩ := h
  unfold toStep
  cases hk : G[k]? with
  | none =>
    refine ⟨h1, by show b < _; omega, h3, fun j t hj ht hw => ?_⟩
    by_cases e : j = k
    · subst e; rw [hk] at ht; simp at ht
    · exact h4 j t (by omega) ht hw
  | some u =>
    simp only []
    split
    · rename_i hc
      refine ⟨by omega, by omega, fun _ => ⟨u, by simpa using hk, hc.1⟩, fun j t hj ht hw => ⟨by omega, ?_⟩⟩
      by_cases e : j = k
      · subst e; exact Int.le_refl _
      · have := h4 j t (by omega) ht hw
        rcases hc.2 with q | q
        · omega
        · omega
    · rename_i hc
      refine ⟨h1, by omega, h3, fun j t hj ht hw => ?_⟩
      by_cases e : j = k
      · subst e
        rw [hk] at ht; simp at ht; subst ht
        constructor
        · apply Classical.byContradiction; intro q; exact hc ⟨hw, .inl (by omega)⟩
        · apply Classical.byContradiction; intro q; exact hc ⟨hw, .inr (by omega)⟩
      · exact h4 j t (by omega) ht hw
theorem toInv_from {G L l} : ∀ (f k : Nat) (b : Int), ToInv G L l k b → ToInv G L l (k + f) (toFrom G L l f k b)
  | 0, k, b, h => h
  | f + 1, k, b, h => by
    have := toInv_from f (k + 1) _ (toInv_step h)
    rw [show k + (f + 1) = k + 1 + f by omega]; exact this
theorem toInv (G : List Th) (l : Int) : ToInv G (effL G) l G.length (toG G l) := by
  have := toInv_from (G := G) (L := effL G) (l := l) G.length 0 (-1) ⟨by omega, by omega, fun h => by omega, fun j t hj => by omega⟩
  rw [Nat.zero_add] at this; exact this
/-- what LetGo gives -/
def letR (G : List Th) (t l : Int) : List Th × Int × Int :=
  if isTh G t && inB l 0 5 then
    (if 0 ≤ (thAt G t.toNat).waits ∨ hasB (thAt G t.toNat).holds l = false then ([], 0, 13)
     else if toG G l < 0 then (G.set t.toNat ⟨(thAt G t.toNat).pri, outL (thAt G t.toNat).holds l, (thAt G t.toNat).waits⟩, toG G l, 0)
     else ((G.set t.toNat ⟨(thAt G t.toNat).pri, outL (thAt G t.toNat).holds l, (thAt G t.toNat).waits⟩).set (toG G l).toNat
       ⟨(thAt G (toG G l).toNat).pri, insL (thAt G (toG G l).toNat).holds (cntLt (thAt G (toG G l).toNat).holds l) l, -1⟩, toG G l, 0))
  else ([], 0, 1)
end Go.Proofs.Ytmdjbnicjohkjaa
