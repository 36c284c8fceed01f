/- append of one element whose block lies behind other new blocks. No condition: a plain lemma. -/
import Derived.Test.YtlhnhmimhpcoaaaLst
namespace Go.Proofs.Ytlhnhmimhpcoaaa
open Go.RowKit
theorem wpList_pushM {P : Program} {ops : Array Oper} {rest : List Oper} {o : Oper} {a : Act} {Q : Exit → Act → World → Prop} {w : World} {T : TypeId} {arr : Array Value} {N : Nat} (hN : N = w.heap.size) (hgd : o.guard = none) (s x : Operand) (t : TypeId)
    (ho : o.op = .call { callee := .builtin .append, args := #[s, x], argTypes := #[t, t] }) {e k bytes B n c : Nat} (E : Elt P t e k bytes) {v : Value} {xs : List Value}
    (hs : a.eval s = v) (hown : w.ownsRow B e k v n xs) (hx : a.eval x = .slice (some ⟨N, 0, none⟩) 1 c) (harr : arr.size = k) (h1 : ∀ u ∈ arr.toList, u.oneCell' = true)
    (hn : n ≤ 100000000) (hby : bytes ≤ 1000) (hB : B ≤ w.heap.size)
    (h : ∀ a' c' w', w'.ownsRow B e k (.slice a' (n + 1) c') (n + 1) (xs ++ arr.toList) → (w.alloc (.cells arr T)).grownBy w' v.ownBlock → wpList P ops Q rest (a.put o.dst (.slice a' (n + 1) c')) w') :
    wpList P ops Q (o :: rest) a (w.alloc (.cells arr T)) := by
  subst hN
  obtain ⟨i, z, h2, h3, h4, h5, h6⟩ := E.hi
  refine wpList_append_own (w.alloc (.cells arr T)) hgd s x t ho B e i z k bytes E.ht h2 h3 h4 h5 h6 E.hk v n xs hs (hown.alloc _) ⟨w.heap.size, 0, none⟩ 1 c arr.toList hx (by simpa using harr) ?_ h1 (by unfold maxLen; omega) ?_ (by simp; omega) ?_
  · intro j u hj
    have : (w.alloc (.cells arr T)).cell? ⟨w.heap.size, j, none⟩ = arr[j]? := World.cell?_alloc_new w arr T j
    have e : (⟨w.heap.size, 0, none⟩ : Addr).add j = ⟨w.heap.size, j, none⟩ := by unfold Addr.add; split <;> simp_all
    rw [e, this]; simpa using hj
  · have : (n + 1) * bytes ≤ 100000001 * 1000 := Nat.mul_le_mul (by omega) hby
    omega
  · intro v' w' hown' hg _
    obtain ⟨hl, h7⟩ := hown'
    rcases h7 with ⟨_, h8⟩ | ⟨g, cap, cur, rfl, h9⟩
    · omega
    · exact h _ _ _ ⟨hl, .inr ⟨g, cap, cur, rfl, h9⟩⟩ hg
end Go.Proofs.Ytlhnhmimhpcoaaa
