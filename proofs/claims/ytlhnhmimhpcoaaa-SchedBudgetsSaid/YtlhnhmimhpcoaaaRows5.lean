/- Several rows of ints that a call made, each in a block of its own; append to one of them. No condition: plain lemmas. -/
import Derived.Test.YtlhnhmimhpcoaaaIrow
namespace Go.Proofs.Ytlhnhmimhpcoaaa
open Go.RowKit
set_option linter.unusedSimpArgs false
set_option linter.unusedVariables false
structure Hdr where
  a : Option Addr
  n : Nat
  c : Nat
deriving Inhabited
abbrev sl (h : Hdr) : Value := .slice h.a h.n h.c
def updF {α : Type} (f : Nat → α) (i : Nat) (x : α) : Nat → α := fun j => if j = i then x else f j
theorem updF_same {α : Type} (f : Nat → α) (i : Nat) (x : α) : updF f i x i = x := by simp [updF]
theorem updF_other {α : Type} (f : Nat → α) {i j : Nat} (x : α) (h : j ≠ i) : updF f i x j = f j := by simp [updF, h]
structure IRows (B : Nat) (w : World) (N : Nat) (h : Nat → Hdr) (X : Nat → List Int) : Prop where
  own : ∀ i, i < N → w.ownsRow B 3 1 (sl (h i)) (h i).n ((X i).flatMap enc1)
  apart : ∀ i j, i < N → j < N → i ≠ j → (sl (h i)).ownBlock = none ∨ (sl (h i)).ownBlock ≠ (sl (h j)).ownBlock
theorem IRows.ext {B N : Nat} {w w' : World} {h X} (hR : IRows B w N h X) (hb : Below w.heap.size w w') : IRows B w' N h X := ⟨fun i hi => owns_ext (hR.own i hi) hb, hR.apart⟩
theorem IRows.far {B N : Nat} {w : World} {h X} (hR : IRows B w N h X) {q j : Nat} (hq : q < B) (u : Value) : IRows B (w.setCell ⟨q, j, none⟩ u) N h X := ⟨fun i hi => owns_far (hR.own i hi) hq u, hR.apart⟩
theorem IRows.len {B N : Nat} {w : World} {h X} (hR : IRows B w N h X) {i : Nat} (hi : i < N) : (X i).length = (h i).n := (ownsI_rd (hR.own i hi)).length
theorem IRows.push {B N : Nat} {w w' : World} {h X} (hR : IRows B w N h X) {i : Nat} (hi : i < N) {a' : Option Addr} {c' : Nat} {x : Int}
    (hown : w'.ownsRow B 3 1 (.slice a' ((h i).n + 1) c') ((h i).n + 1) ((X i ++ [x]).flatMap enc1)) (hg : w.grownBy w' (sl (h i)).ownBlock)
    (hb : (Value.slice a' ((h i).n + 1) c').ownBlock = (sl (h i)).ownBlock ∨ (Value.slice a' ((h i).n + 1) c').ownBlock = some w.heap.size) :
    IRows B w' N (updF h i ⟨a', (h i).n + 1, c'⟩) (updF X i (X i ++ [x])) := by
  have hlt : ∀ k, k < N → (sl (h k)).ownBlock ≠ some w.heap.size := fun k hk e => by
    have := ((hR.own k hk).lt _ e).2; omega
  refine ⟨fun k hk => ?_, fun k j hk hj hkj => ?_⟩
  · by_cases e : k = i
    · subst e; rw [updF_same, updF_same]; exact hown
    · rw [updF_other _ _ e, updF_other _ _ e]
      exact (hR.own k hk).kept hg (hR.apart k i hk hi e)
  · by_cases e : k = i
    · subst e
      rw [updF_same, updF_other _ _ (Ne.symm hkj)]
      rcases hb with hb | hb
      · rw [hb]; exact hR.apart k j hk hj hkj
      · rw [hb]; right; exact fun q => hlt j hj q.symm
    · by_cases e2 : j = i
      · subst e2
        rw [updF_same, updF_other _ _ e]
        rcases hb with hb | hb
        · rw [hb]; exact hR.apart k j hk hj hkj
        · rw [hb]; right; exact hlt k hk
      · rw [updF_other _ _ e, updF_other _ _ e2]; exact hR.apart k j hk hj hkj
theorem run_app2 {P : Program} {w : World} {t ty e k bytes B n m c : Nat} (E : Elt P t e k bytes) {v : Value} {xs news : List Value} {ad : Addr} (hown : w.ownsRow B e k v n xs)
    (hl : news.length = m * k) (hnews : ∀ j u, news[j]? = some u → w.cell? (ad.add j) = some u) (h1 : ∀ u ∈ news, u.oneCell' = true) (hn : n + m ≤ 100000000) (hm : 0 < m) (hby : bytes ≤ 1000) (hB : B ≤ w.heap.size) :
    ∃ a' c' w', (Builtin.append_ #[t, t] ty #[v, .slice (some ad) m c]).run P w = .ok (.slice a' (n + m) c') w' ∧ w'.ownsRow B e k (.slice a' (n + m) c') (n + m) (xs ++ news) ∧ w.grownBy w' v.ownBlock ∧ ((Value.slice a' (n + m) c').ownBlock = v.ownBlock ∨ (Value.slice a' (n + m) c').ownBlock = some w.heap.size) := by
  obtain ⟨i, z, h2, h3, h4, h5, h6⟩ := E.hi
  obtain ⟨v', w', hr, q1, q2, _, q3⟩ := run_append_own_at (P := P) w B t ty e i z k bytes E.ht h2 h3 h4 h5 h6 E.hk v n xs hown ad m c news hl hnews h1 (by unfold maxLen; omega) (by have : (n + m) * bytes ≤ 100000000 * 1000 := Nat.mul_le_mul hn hby; omega) hB
  rcases q1.2 with ⟨rfl, h8⟩ | ⟨g, cap, cur, rfl, h9⟩
  · omega
  · exact ⟨_, _, w', hr, q1, q2, q3⟩
theorem step_app2 {P : Program} {ops : Array Oper} {o : Oper} {a : Act} {w : World} {K : Act → World → Prop} {Q : Exit → Act → World → Prop} {EE : Prop} (hgd : o.guard = none) (s x : Operand) (t : TypeId)
    (ho : o.op = .call { callee := .builtin .append, args := #[s, x], argTypes := #[t, t] }) {e k bytes B n m c : Nat} (E : Elt P t e k bytes) {v : Value} {xs news : List Value} {ad : Addr}
    (hs : a.eval s = v) (hown : w.ownsRow B e k v n xs) (hx : a.eval x = .slice (some ad) m c) (hl : news.length = m * k) (hnews : ∀ j u, news[j]? = some u → w.cell? (ad.add j) = some u) (h1 : ∀ u ∈ news, u.oneCell' = true) (hn : n + m ≤ 100000000) (hm : 0 < m) (hby : bytes ≤ 1000) (hB : B ≤ w.heap.size)
    (h : ∀ a' c' w', w'.ownsRow B e k (.slice a' (n + m) c') (n + m) (xs ++ news) → w.grownBy w' v.ownBlock → ((Value.slice a' (n + m) c').ownBlock = v.ownBlock ∨ (Value.slice a' (n + m) c').ownBlock = some w.heap.size) → K (a.put o.dst (.slice a' (n + m) c')) w') :
    if Region.wanted o (yielded ops a.tmps) = true then Oper.wp P o a w K Q else EE := by
  have hw : Region.wanted o (yielded ops a.tmps) = true := by simp [Region.wanted, hgd]
  rw [if_pos hw]
  obtain ⟨a', c', w', hr, q1, q2, q3⟩ := run_app2 (P := P) (ty := o.type) E hown hl hnews h1 hn hm hby hB
  unfold Oper.wp execOp
  simp only [ho, resolve, invoke, builtin, Sem.run_bind, Sem.run_pure, Result.andThen_ok, List.map_toArray, List.map_cons, List.map_nil, hs, hx]
  rw [hr]
  exact h _ _ w' q1 q2 q3
/-- out = append(out, x), x built in the block ahead of it; where the new row lies -/
theorem wpList_push2 {P : Program} {ops : Array Oper} {rest : List Oper} {o : Oper} {a : Act} {Q : Exit → Act → World → Prop} {w : World} {T : TypeId} {arr : Array Value} (hgd : o.guard = none) (s x : Operand) (t : TypeId)
    (ho : o.op = .call { callee := .builtin .append, args := #[s, x], argTypes := #[t, t] }) {e k bytes B n c : Nat} (E : Elt P t e k bytes) {v : Value} {xs : List Value}
    (hs : a.eval s = v) (hown : w.ownsRow B e k v n xs) (hx : a.eval x = .slice (some ⟨w.heap.size, 0, none⟩) 1 c) (harr : arr.size = k) (h1 : ∀ u ∈ arr.toList, u.oneCell' = true)
    (hn : n ≤ 10000000) (hby : bytes ≤ 1000) (hB : B ≤ w.heap.size)
    (h : ∀ a' c' w', w'.ownsRow B e k (.slice a' (n + 1) c') (n + 1) (xs ++ arr.toList) → (w.alloc (.cells arr T)).grownBy w' v.ownBlock → ((Value.slice a' (n + 1) c').ownBlock = v.ownBlock ∨ (Value.slice a' (n + 1) c').ownBlock = some (w.heap.size + 1)) → wpList P ops Q rest (a.put o.dst (.slice a' (n + 1) c')) w') :
    wpList P ops Q (o :: rest) a (w.alloc (.cells arr T)) := by
  obtain ⟨i, z, h2, h3, h4, h5, h6⟩ := E.hi
  refine wpList_append_own_at (w.alloc (.cells arr T)) hgd s x t ho B e i z k bytes E.ht h2 h3 h4 h5 h6 E.hk v n xs hs (hown.alloc _) ⟨w.heap.size, 0, none⟩ 1 c arr.toList hx (by simpa using harr) ?_ h1 (by unfold maxLen; omega) ?_ (by simp; omega) ?_
  · intro j u hj
    have : (w.alloc (.cells arr T)).cell? ⟨w.heap.size, j, none⟩ = arr[j]? := World.cell?_alloc_new w arr T j
    have e : (⟨w.heap.size, 0, none⟩ : Addr).add j = ⟨w.heap.size, j, none⟩ := by unfold Addr.add; split <;> simp_all
    rw [e, this]; simpa using hj
  · have : (n + 1) * bytes ≤ 10000001 * 1000 := Nat.mul_le_mul (by omega) hby
    omega
  · intro v' w' hown' hg _ hw
    obtain ⟨hl, h7⟩ := hown'
    rcases h7 with ⟨_, h8⟩ | ⟨g, cap, cur, rfl, h9⟩
    · omega
    · exact h _ _ _ ⟨hl, .inr ⟨g, cap, cur, rfl, h9⟩⟩ hg (by simpa using hw)
end Go.Proofs.Ytlhnhmimhpcoaaa
