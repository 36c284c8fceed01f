/- Reading a slice from the front: the next element and the rest. No condition: plain lemmas. -/
import Derived.Test.YtfiggbeaomkepaaBase
import Derived.Laws.AppendOwnNone
namespace Go.Proofs.Ytfiggbeaomkepaa
open Go.RowKit
theorem Rd.next2 {w a n} {xs : List P2} (h : Rd w a n 2 (xs.map enc2)) (k : Nat) (hk : k < n) : ∃ (x : P2) (b off : Nat), a = some ⟨b, off, none⟩ ∧ b < w.heap.size ∧ w.cell? ⟨b, off + k * 2, none⟩ = some (.int .i64 x.1) ∧ w.cell? ⟨b, off + k * 2 + 1, none⟩ = some (.int .i64 x.2) ∧ Hid (xs.drop k = x :: xs.drop (k + 1)) := by
  obtain ⟨hx, b, off, e, hb, h1, h2⟩ := h.two k hk
  exact ⟨xs[k], b, off, e, hb, h1, h2, List.drop_eq_getElem_cons hx⟩
theorem Rd.next1 {w a n} {xs : List Int} (h : Rd w a n 1 (xs.map enc1)) (k : Nat) (hk : k < n) : ∃ (x : Int) (b off : Nat), a = some ⟨b, off, none⟩ ∧ b < w.heap.size ∧ w.cell? ⟨b, off + k, none⟩ = some (.int .i64 x) ∧ Hid (xs.drop k = x :: xs.drop (k + 1)) := by
  obtain ⟨hx, b, off, e, hb, h1⟩ := h.one k hk
  exact ⟨xs[k], b, off, e, hb, h1, List.drop_eq_getElem_cons hx⟩
theorem Rd.nextV {w a n} {α : Type} {val : α → Value} {xs : List α} (h : Rd w a n 1 (xs.map fun x => [val x])) (k : Nat) (hk : k < n) : ∃ (x : α) (b off : Nat), a = some ⟨b, off, none⟩ ∧ b < w.heap.size ∧ w.cell? ⟨b, off + k, none⟩ = some (val x) ∧ Hid (xs.drop k = x :: xs.drop (k + 1)) := by
  have hl : k < xs.length := by have := h.len; simp at this; omega
  obtain ⟨b, off, rfl, hlt, hc⟩ := h.at_ (by omega)
  have h0 := hc k (by simpa using hl) 0 (by omega)
  simp at h0
  exact ⟨xs[k], b, off, rfl, hlt, h0, List.drop_eq_getElem_cons hl⟩
theorem later_rd {w w1 : World} {x : After w1} {a n k xs} (h : Rd w a n k xs) (hb : Below w.heap.size w w1) : Rd (World.later w1 x) a n k xs := (h.ext hb).ext x.below
theorem drop_end {α : Type} {xs : List α} {n k : Nat} (h : xs.length = n) (hk : n ≤ k) : xs.drop k = [] := List.drop_of_length_le (by omega)
/-- append(out, l...): whatever l, nil too -/
theorem wpList_pushAll {P : Program} {ops : Array Oper} {rest : List Oper} {o : Oper} {a : Act} {Q : Exit → Act → World → Prop} {w : World} (hgd : o.guard = none) (s x : Operand) (t : TypeId)
    (ho : o.op = .call { callee := .builtin .append, args := #[s, x], argTypes := #[t, t] }) {e k bytes B n m c : Nat} (E : Elt P t e k bytes) {v : Value} {xs : List Value} {l : Option Addr} {α : Type} {enc : α → List Value} {ys : List α}
    (he : ∀ y, (enc y).length = k) (h1 : ∀ y, ∀ u ∈ enc y, u.oneCell' = true)
    (hs : a.eval s = v) (hown : w.ownsRow B e k v n xs) (hx : a.eval x = .slice l m c) (hR : Rd w l m k (ys.map enc)) (hnil : m = 0 → (l = none ∧ c = 0) ∨ ∃ ad, l = some ad)
    (hn : n + m ≤ 100000000) (hby : bytes ≤ 1000) (hB : B ≤ w.heap.size)
    (h : ∀ v' w', w'.ownsRow B e k v' (n + m) (xs ++ ys.flatMap enc) → (∃ a' c', v' = .slice a' (n + m) c') → Below B w w' → wpList P ops Q rest (a.put o.dst v') w') :
    wpList P ops Q (o :: rest) a w := by
  obtain ⟨i, z, h2, h3, h4, h5, h6⟩ := E.hi
  have hlen : ys.length = m := hR.length
  have fin : ∀ v' w', w'.ownsRow B e k v' (n + m) (xs ++ ys.flatMap enc) → w.grownBy w' v.ownBlock → wpList P ops Q rest (a.put o.dst v') w' := by
    intro v' w' hown' hg
    have hb : Below B w w' := (Below.refl B w).grown hg hB (fun j hj => (hown.lt j hj).1)
    refine h v' w' hown' ?_ hb
    rcases hown'.2 with ⟨rfl, h8⟩ | ⟨g, cap, cur, rfl, h9⟩
    · exact ⟨none, 0, by rw [h8]⟩
    · exact ⟨_, _, rfl⟩
  have go : ∀ ad, l = some ad → wpList P ops Q (o :: rest) a w := by
    rintro ad rfl
    refine wpList_append_own w hgd s x t ho B e i z k bytes E.ht h2 h3 h4 h5 h6 E.hk v n xs hs hown ad m c (ys.flatMap enc) hx (by rw [flat_len he, hlen]) ?_ ?_ (by unfold maxLen; omega) ?_ hB (fun v' w' q1 q2 _ => fin v' w' q1 q2)
    · intro j u hj
      have hj' : j < m * k := by
        have := (List.getElem?_eq_some_iff.1 hj).1
        rwa [flat_len he, hlen] at this
      have hk := E.hk
      have hm0 : 0 < m := by
        rcases Nat.eq_zero_or_pos m with h0 | h0
        · rw [h0] at hj'; omega
        · exact h0
      obtain ⟨b, off, e0, hb, hc⟩ := hR.at_ hm0
      obtain rfl : ad = ⟨b, off, none⟩ := by simpa using e0
      have hq : j / k < ys.length := by rw [hlen]; exact (Nat.div_lt_iff_lt_mul hk).2 hj'
      have hr := Nat.mod_lt j hk
      have hjj : j / k * k + j % k = j := by rw [Nat.mul_comm]; exact Nat.div_add_mod j k
      have g1 := hc (j / k) (by simpa using hq) (j % k) hr
      have g2 := flat_get he ys (j / k) (j % k) hq hr
      rw [hjj, hj] at g2
      have e : (⟨b, off, none⟩ : Addr).add j = ⟨b, off + j, none⟩ := by unfold Addr.add; split <;> simp_all
      rw [e]
      rw [show off + j / k * k + j % k = off + j by omega] at g1
      rw [g1, g2]; simp
    · intro u hu
      obtain ⟨y, _, hy⟩ := List.mem_flatMap.1 hu
      exact h1 y u hy
    · have : (n + m) * bytes ≤ 100000000 * 1000 := Nat.mul_le_mul hn hby
      omega
  by_cases h0 : m = 0
  · rcases hnil h0 with ⟨rfl, rfl⟩ | ⟨ad, hl⟩
    · subst h0
      obtain rfl : ys = [] := List.length_eq_zero_iff.1 hlen
      refine wpList_append_own_none hgd s x t ho B e i k E.ht h2 v n xs hs hown hx (h v w (by simpa using hown) ?_ (Below.refl B w))
      rcases hown.2 with ⟨rfl, h8⟩ | ⟨g, cap, cur, rfl, h9⟩
      · exact ⟨none, 0, by rw [h8]⟩
      · exact ⟨_, _, rfl⟩
    · exact go ad hl
  · obtain ⟨b, off, e0, _⟩ := hR.at_ (by omega)
    exact go _ e0
/-- make([]T, 0, n) -/
theorem wpList_mk0 {P : Program} {ops : Array Oper} {rest : List Oper} {o : Oper} {a : Act} {Q : Exit → Act → World → Prop} {w : World} (hg : o.guard = none) (l c : Operand) (t : TypeId) (hop : o.op = Op.makeSlice t l c)
    {e k bytes B : Nat} (E : Elt P t e k bytes) {kl kc : IntKind} {C : Int} (n : Nat) (hl : a.eval l = .int kl 0) (hc : a.eval c = .int kc C) (hC : C = (n : Int)) (hn : n ≤ 100000000) (hby : bytes ≤ 1000) (hB : B ≤ w.heap.size)
    (hK : ∀ w', w'.ownsRow B e k (.slice (some ⟨w.heap.size, 0, none⟩) 0 n) 0 [] → Below B w w' → wpList P ops Q rest (a.put o.dst (.slice (some ⟨w.heap.size, 0, none⟩) 0 n)) w') : wpList P ops Q (o :: rest) a w := by
  obtain ⟨i, z, h2, h3, h4, h5, h6⟩ := E.hi
  refine wpList_make_own w hg l c t hop B e i z k E.ht h2 h3 h4 kl kc C n hl hc hC ?_ (by unfold maxLen; omega) hB fun w' q1 q2 => hK w' q1 ((Below.refl B w).grown q2 hB (by simp))
  have : i.bytes * n ≤ 1000 * 100000000 := Nat.mul_le_mul (by omega) hn
  omega
end Go.Proofs.Ytfiggbeaomkepaa
