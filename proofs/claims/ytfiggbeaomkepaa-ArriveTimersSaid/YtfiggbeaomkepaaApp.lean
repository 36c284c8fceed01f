/- append at a step of a region that draws its order, and what else it keeps. No condition: plain lemmas. -/
import Derived.Test.YtfiggbeaomkepaaLst
import Derived.Deep.RegionHeld3
import Derived.Deep.AppendLies
import Derived.Maps.AppendAt
import Derived.Laws.OwnMore
namespace Go.Proofs.Ytfiggbeaomkepaa
open Go.RowKit
set_option linter.unusedSimpArgs false
set_option linter.unusedVariables false
/-- the cells that are appended -/
def News (w : World) (l : Option Addr) (m c : Nat) (news : List Value) : Prop := (l = none ∧ m = 0 ∧ c = 0) ∨ ∃ ad, l = some ad ∧ ∀ j u, news[j]? = some u → w.cell? (ad.add j) = some u
theorem News.rd {w : World} {l : Option Addr} {m c k : Nat} {α : Type} {enc : α → List Value} {ys : List α} (he : ∀ y, (enc y).length = k) (hk : 0 < k) (hR : Rd w l m k (ys.map enc)) (hnil : m = 0 → (l = none ∧ c = 0) ∨ ∃ ad, l = some ad) : News w l m c (ys.flatMap enc) := by
  have hlen : ys.length = m := hR.length
  have go : ∀ ad, l = some ad → News w l m c (ys.flatMap enc) := by
    rintro ad rfl
    refine .inr ⟨ad, rfl, fun j u hj => ?_⟩
    have hj' : j < m * k := by
      have := (List.getElem?_eq_some_iff.1 hj).1
      rwa [flat_len he, hlen] at this
    have hm0 : 0 < m := by
      rcases Nat.eq_zero_or_pos m with h0 | h0
      · rw [h0] at hj'; omega
      · exact h0
    obtain ⟨b, off, e0, hb, hc⟩ := hR.at_ hm0
    obtain rfl : ad = ⟨b, off, none⟩ := by simpa using e0
    have hq : j / k < ys.length := by rw [hlen]; exact (Nat.div_lt_iff_lt_mul hk).2 hj'
    have hr := Nat.mod_lt j hk
    have hjj : j / k * k + j % k = j := by rw [Nat.mul_comm]; exact Nat.div_add_mod j k
    have g1 := hc (j / k) (by simpa using hq) (j % k) hr
    have g2 := flat_get he ys (j / k) (j % k) hq hr
    rw [hjj, hj] at g2
    have e : (⟨b, off, none⟩ : Addr).add j = ⟨b, off + j, none⟩ := by unfold Addr.add; split <;> simp_all
    rw [e]
    rw [show off + j / k * k + j % k = off + j by omega] at g1
    rw [g1, g2]; simp
  by_cases h0 : m = 0
  · rcases hnil h0 with ⟨rfl, rfl⟩ | ⟨ad, hl⟩
    · exact .inl ⟨rfl, h0, rfl⟩
    · exact go ad hl
  · obtain ⟨b, off, e0, _⟩ := hR.at_ (by omega)
    exact go _ e0
theorem run_app {P : Program} {w : World} {t ty e k bytes B n m c : Nat} (E : Elt P t e k bytes) {v : Value} {xs news : List Value} {l : Option Addr} (hown : w.ownsRow B e k v n xs)
    (hl : news.length = m * k) (hnews : News w l m c news) (h1 : ∀ u ∈ news, u.oneCell' = true) (hn : n + m ≤ 100000000) (hby : bytes ≤ 1000) (hB : B ≤ w.heap.size) :
    ∃ v' w', (Builtin.append_ #[t, t] ty #[v, .slice l m c]).run P w = .ok v' w' ∧ w'.ownsRow B e k v' (n + m) (xs ++ news) ∧ w.grownBy w' v.ownBlock ∧ (∃ a' c', v' = .slice a' (n + m) c') := by
  obtain ⟨i, z, h2, h3, h4, h5, h6⟩ := E.hi
  rcases hnews with ⟨rfl, rfl, rfl⟩ | ⟨ad, rfl, hc⟩
  · obtain rfl : news = [] := by simpa using hl
    refine ⟨v, w, run_append_owned_none (P := P) (w := w) B t ty e i k E.ht h2 v n xs hown, by simpa using hown, World.grownBy.refl _ _, ?_⟩
    rcases hown.2 with ⟨rfl, h8⟩ | ⟨g, cap, cur, rfl, h9⟩
    · exact ⟨none, 0, by rw [h8]⟩
    · exact ⟨_, _, rfl⟩
  · obtain ⟨v', w', hr, q1, q2, _, _⟩ := run_append_own_at (P := P) w B t ty e i z k bytes E.ht h2 h3 h4 h5 h6 E.hk v n xs hown ad m c news hl hc h1 (by unfold maxLen; omega) (by have : (n + m) * bytes ≤ 100000000 * 1000 := Nat.mul_le_mul hn hby; omega) hB
    refine ⟨v', w', hr, q1, q2, ?_⟩
    rcases q1.2 with ⟨rfl, h8⟩ | ⟨g, cap, cur, rfl, h9⟩
    · exact ⟨none, 0, by rw [h8]⟩
    · exact ⟨_, _, rfl⟩
theorem step_app {P : Program} {ops : Array Oper} {o : Oper} {a : Act} {w : World} {K : Act → World → Prop} {Q : Exit → Act → World → Prop} {EE : Prop} (hgd : o.guard = none) (s x : Operand) (t : TypeId)
    (ho : o.op = .call { callee := .builtin .append, args := #[s, x], argTypes := #[t, t] }) {e k bytes B n m c : Nat} (E : Elt P t e k bytes) {v : Value} {xs news : List Value} {l : Option Addr}
    (hs : a.eval s = v) (hown : w.ownsRow B e k v n xs) (hx : a.eval x = .slice l m c) (hl : news.length = m * k) (hnews : News w l m c news) (h1 : ∀ u ∈ news, u.oneCell' = true) (hn : n + m ≤ 100000000) (hby : bytes ≤ 1000) (hB : B ≤ w.heap.size)
    (h : ∀ a' c' w', w'.ownsRow B e k (.slice a' (n + m) c') (n + m) (xs ++ news) → w.grownBy w' v.ownBlock → K (a.put o.dst (.slice a' (n + m) c')) w') :
    if Region.wanted o (yielded ops a.tmps) = true then Oper.wp P o a w K Q else EE := by
  have hw : Region.wanted o (yielded ops a.tmps) = true := by simp [Region.wanted, hgd]
  rw [if_pos hw]
  obtain ⟨v', w', hr, q1, q2, a', c', rfl⟩ := run_app (P := P) (ty := o.type) E hown hl hnews h1 hn hby hB
  unfold Oper.wp execOp
  simp only [ho, resolve, invoke, builtin, Sem.run_bind, Sem.run_pure, Result.andThen_ok, List.map_toArray, List.map_cons, List.map_nil, hs, hx, hr]
  exact h _ _ w' q1 q2
theorem grown_below {w w' : World} {B : Nat} {v : Value} {e k n : Nat} {xs : List Value} (hown : w.ownsRow B e k v n xs) (hg : w.grownBy w' v.ownBlock) (hB : B ≤ w.heap.size) : Below B w w' := (Below.refl B w).grown hg hB (fun j hj => (hown.lt j hj).1)
/-- rows of another type stay -/
theorem owns_kept {w w' : World} {B B' e e' k k' n n' : Nat} {v v' : Value} {xs xs' : List Value} (h : w.ownsRow B e k v n xs) (hown : w.ownsRow B' e' k' v' n' xs') (hne : e ≠ e') (hg : w.grownBy w' v'.ownBlock) : w'.ownsRow B e k v n xs := by
  refine h.kept hg ?_
  rcases h.2 with ⟨rfl, _⟩ | ⟨g, cap, cur, rfl, _, hh, _⟩
  · exact .inl rfl
  · right
    rcases hown.2 with ⟨rfl, _⟩ | ⟨g', cap', cur', rfl, _, hh', _⟩
    · simp [Value.ownBlock]
    · simp only [Value.ownBlock, ne_eq, Option.some.injEq]
      rintro rfl
      rw [hh] at hh'
      simp at hh'
      exact hne hh'.2
end Go.Proofs.Ytfiggbeaomkepaa
