/- Plain facts: insertion into a sorted list, and the list of the first numbers. No condition: plain lemmas. -/
import Derived.Test.YtlhnhmimhpcoaaaBase
namespace Go.Proofs.Ytlhnhmimhpcoaaa
open Go.RowKit
set_option linter.unusedSimpArgs false
set_option linter.unusedVariables false
section
variable {α : Type}
/-- x put into a sorted list, from behind -/
def insP (lt : α → α → Bool) (x : α) (s : List α) : List α := (s.reverse.dropWhile (lt x)).reverse ++ x :: (s.reverse.takeWhile (lt x)).reverse
def isortL (lt : α → α → Bool) (xs : List α) : List α := xs.foldl (fun s x => insP lt x s) []
theorem dropWhile_app {f : α → Bool} : ∀ (a b : List α), (∀ y ∈ a, f y = true) → (a ++ b).dropWhile f = b.dropWhile f
  | [], _, _ => rfl
  | x :: a, b, h => by rw [List.cons_append, List.dropWhile_cons_of_pos (h x (by simp))]; exact dropWhile_app a b (fun y hy => h y (by simp [hy]))
theorem takeWhile_app {f : α → Bool} : ∀ (a b : List α), (∀ y ∈ a, f y = true) → (a ++ b).takeWhile f = a ++ b.takeWhile f
  | [], _, _ => rfl
  | x :: a, b, h => by rw [List.cons_append, List.takeWhile_cons_of_pos (h x (by simp)), takeWhile_app a b (fun y hy => h y (by simp [hy]))]; rfl
theorem insP_eq {lt : α → α → Bool} {x : α} {p q : List α} (hq : ∀ y ∈ q, lt x y = true) (hp : ∀ y, p.getLast? = some y → lt x y = false) : insP lt x (p ++ q) = p ++ x :: q := by
  unfold insP
  rw [List.reverse_append, dropWhile_app _ _ (fun y hy => hq y (by simpa using hy)), takeWhile_app _ _ (fun y hy => hq y (by simpa using hy))]
  have h : p.reverse.dropWhile (lt x) = p.reverse ∧ p.reverse.takeWhile (lt x) = [] := by
    cases e : p.reverse with
    | nil => simp
    | cons y r =>
      have : p.getLast? = some y := by
        have : p = r.reverse ++ [y] := by have := congrArg List.reverse e; simpa using this
        rw [this]; simp
      have hy := hp y this
      rw [List.dropWhile_cons_of_neg (by simp [hy]), List.takeWhile_cons_of_neg (by simp [hy])]
      simp
  rw [h.1, h.2]; simp
theorem insP_perm (lt : α → α → Bool) (x : α) (s : List α) : (insP lt x s).Perm (x :: s) := by
  unfold insP
  have h : s = (s.reverse.dropWhile (lt x)).reverse ++ (s.reverse.takeWhile (lt x)).reverse := by
    rw [← List.reverse_append, List.takeWhile_append_dropWhile, List.reverse_reverse]
  refine List.Perm.trans List.perm_middle ?_
  rw [← h]
theorem isort_perm_aux (lt : α → α → Bool) : ∀ (xs s : List α), (xs.foldl (fun s x => insP lt x s) s).Perm (s ++ xs)
  | [], s => by simp
  | x :: xs, s => by
    refine (isort_perm_aux lt xs _).trans ?_
    refine ((insP_perm lt x s).append_right xs).trans ?_
    exact List.perm_middle.symm
theorem isort_perm (lt : α → α → Bool) (xs : List α) : (isortL lt xs).Perm xs := by simpa [isortL] using isort_perm_aux lt xs []
theorem isort_snoc (lt : α → α → Bool) (xs : List α) (x : α) : isortL lt (xs ++ [x]) = insP lt x (isortL lt xs) := by simp [isortL]
/-- sorted by R, if the one that is put in behind keeps R -/
theorem insP_pw {lt : α → α → Bool} {R : α → α → Prop} (htr : ∀ a b c, R a b → R b c → R a c) (hlt : ∀ a b, lt a b = true → R a b) {x : α} {s : List α} (hs : s.Pairwise R) (hx : ∀ y ∈ s, lt x y = false → R y x) : (insP lt x s).Pairwise R := by
  unfold insP
  have h : s = (s.reverse.dropWhile (lt x)).reverse ++ (s.reverse.takeWhile (lt x)).reverse := by
    rw [← List.reverse_append, List.takeWhile_append_dropWhile, List.reverse_reverse]
  generalize hp : (s.reverse.dropWhile (lt x)).reverse = p at *
  generalize hq : (s.reverse.takeWhile (lt x)).reverse = q at *
  have hqt : ∀ y ∈ q, R x y := fun y hy => by
    rw [← hq, List.mem_reverse] at hy
    have hal := List.all_takeWhile (p := lt x) (l := s.reverse)
    rw [List.all_eq_true] at hal
    exact hlt x y (hal y hy)
  have hpx : ∀ y ∈ p, R y x := by
    intro y hy
    rcases List.eq_nil_or_concat p with e | ⟨p', z, e⟩ <;> (try rw [List.concat_eq_append] at e)
    · rw [e] at hy; simp at hy
    · have hz : lt x z = false := by
        have e2 : s.reverse.dropWhile (lt x) = z :: p'.reverse := by have := congrArg List.reverse hp; rw [e] at this; simpa using this
        have := List.head?_dropWhile_not (lt x) s.reverse
        rw [e2] at this
        simpa using this
      have hzs : z ∈ s := by rw [h, e]; simp
      have hzx := hx z hzs hz
      rw [e] at hy
      simp at hy
      rcases hy with hy | rfl
      · rw [h, e] at hs
        have := (List.pairwise_append.1 (List.pairwise_append.1 hs).1).2.2 y hy z (by simp)
        exact htr _ _ _ this hzx
      · exact hzx
  rw [h] at hs
  obtain ⟨h1, h2, h3⟩ := List.pairwise_append.1 hs
  refine List.pairwise_append.2 ⟨h1, List.pairwise_cons.2 ⟨hqt, h2⟩, fun y hy z hz => ?_⟩
  rcases List.mem_cons.1 hz with rfl | hz
  · exact hpx y hy
  · exact h3 y hy z hz
theorem isort_pw_aux {lt : α → α → Bool} {R : α → α → Prop} (htr : ∀ a b c, R a b → R b c → R a c) (hlt : ∀ a b, lt a b = true → R a b) : ∀ (xs s : List α), s.Pairwise R → (∀ y ∈ s, ∀ x ∈ xs, lt x y = false → R y x) → xs.Pairwise (fun y x => lt x y = false → R y x) →
    (xs.foldl (fun s x => insP lt x s) s).Pairwise R
  | [], s, hs, _, _ => hs
  | x :: xs, s, hs, hx, hp => by
    refine isort_pw_aux htr hlt xs _ (insP_pw htr hlt hs (fun y hy => hx y hy x (by simp))) (fun y hy z hz => ?_) (List.pairwise_cons.1 hp).2
    rcases List.mem_cons.1 ((insP_perm lt x s).mem_iff.1 hy) with rfl | hy
    · exact (List.pairwise_cons.1 hp).1 z hz
    · exact hx y hy z (by simp [hz])
theorem isort_pw {lt : α → α → Bool} {R : α → α → Prop} (htr : ∀ a b c, R a b → R b c → R a c) (hlt : ∀ a b, lt a b = true → R a b) {xs : List α} (hp : xs.Pairwise (fun y x => lt x y = false → R y x)) : (isortL lt xs).Pairwise R :=
  isort_pw_aux htr hlt xs [] List.Pairwise.nil (by simp) hp
/-- in a list that is sorted, the place is the number of those ahead -/
theorem pw_place {R : α → α → Prop} {f : α → Bool} {l : List α} {p : Nat} {x : α} (hl : l.Pairwise R) (has : ∀ a b, R a b → ¬ R b a) (hx : l[p]? = some x) (hf : ∀ y, f y = true ↔ R y x) : (l.filter f).length = p := by
  obtain ⟨hp, e⟩ := List.getElem?_eq_some_iff.1 hx
  have hs : l = l.take p ++ x :: l.drop (p + 1) := by
    have := List.take_append_drop p l
    rw [List.drop_eq_getElem_cons hp, e] at this; exact this.symm
  rw [hs] at hl
  obtain ⟨h1, h2, h3⟩ := List.pairwise_append.1 hl
  have hirr : f x = false := by
    cases q : f x with
    | false => rfl
    | true => exact absurd ((hf x).1 q) (has x x ((hf x).1 q))
  rw [hs, List.filter_append, List.filter_cons_of_neg (by simp [hirr]), List.length_append]
  have e1 : (l.take p).filter f = l.take p := List.filter_eq_self.2 (fun y hy => (hf y).2 (h3 y hy x (by simp)))
  have e2 : (l.drop (p + 1)).filter f = [] := List.filter_eq_nil_iff.2 (fun y hy h => has x y ((List.pairwise_cons.1 h2).1 y hy) ((hf y).1 h))
  rw [e1, e2]; simp; omega
end
def idxs (n : Nat) : List Int := (List.range n).map (fun (k : Nat) => (k : Int))
theorem idxs_len (n : Nat) : (idxs n).length = n := by simp [idxs]
theorem idxs_mem {n : Nat} {x : Int} : x ∈ idxs n ↔ 0 ≤ x ∧ x < n := by
  unfold idxs; rw [List.mem_map]
  constructor
  · rintro ⟨k, hk, rfl⟩; simp at hk; omega
  · rintro ⟨h1, h2⟩; exact ⟨x.toNat, by simp; omega, by omega⟩
theorem idxs_get {n k : Nat} (h : k < n) : (idxs n)[k]? = some (k : Int) := by simp [idxs, h]
theorem idxs_pw (n : Nat) : (idxs n).Pairwise (· < ·) := by
  unfold idxs
  rw [List.pairwise_map]
  exact List.pairwise_lt_range.imp (fun h => by omega)
theorem idxs_nodup (n : Nat) : (idxs n).Nodup := (idxs_pw n).imp (fun h => by omega)
end Go.Proofs.Ytlhnhmimhpcoaaa
