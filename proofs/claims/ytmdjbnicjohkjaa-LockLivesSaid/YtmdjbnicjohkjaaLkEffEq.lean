/- What effective computes, place by place. No condition: plain lemmas. -/
import Derived.Test.YtmdjbnicjohkjaaLkRow
namespace Go.Proofs.Ytmdjbnicjohkjaa
open Go.RowKit
set_option linter.unusedSimpArgs false
set_option linter.unusedVariables false
/-- the program's value at place i, from k on -/
def effP (g : List Th) (i : Nat) : Nat → Nat → Int → Int
  | 0, _, v => v
  | f + 1, k, v => effP g i f (k + 1) (if k = i ∨ hasB (chainG g k) i = true then max v (priG g k) else v)
/-- the reference's value at place i, from k on -/
def effQ (g : List Th) (i : Nat) : Nat → Nat → Int → Int
  | 0, _, v => v
  | f + 1, k, v => effQ g i f (k + 1) (if hasB (chainG g k) i = true then max v (priG g k) else v)
def effV (g : List Th) (i : Nat) : Int := effQ g i g.length 0 (priG g i)
theorem upd_get {p v : Int} {xs : List Int} {i : Nat} {n : Int} (hn : 0 ≤ n) (h : xs[i]? = some v) : (upd p xs n)[i]? = some (if n = i then max v p else v) := by
  obtain ⟨m, rfl⟩ := Int.eq_ofNat_of_zero_le hn
  have hi := (List.getElem?_eq_some_iff.1 h).1
  unfold upd
  simp only [Int.toNat_natCast]
  rw [List.getElem?_set]
  by_cases e : m = i
  · subst e; have hv := (List.getElem?_eq_some_iff.1 h).2; simp [hi, hv]
  · rw [if_neg e, if_neg (by omega), h]
theorem foldl_upd_get {p : Int} {i : Nat} : ∀ (C : List Int) (xs : List Int) (v : Int), (∀ x ∈ C, 0 ≤ x) → xs[i]? = some v → (C.foldl (upd p) xs)[i]? = some (if hasB C i = true then max v p else v)
  | [], xs, v, _, h => by simpa [hasB] using h
  | x :: C, xs, v, hC, h => by
    rw [List.foldl_cons, foldl_upd_get C _ _ (fun y hy => hC y (by simp [hy])) (upd_get (hC x (by simp)) h), hasB_cons]
    congr 1
    by_cases e : x = (i : Int)
    · subst e; simp
    · have e1 : ((i : Int) == x) = false := by simpa using fun q : (i : Int) = x => e q.symm
      rw [e1, if_neg e, Bool.false_or]
theorem effStep_get {g : List Th} {k i : Nat} {xs : List Int} {v : Int} (hk : k < g.length) (h : xs[i]? = some v) : (effStep g xs k)[i]? = some (if k = i ∨ hasB (chainG g k) i = true then max v (priG g k) else v) := by
  unfold effStep
  rw [foldl_upd_get _ _ _ (fun x hx => (chainG_rng g k (by omega) x hx).1) (upd_get (by omega) h)]
  congr 1
  by_cases e : k = i
  · subst e; simp
  · have e1 : ¬ ((k : Int) = i) := by omega
    simp [e, e1]
theorem effFrom_get {g : List Th} {i : Nat} : ∀ (f k : Nat) (xs : List Int) (v : Int), k + f = g.length → xs[i]? = some v → (effFrom g f k xs)[i]? = some (effP g i f k v)
  | 0, _, _, _, _, h => h
  | f + 1, k, xs, v, hk, h => effFrom_get f (k + 1) _ _ (by omega) (effStep_get (by omega) h)
theorem effP_eq {g : List Th} {i : Nat} : ∀ (f k : Nat) (v : Int), effP g i f k v = if k ≤ i ∧ i < k + f then effQ g i f k (max v (priG g i)) else effQ g i f k v
  | 0, k, v => by rw [if_neg (by omega)]; rfl
  | f + 1, k, v => by
    rw [effP, effP_eq f (k + 1)]
    rcases Nat.lt_trichotomy k i with h | h | h
    · have e0 : ¬ k = i := by omega
      by_cases h2 : i < k + (f + 1)
      · rw [if_pos (show k + 1 ≤ i ∧ i < k + 1 + f by omega), if_pos (show k ≤ i ∧ i < k + (f + 1) by omega), effQ]
        congr 1
        simp only [e0, false_or]
        split <;> omega
      · rw [if_neg (show ¬ (k + 1 ≤ i ∧ i < k + 1 + f) by omega), if_neg (show ¬ (k ≤ i ∧ i < k + (f + 1)) by omega), effQ]
        simp only [e0, false_or]
    · subst h
      rw [if_neg (show ¬ (k + 1 ≤ k ∧ k < k + 1 + f) by omega), if_pos (show k ≤ k ∧ k < k + (f + 1) by omega), effQ]
      congr 1
      simp only [true_or, if_true]
      split <;> omega
    · have e0 : ¬ k = i := by omega
      rw [if_neg (show ¬ (k + 1 ≤ i ∧ i < k + 1 + f) by omega), if_neg (show ¬ (k ≤ i ∧ i < k + (f + 1)) by omega), effQ]
      simp only [e0, false_or]
theorem effFrom_len {g : List Th} : ∀ (f k : Nat) (xs : List Int), (effFrom g f k xs).length = xs.length
  | 0, _, _ => rfl
  | f + 1, k, xs => by
    rw [effFrom, effFrom_len f (k + 1)]
    unfold effStep
    have : ∀ (C : List Int) (ys : List Int), (C.foldl (upd (priG g k)) ys).length = ys.length := by
      intro C
      induction C with
      | nil => intro ys; rfl
      | cons x C ih => intro ys; rw [List.foldl_cons, ih, upd_len]
    rw [this, upd_len]
/-- with no priority below 0 the two agree -/
theorem effL_get {g : List Th} (hp : ∀ t ∈ g, 0 ≤ t.pri) (i : Nat) (hi : i < g.length) : (effL g)[i]? = some (effV g i) := by
  unfold effL
  rw [effFrom_get (i := i) g.length 0 _ 0 (by omega) (by simp [hi]), effP_eq, if_pos (by omega), effV]
  congr 2
  have : priG g i = (g[i]).pri := by simp [priG, hi]
  have h2 := hp g[i] (List.getElem_mem hi)
  rw [this]; omega
theorem effL_eq {g : List Th} (hp : ∀ t ∈ g, 0 ≤ t.pri) : effL g = (List.range g.length).map (effV g) := by
  apply List.ext_getElem?
  intro i
  by_cases hi : i < g.length
  · rw [effL_get hp i hi]; simp [hi]
  · rw [List.getElem?_eq_none (by unfold effL; rw [effFrom_len]; simp; omega), List.getElem?_eq_none (by simp; omega)]
end Go.Proofs.Ytmdjbnicjohkjaa
