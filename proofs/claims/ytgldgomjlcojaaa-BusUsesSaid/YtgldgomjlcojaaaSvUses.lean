/- Who uses which tick, in plain Lean. No condition: plain lemmas. -/
import Derived.Test.YtgldgomjlcojaaaSvTop
import Derived.Test.YtgldgomjlcojaaaBsTell
namespace Go.Proofs.Ytgldgomjlcojaaa
open Go.RowKit
set_option linter.unusedSimpArgs false
set_option linter.unusedVariables false
section
variable {T : List Int} {q : List Rq}
theorem useB_iff {t k : Nat} : useB T q t k = true ↔ (bgN T q k ≤ t ∧ t < enN T q k) ∧ hitB T (rqAt q k).m t = true := by unfold useB; simp [Bool.and_eq_true]
theorem use_one (h : OkQ T q) {t i k : Nat} (hi : i < q.length) (hk : k < q.length) (h1 : useB T q t i = true) (h2 : useB T q t k = true) : i = k := by
  rw [useB_iff] at h1 h2
  have hm : (rqAt q i).m = (rqAt q k).m := by
    have a := h1.2
    have b := h2.2
    unfold hitB at a b
    simp only [decide_eq_true_eq] at a b
    rw [a] at b; simpa using b
  have mi : (i : Int) ∈ ordQ q := ordQ_mem.2 ⟨by omega, by omega⟩
  have mk : (k : Int) ∈ ordQ q := ordQ_mem.2 ⟨by omega, by omega⟩
  by_cases e : i = k
  · exact e
  · exfalso
    have : aheadQ q i k = true ∨ aheadQ q k i = true := by rw [aheadQ_iff, aheadQ_iff]; omega
    rcases this with g | g
    · have := en_le_bg h mi mk hm g; omega
    · have := en_le_bg h mk mi hm.symm g; omega
theorem busyF_spec {t : Nat} : ∀ (f k : Nat), (busyF T q t f k = -1 ∧ ∀ j, k ≤ j → j < k + f → useB T q t j = false) ∨ ∃ j : Nat, busyF T q t f k = j ∧ k ≤ j ∧ j < k + f ∧ useB T q t j = true
  | 0, k => .inl ⟨rfl, fun j h1 h2 => by omega⟩
  | f + 1, k => by
    rw [busyF]
    cases h : useB T q t k
    · rw [if_neg (by simp)]
      rcases busyF_spec f (k + 1) with ⟨e, hn⟩ | ⟨j, e, h1, h2, h3⟩
      · refine .inl ⟨e, fun j h1 h2 => ?_⟩
        by_cases hj : j = k
        · subst hj; exact h
        · exact hn j (by omega) (by omega)
      · exact .inr ⟨j, e, by omega, by omega, h3⟩
    · rw [if_pos rfl]
      exact .inr ⟨k, rfl, Nat.le_refl _, by omega, h⟩
/-- how many of the first t ticks request k uses -/
def uF (T : List Int) (q : List Rq) (k : Nat) : Nat → Nat
  | 0 => 0
  | t + 1 => uF T q k t + if useB T q t k = true then 1 else 0
theorem uF_at (k : Nat) (hbe : bgN T q k < enN T q k) : ∀ t, (t ≤ bgN T q k → uF T q k t = 0) ∧ (bgN T q k ≤ t → t ≤ enN T q k → uF T q k t + cF T (rqAt q k).m (bgN T q k) = cF T (rqAt q k).m t) ∧ (enN T q k ≤ t → uF T q k t + cF T (rqAt q k).m (bgN T q k) = cF T (rqAt q k).m (enN T q k))
  | 0 => ⟨fun _ => rfl, fun h1 h2 => by rw [show bgN T q k = 0 by omega]; simp [uF, cF], fun h => by omega⟩
  | t + 1 => by
    obtain ⟨h1, h2, h3⟩ := uF_at k hbe t
    rw [uF]
    by_cases c1 : t < bgN T q k
    · have hu : useB T q t k = false := by
        cases e : useB T q t k
        · rfl
        · have := (useB_iff.1 e).1; omega
      rw [hu]
      have h10 := h1 (by omega)
      refine ⟨fun _ => by simp [h10], fun g1 g2 => ?_, fun g => by omega⟩
      rw [show t + 1 = bgN T q k by omega, h10]; simp
    · by_cases c2 : t < enN T q k
      · have hu : useB T q t k = hitB T (rqAt q k).m t := by
          rw [Bool.eq_iff_iff, useB_iff]
          constructor
          · exact fun g => g.2
          · exact fun g => ⟨by omega, g⟩
        have h20 := h2 (by omega) (by omega)
        rw [hu]
        refine ⟨fun g => by omega, fun g1 g2 => ?_, fun g => ?_⟩
        · rw [cF]; omega
        · rw [show enN T q k = t + 1 by omega, cF]; omega
      · have hu : useB T q t k = false := by
          cases e : useB T q t k
          · rfl
          · have := (useB_iff.1 e).1; omega
        rw [hu]
        have h30 := h3 (by omega)
        exact ⟨fun g => by omega, fun g1 g2 => by omega, fun g => by simpa using h30⟩
theorem uF_end (h : OkQ T q) {k t : Nat} (hk : k < q.length) (ht : enN T q k ≤ t) : (uF T q k t : Int) = (rqAt q k).k := by
  have mk : (k : Int) ∈ ordQ q := ordQ_mem.2 ⟨by omega, by omega⟩
  obtain ⟨h1, h2, _⟩ := ord_rq h mk
  have h3 := (uF_at k (bg_lt_en h mk) t).2.2 ht
  have h4 := (endN_spec h1 (a := bgN T q k) h2).1
  have h5 : enN T q k = endN T (rqAt q k).m (bgN T q k) (rqAt q k).k.toNat := rfl
  rw [← h5] at h4
  omega
theorem uF_le (k : Nat) : ∀ t, uF T q k t ≤ t
  | 0 => Nat.le_refl _
  | t + 1 => by
    have := uF_le k t
    rw [uF]; split <;> omega
def useL (T : List Int) (q : List Rq) (t : Nat) : List Int := (List.range q.length).map fun k => (uF T q k t : Int)
theorem useL_none (h : OkQ T q) {t : Nat} (hb : busyF T q t q.length 0 = -1) : useL T q (t + 1) = useL T q t := by
  unfold useL
  refine List.map_congr_left (fun k hk => ?_)
  rcases busyF_spec (T := T) (q := q) (t := t) q.length 0 with ⟨_, hn⟩ | ⟨j, e, _⟩
  · rw [uF, hn k (Nat.zero_le _) (by have := List.mem_range.1 hk; omega)]; simp
  · rw [hb] at e; omega
theorem useL_some (h : OkQ T q) {t j : Nat} (hj : j < q.length) (hu : useB T q t j = true) : useL T q (t + 1) = (useL T q t).set j ((uF T q j t : Int) + 1) := by
  apply List.ext_getElem?
  intro k
  rw [List.getElem?_set]
  unfold useL
  simp only [List.getElem?_map, List.length_map, List.length_range]
  by_cases hk : k < q.length
  · rw [List.getElem?_range hk]
    by_cases e : j = k
    · subst e
      rw [if_pos rfl, if_pos hk]
      simp [uF, hu]
    · rw [if_neg e]
      have : useB T q t k = false := by
        cases e2 : useB T q t k
        · rfl
        · exact absurd (use_one h hj hk hu e2) e
      simp [uF, this]
  · rw [List.getElem?_eq_none (by simp; omega)]
    by_cases e : j = k
    · omega
    · rw [if_neg e]; rfl
/-- the last end -/
def lsF (T : List Int) (q : List Rq) : Nat → Nat
  | 0 => 0
  | k + 1 => max (lsF T q k) (enN T q k)
theorem lsF_ge : ∀ (k j : Nat), j < k → enN T q j ≤ lsF T q k
  | k + 1, j, h => by
    rw [lsF]
    by_cases e : j = k
    · subst e; omega
    · have := lsF_ge k j (by omega); omega
theorem lsF_small (h : OkS T q) (hl : q.length ≤ 40) : ∀ k : Nat, k ≤ q.length → lsF T q k ≤ 2000000
  | 0, _ => by simp [lsF]
  | k + 1, hk => by
    rw [lsF]
    have h1 := lsF_small h hl k (by omega)
    have h2 := (bg_far h hl (k := (k : Int)) (ordQ_mem.2 ⟨by omega, by omega⟩)).2
    omega
end
end Go.Proofs.Ytgldgomjlcojaaa
