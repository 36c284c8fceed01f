/- What Timer gives: it is there, it ascends, and Timed's pattern allows it. No condition: plain lemmas. -/
import Derived.Test.YtfiggbeaomkepaaTmTimer
import Derived.Test.YtfiggbeaomkepaaAllow
namespace Go.Proofs.Ytfiggbeaomkepaa
open Go.RowKit
set_option linter.unusedSimpArgs false
set_option linter.unusedVariables false
section
variable {o a d n u : Int}
theorem TmOk.grow (h : TmOk o a d n) (k : Nat) : (k : Int) + 1 ≤ xT o d n k := by
  induction k with
  | zero => have := h.x0 0; omega
  | succ k ih =>
    have hd := (vclk_iff.1 h.v).2.2
    have hn := h.n
    have := Int.mul_le_mul (a := 1) (b := 1) (c := n) (d := d) (by omega) (by omega) (by omega) (by omega)
    rw [xT_succ]; omega
theorem tm_ex (h : TmOk o a d n) (hu : 0 ≤ u) : ∃ l, IsTm o a d n u l := by
  have key : ∀ k : Nat, (∃ l, IsTm o a d n u l) ∨ ((∀ x ∈ preT o a d n k, x ≤ u) ∧ (preT o a d n k).length ≤ 40) := by
    intro k
    induction k with
    | zero => right; exact ⟨fun x hx => (by cases hx), by simp [preT]⟩
    | succ k ih =>
      rcases ih with ih | ⟨h1, h2⟩
      · exact .inl ih
      · by_cases hl : (preT o a d n k).length = 40
        · exact .inl ⟨_, h1, h2, k, rfl, .inl hl⟩
        · by_cases hx : u < atT o a d n k
          · exact .inl ⟨_, h1, h2, k, rfl, .inr hx⟩
          · right
            by_cases e : atT o a d n k = lastT o a d n k
            · rw [preT_same e]; exact ⟨h1, h2⟩
            · rw [preT_new e]
              refine ⟨fun x hx => ?_, by simp; omega⟩
              rcases List.mem_append.1 hx with hx | hx
              · exact h1 x hx
              · simp at hx; omega
  have ha := (vclk_iff.1 h.v).2.1
  rcases key (u * a).toNat with hk | ⟨h1, h2⟩
  · exact hk
  · refine ⟨_, h1, h2, _, rfl, .inr ?_⟩
    have g1 := h.grow (u * a).toNat
    have g2 := (h.ceil (u * a).toNat).1
    have hua := Int.mul_nonneg hu (show 0 ≤ a by omega)
    rcases Int.lt_or_le u (atT o a d n (u * a).toNat) with q | q
    · exact q
    · have := Int.mul_le_mul_of_nonneg_right q (show 0 ≤ a by omega)
      omega
theorem tmR_spec (h : TmOk o a d n) (hu : 0 ≤ u) : IsTm o a d n u (tmR o a d n u) := by
  obtain ⟨l, hl⟩ := tm_ex h hu
  rw [tmR_is h hl]; exact hl
theorem TmOk.first_le (h : TmOk o a d n) : ∀ k : Nat, atT o a d n 0 ≤ atT o a d n k ∧ ∀ x ∈ preT o a d n k, atT o a d n 0 ≤ x
  | 0 => ⟨Int.le_refl _, fun x hx => (by cases hx)⟩
  | k + 1 => by
    obtain ⟨h1, h2⟩ := h.first_le k
    refine ⟨Int.le_trans h1 (h.step k).1, fun x hx => ?_⟩
    by_cases e : atT o a d n k = lastT o a d n k
    · rw [preT_same e] at hx; exact h2 x hx
    · rw [preT_new e] at hx
      rcases List.mem_append.1 hx with hx | hx
      · exact h2 x hx
      · simp at hx; omega
/-- pairs without lateness -/
def zl (l : List Int) : List P2 := l.map fun x => (x, 0)
theorem allow_zl {g : Int} : ∀ (l : List Int) (least : Int), (∀ x, l[0]? = some x → least ≤ x) → (∀ (i : Nat) (x y : Int), l[i]? = some x → l[i + 1]? = some y → x + g ≤ y) → allowGo g 0 least (zl l) = true
  | [], _, _, _ => rfl
  | x :: l, least, h1, h2 => by
    have hx := h1 x rfl
    show (if x < least ∨ (0 : Int) < 0 then false else allowGo g 0 (x + g) (zl l)) = true
    rw [if_neg (by omega)]
    exact allow_zl l _ (fun y hy => h2 0 x y rfl (by simpa using hy)) (fun i y z hy hz => h2 (i + 1) y z (by simpa using hy) (by simpa using hz))
theorem tm_allow (h : TmOk o a d n) (hu : 0 ≤ u ∧ u ≤ 1000000) {l : List Int} (hl : IsTm o a d n u l) (hp : vpat (atT o a d n 0) (gapT a d n) 0 = true) : allowR (atT o a d n 0) (gapT a d n) 0 (zl l) = (true, 0) := by
  obtain ⟨k, rfl, _⟩ := hl.at_
  have hL := (h.list k).1
  have hle : listE (zl (preT o a d n k)) = 0 := by
    unfold listE
    have hany : (zl (preT o a d n k)).any farB = false := by
      rw [List.any_eq_false]
      intro x hx
      obtain ⟨y, hy, rfl⟩ := List.mem_map.1 hx
      have := hL.ge y hy; have := hl.le y hy
      unfold farB
      simp [inB]; omega
    rw [hany, if_neg (by simp), if_neg (by have := hl.len; unfold zl; simp; omega)]
  unfold allowR
  rw [if_pos hp, if_pos hle, allow_zl _ _ (fun x hx => (h.first_le k).2 x (List.mem_of_getElem? hx)) hL.gap]
end
end Go.Proofs.Ytfiggbeaomkepaa
