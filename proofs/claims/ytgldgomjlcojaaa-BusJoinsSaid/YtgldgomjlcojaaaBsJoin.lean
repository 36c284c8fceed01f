/- Plain facts: a slot more for a master. No condition: plain lemmas. -/
import Derived.Test.YtgldgomjlcojaaaBsFar
namespace Go.Proofs.Ytgldgomjlcojaaa
open Go.RowKit
set_option linter.unusedSimpArgs false
set_option linter.unusedVariables false
/-- the owner at i is changed -/
def joinS (l : List P2) (i : Nat) (m : Int) : List P2 := l.set i (m, ((l[i]?).map Prod.snd).getD 0)
theorem joinS_len (l : List P2) (i : Nat) (m : Int) : (joinS l i m).length = l.length := by simp [joinS]
theorem joinS_zero (s : P2) (l : List P2) (m : Int) : joinS (s :: l) 0 m = (m, s.2) :: l := rfl
theorem joinS_succ (s : P2) (l : List P2) (i : Nat) (m : Int) : joinS (s :: l) (i + 1) m = s :: joinS l i m := rfl
theorem joinS_valid {l : List P2} (h : validS l = true) {i : Nat} (hi : i < l.length) {m : Int} (hm : 0 ≤ m ∧ m ≤ 3) : validS (joinS l i m) = true := by
  obtain ⟨h1, h2, h3⟩ := validS_iff.1 h
  refine validS_iff.2 ⟨by rw [joinS_len]; exact h1, by rw [joinS_len]; exact h2, fun s hs => ?_⟩
  rcases List.mem_or_eq_of_mem_set hs with hs | rfl
  · exact h3 s hs
  · have := h3 (l[i]) (List.getElem_mem hi)
    simp [hi]
    exact ⟨hm, this.2⟩
theorem joinS_table : ∀ (l : List P2) (i : Nat) (m : Int), (tableS (joinS l i m)).length = (tableS l).length ∧ ∀ j : Nat, (tableS l)[j]? = some m → (tableS (joinS l i m))[j]? = some m
  | [], i, m => ⟨by simp [joinS], fun j h => by simp [tableS] at h⟩
  | s :: l, 0, m => by
    rw [joinS_zero, tableS_cons, tableS_cons]
    refine ⟨by simp, fun j h => ?_⟩
    by_cases hj : j < s.2.toNat
    · rw [List.getElem?_append_left (by simpa using hj)]; simp [hj]
    · rw [List.getElem?_append_right (by simp; omega)] at h ⊢
      simpa using h
  | s :: l, i + 1, m => by
    obtain ⟨h1, h2⟩ := joinS_table l i m
    rw [joinS_succ, tableS_cons, tableS_cons]
    refine ⟨by simp [h1], fun j h => ?_⟩
    by_cases hj : j < s.2.toNat
    · rw [List.getElem?_append_left (by simpa using hj)] at h ⊢; exact h
    · rw [List.getElem?_append_right (by simp; omega)] at h ⊢
      exact h2 _ h
theorem joinS_has : ∀ (l : List P2) (i : Nat) (m : Int), i < l.length → (∀ s ∈ l, 1 ≤ s.2) → ∃ j, j < (tableS (joinS l i m)).length ∧ (tableS (joinS l i m))[j]? = some m
  | s :: l, 0, m, _, h => by
    have := h s (by simp)
    rw [joinS_zero, tableS_cons]
    obtain ⟨x, hx⟩ : ∃ x, s.2.toNat = x + 1 := ⟨s.2.toNat - 1, by omega⟩
    simp only []
    rw [hx, List.replicate_succ]
    exact ⟨0, by simp, by simp⟩
  | s :: l, i + 1, m, hi, h => by
    obtain ⟨j, h1, h2⟩ := joinS_has l i m (by simpa using hi) (fun x hx => h x (by simp [hx]))
    rw [joinS_succ, tableS_cons]
    exact ⟨s.2.toNat + j, by simp; omega, by rw [List.getElem?_append_right (by simp)]; simpa using h2⟩
section
variable {t t' : List Int} {m : Int}
theorem cF_more (h : ∀ i, hitB t m i = true → hitB t' m i = true) (a : Nat) : ∀ b, cF t m (a + b) - cF t m a ≤ cF t' m (a + b) - cF t' m a
  | 0 => by simp
  | b + 1 => by
    have ih := cF_more h a b
    have h1 := (cF_add (t := t) (m := m) a b).1
    have h2 := (cF_add (t := t') (m := m) a b).1
    rw [← Nat.add_assoc, cF_succ, cF_succ]
    cases q : hitB t m (a + b)
    · simp; split <;> omega
    · rw [h _ q]; simp; omega
theorem hit_more (hl : t'.length = t.length) (h : ∀ j : Nat, t[j]? = some m → t'[j]? = some m) : ∀ i, hitB t m i = true → hitB t' m i = true := by
  intro i hi
  unfold hitB at *
  rw [hl]
  simp at hi ⊢
  exact h _ hi
theorem wn_more (h : ∀ i, hitB t m i = true → hitB t' m i = true) (w a : Nat) : wn t m w a ≤ wn t' m w a := by
  have := cF_more h a w
  have h1 := (cF_add (t := t) (m := m) a w).1
  have h2 := (cF_add (t := t') (m := m) a w).1
  unfold wn; omega
theorem dl_more (h : ∀ i, hitB t m i = true → hitB t' m i = true) (hc : 0 < cnt t m) (hc' : 0 < cnt t' m) {k : Nat} (hk : 1 ≤ k) (a : Nat) : dl t' m k a ≤ dl t m k a := by
  obtain ⟨h1, h2, h3⟩ := endN_spec hc (a := a) hk
  have h4 := (endN_le hc' (a := a) (x := endN t m a k) hk).2 (by
    have := cF_more h a (endN t m a k - a)
    rw [show a + (endN t m a k - a) = endN t m a k by omega] at this
    have := cF_mono (t := t') (m := m) (show a ≤ endN t m a k by omega)
    omega)
  unfold dl; omega
end
theorem cnt_pos {t : List Int} {m : Int} {j : Nat} (hj : j < t.length) (h : t[j]? = some m) : 0 < cnt t m := by
  have h1 : hitB t m j = true := by rw [hit_lt hj]; simpa using h
  have h2 : cF t m (j + 1) = cF t m j + 1 := by rw [cF_succ, h1]; rfl
  have := cF_mono (t := t) (m := m) (show j + 1 ≤ t.length by omega)
  unfold cnt; omega
theorem joins_least {l : List P2} (hv : validS l = true) {i : Nat} (hi : i < l.length) {m wd : Int} (hm : 0 ≤ m ∧ m ≤ 3) (hw : 0 ≤ wd ∧ wd ≤ 10000) :
    ∃ a b c d : Int, winR l m wd = (a, c, 0) ∧ winR (joinS l i m) m wd = (b, d, 0) ∧ a ≤ b := by
  have hv' := joinS_valid hv hi hm
  obtain ⟨h1, h2⟩ := joinS_table l i m
  have hl := (tableS_len hv).1
  refine ⟨_, _, _, _, by unfold winR winOk; rw [hv, inB_iff.2 hm, inB_iff.2 hw]; rfl, by unfold winR winOk; rw [hv', inB_iff.2 hm, inB_iff.2 hw]; rfl, ?_⟩
  rw [h1]
  obtain ⟨j, hj, e⟩ := lstF_mem (f := wn (tableS (joinS l i m)) m wd.toNat) (k := (tableS l).length) (by omega)
  rw [e]
  exact Int.le_trans (lstF_le hj) (wn_more (hit_more h1 h2) _ _)
theorem joins_worst {l : List P2} (hv : validS l = true) {i : Nat} (hi : i < l.length) {m k : Int} (hm : 0 ≤ m ∧ m ≤ 3) (hk : 1 ≤ k ∧ k ≤ 100) :
    ∃ c d e f g : Int, farR true l m k = (c, d, g) ∧ farR true (joinS l i m) m k = (e, f, 0) ∧ (g = 3 ∨ e ≤ c) := by
  have hv' := joinS_valid hv hi hm
  obtain ⟨h1, h2⟩ := joinS_table l i m
  have hl := (tableS_len hv).1
  obtain ⟨j0, h3, h4⟩ := joinS_has l i m hi (fun s hs => ((validS_iff.1 hv).2.2 s hs).2.1)
  have hc' := cnt_pos h3 h4
  have hok : okR m 0 k = true := okR_iff.2 ⟨hm, ⟨by omega, by omega⟩, hk⟩
  have e' : farR true (joinS l i m) m k = ((bstF true (dl (tableS (joinS l i m)) m k.toNat) (tableS (joinS l i m)).length).1, (bstF true (dl (tableS (joinS l i m)) m k.toNat) (tableS (joinS l i m)).length).2, 0) := by
    unfold farR; rw [hv', hok]; simp only [Bool.and_self, if_true]; rw [if_neg (by omega)]
  by_cases hc : cnt (tableS l) m = 0
  · refine ⟨0, 0, _, _, 3, ?_, e', .inl rfl⟩
    unfold farR; rw [hv, hok]; simp only [Bool.and_self, if_true]; rw [if_pos hc]
  · refine ⟨(bstF true (dl (tableS l) m k.toNat) (tableS l).length).1, (bstF true (dl (tableS l) m k.toNat) (tableS l).length).2, _, _, 0, ?_, e', .inr ?_⟩
    · unfold farR; rw [hv, hok]; simp only [Bool.and_self, if_true]; rw [if_neg hc]
    · rw [h1]
      obtain ⟨j, hj, e1, _⟩ := bstF_spec (gt := true) (f := dl (tableS (joinS l i m)) m k.toNat) (k := (tableS l).length) (by omega)
      obtain ⟨j2, hj2, e2, h5⟩ := bstF_spec (gt := true) (f := dl (tableS l) m k.toNat) (k := (tableS l).length) (by omega)
      rw [e1, e2]
      have h6 := h5 j hj
      simp only [if_true] at h6
      exact Int.le_trans (dl_more (hit_more h1 h2) (by omega) hc' (by omega) j) h6
theorem joins_bad {l : List P2} {m k : Int} (hk : ¬ (1 ≤ k ∧ k ≤ 100)) : farR true l m k = (0, 0, 1) := by
  have : okR m 0 k = false := by
    rw [Bool.eq_false_iff]; intro h; exact hk (okR_iff.1 h).2.2
  unfold farR; rw [this]; simp
end Go.Proofs.Ytgldgomjlcojaaa
