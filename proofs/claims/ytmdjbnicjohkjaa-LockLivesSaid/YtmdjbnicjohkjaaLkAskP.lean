/- Plain facts: what Ask gives, of both sides the same. No condition: plain lemmas. -/
import Derived.Test.YtmdjbnicjohkjaaLkReach
namespace Go.Proofs.Ytmdjbnicjohkjaa
open Go.RowKit
set_option linter.unusedSimpArgs false
set_option linter.unusedVariables false
theorem asc_ext : ∀ {l l' : List Int}, l.Pairwise (· < ·) → l'.Pairwise (· < ·) → (∀ x, x ∈ l ↔ x ∈ l') → l = l'
  | [], [], _, _, _ => rfl
  | [], y :: l', _, _, h => by have := (h y).2 (by simp); simp at this
  | x :: l, [], _, _, h => by have := (h x).1 (by simp); simp at this
  | x :: l, y :: l', h1, h2, h => by
    rw [List.pairwise_cons] at h1 h2
    have e : x = y := by
      rcases List.mem_cons.1 ((h x).1 (by simp)) with e | e
      · exact e
      · rcases List.mem_cons.1 ((h y).2 (by simp)) with e' | e'
        · exact e'.symm
        · have := h1.1 y e'; have := h2.1 x e; omega
    subst e
    rw [asc_ext h1.2 h2.2 (fun z => ?_)]
    constructor
    · intro hz
      rcases List.mem_cons.1 ((h z).1 (List.mem_cons_of_mem _ hz)) with q | q
      · have := h1.1 z hz; omega
      · exact q
    · intro hz
      rcases List.mem_cons.1 ((h z).2 (List.mem_cons_of_mem _ hz)) with q | q
      · have := h2.1 z hz; omega
      · exact q
theorem withGo_mem {l : List Int} {x : Int} : ∀ (f k : Nat) (y : Int), y ∈ withGo l x f k ↔ ((k : Int) ≤ y ∧ y < (k + f : Nat)) ∧ (y = x ∨ y ∈ l)
  | 0, k, y => by simp [withGo]; omega
  | f + 1, k, y => by
    have ih := withGo_mem (l := l) (x := x) f (k + 1) y
    unfold withGo
    split
    · rename_i h
      rw [List.mem_cons, ih]
      rw [hasB_iff] at h
      constructor
      · rintro (rfl | ⟨⟨h1, h2⟩, h3⟩)
        · exact ⟨⟨by omega, by omega⟩, h⟩
        · exact ⟨⟨by omega, by omega⟩, h3⟩
      · rintro ⟨⟨h1, h2⟩, h3⟩
        by_cases e : y = k
        · exact .inl e
        · exact .inr ⟨⟨by omega, by omega⟩, h3⟩
    · rename_i h
      rw [ih]
      rw [hasB_iff] at h
      constructor
      · rintro ⟨⟨h1, h2⟩, h3⟩
        exact ⟨⟨by omega, by omega⟩, h3⟩
      · rintro ⟨⟨h1, h2⟩, h3⟩
        have : y ≠ k := by rintro rfl; exact h h3
        exact ⟨⟨by omega, by omega⟩, h3⟩
theorem withGo_asc {l : List Int} {x : Int} : ∀ (f k : Nat), (withGo l x f k).Pairwise (· < ·)
  | 0, k => List.Pairwise.nil
  | f + 1, k => by
    unfold withGo
    split
    · refine .cons (fun y hy => ?_) (withGo_asc f (k + 1))
      have := (withGo_mem f (k + 1) y).1 hy
      omega
    · exact withGo_asc f (k + 1)
theorem insL_mem {xs : List Int} {i : Nat} {x y : Int} : y ∈ insL xs i x ↔ y = x ∨ y ∈ xs := by
  unfold insL
  conv => rhs; rw [← List.take_append_drop i xs]
  simp only [List.mem_append, List.mem_cons]
  constructor
  · rintro (h | h | h)
    · exact .inr (.inl h)
    · exact .inl h
    · exact .inr (.inr h)
  · rintro (h | h | h)
    · exact .inr (.inl h)
    · exact .inl h
    · exact .inr (.inr h)
theorem asc_le {l : List Int} (h : l.Pairwise (· < ·)) : l.Pairwise (· ≤ ·) := h.imp (fun h => Int.le_of_lt h)
theorem insL_asc {xs : List Int} {x : Int} (h : xs.Pairwise (· < ·)) (hx : x ∉ xs) : (insL xs (cntLt xs x) x).Pairwise (· < ·) := by
  have hp := h
  rw [← List.take_append_drop (cntLt xs x) xs, List.pairwise_append] at hp
  have ht : ∀ y ∈ xs.take (cntLt xs x), y < x := by
    intro y hy
    obtain ⟨i, hi, e⟩ := List.mem_iff_getElem.1 hy
    have hi2 : i < cntLt xs x := by simp at hi; omega
    have : xs[i]? = some y := by
      rw [← e, List.getElem_take]; exact List.getElem?_eq_getElem _
    exact (cntLt_iff (asc_le h) this).2 hi2
  have hd : ∀ y ∈ xs.drop (cntLt xs x), x < y := by
    intro y hy
    obtain ⟨i, hi, e⟩ := List.mem_iff_getElem.1 hy
    have hg : xs[cntLt xs x + i]? = some y := by
      rw [← e, List.getElem_drop]; exact List.getElem?_eq_getElem _
    have h1 := cntLt_iff (v := x) (asc_le h) hg
    have h2 : y ≠ x := fun q => hx (q ▸ List.mem_of_getElem? hg)
    omega
  unfold insL
  rw [List.pairwise_append]
  refine ⟨hp.1, .cons hd hp.2.1, fun y hy z hz => ?_⟩
  rcases List.mem_cons.1 hz with rfl | hz
  · exact ht y hy
  · exact hp.2.2 y hy z hz
/-- with is the insertion -/
theorem with_eq {l : List Int} {x : Int} (h : l.Pairwise (· < ·)) (hr : ∀ y ∈ l, 0 ≤ y ∧ y ≤ 5) (hx : 0 ≤ x ∧ x ≤ 5) (hn : x ∉ l) : withL l x = insL l (cntLt l x) x := by
  refine asc_ext (withGo_asc 6 0) (insL_asc h hn) (fun y => ?_)
  rw [insL_mem]
  show y ∈ withGo l x 6 0 ↔ _
  rw [withGo_mem]
  constructor
  · exact fun h => h.2
  · rintro (rfl | q)
    · exact ⟨⟨by omega, by omega⟩, .inl rfl⟩
    · have := hr y q; exact ⟨⟨by omega, by omega⟩, .inr q⟩
/-- what is a valid graph -/
def Asc (l : List Int) : Prop := l.Pairwise (· < ·) ∧ ∀ x ∈ l, 0 ≤ x ∧ x ≤ 5
theorem holdsGo_iff : ∀ {xs : List Int} {S : List Int} {p : Int}, holdsGo S p xs = true ↔ (xs.Pairwise (· < ·) ∧ ∀ x ∈ xs, (0 ≤ x ∧ x ≤ 5) ∧ p < x ∧ x ∉ S)
  | [], S, p => by simp [holdsGo]
  | x :: xs, S, p => by
    simp only [holdsGo, Bool.and_eq_true, Bool.not_eq_true', decide_eq_true_eq, inB_iff]
    rw [holdsGo_iff, List.pairwise_cons]
    constructor
    · rintro ⟨⟨⟨h1, h2⟩, h3⟩, h4, h5⟩
      refine ⟨⟨fun y hy => (h5 y hy).2.1, h4⟩, fun y hy => ?_⟩
      rcases List.mem_cons.1 hy with rfl | hy
      · exact ⟨h1, h3, fun q => by rw [hasB_iff.2 q] at h2; exact absurd h2 (by simp)⟩
      · exact ⟨(h5 y hy).1, by have := (h5 y hy).2.1; omega, (h5 y hy).2.2⟩
    · rintro ⟨⟨h1, h2⟩, h3⟩
      have hx := h3 x (by simp)
      refine ⟨⟨⟨hx.1, ?_⟩, hx.2.1⟩, h2, fun y hy => ?_⟩
      · cases q : hasB S x
        · rfl
        · exact absurd (hasB_iff.1 q) hx.2.2
      · have := h3 y (by simp [hy]); exact ⟨this.1, h1 y hy, this.2.2⟩
def Sep (t u : Th) : Prop := ∀ l ∈ t.holds, l ∉ u.holds
theorem thsGo_iff : ∀ {g : List Th} {S : List Int}, thsGo S g = true ↔ ((∀ t ∈ g, thOk t = true ∧ Asc t.holds ∧ ∀ x ∈ t.holds, x ∉ S) ∧ g.Pairwise Sep)
  | [], S => by simp [thsGo]
  | t :: g, S => by
    simp only [thsGo, Bool.and_eq_true]
    rw [thsGo_iff, holdsGo_iff, List.pairwise_cons]
    constructor
    · rintro ⟨⟨h1, h2, h3⟩, h4, h5⟩
      refine ⟨fun u hu => ?_, fun u hu l hl hl2 => (h4 u hu).2.2 l hl2 (List.mem_append_right _ hl), h5⟩
      rcases List.mem_cons.1 hu with rfl | hu
      · exact ⟨h1, ⟨h2, fun x hx => (h3 x hx).1⟩, fun x hx => (h3 x hx).2.2⟩
      · exact ⟨(h4 u hu).1, (h4 u hu).2.1, fun x hx q => (h4 u hu).2.2 x hx (List.mem_append_left _ q)⟩
    · rintro ⟨h1, h2, h3⟩
      have ht := h1 t (by simp)
      refine ⟨⟨ht.1, ht.2.1.1, fun x hx => ⟨ht.2.1.2 x hx, by have := ht.2.1.2 x hx; omega, ht.2.2 x hx⟩⟩, fun u hu => ?_, h3⟩
      have hu2 := h1 u (by simp [hu])
      exact ⟨hu2.1, hu2.2.1, fun x hx q => by
        rcases List.mem_append.1 q with q | q
        · exact hu2.2.2 x hx q
        · exact h2 u hu x q hx⟩
theorem validG_iff {g : List Th} : validG g = true ↔ g.length ≤ 8 ∧ (∀ t ∈ g, thOk t = true ∧ Asc t.holds ∧ (0 ≤ t.waits → (∃ u ∈ g, t.waits ∈ u.holds) ∧ t.waits ∉ t.holds)) ∧ g.Pairwise Sep := by
  simp only [validG, Bool.and_eq_true, decide_eq_true_eq, List.all_eq_true]
  rw [thsGo_iff]
  have hw : ∀ t : Th, waitsOk (allHolds g) t = true ↔ (0 ≤ t.waits → (∃ u ∈ g, t.waits ∈ u.holds) ∧ t.waits ∉ t.holds) := by
    intro t
    simp only [waitsOk, Bool.or_eq_true, Bool.and_eq_true, decide_eq_true_eq, Bool.not_eq_true']
    rw [hasB_all]
    constructor
    · rintro (h | ⟨⟨u, hu, h1⟩, h2⟩) h0
      · omega
      · exact ⟨⟨u, hu, hasB_iff.1 h1⟩, fun q => by rw [hasB_iff.2 q] at h2; exact absurd h2 (by simp)⟩
    · intro h
      by_cases h0 : t.waits < 0
      · exact .inl h0
      · obtain ⟨⟨u, hu, h1⟩, h2⟩ := h (by omega)
        refine .inr ⟨⟨u, hu, hasB_iff.2 h1⟩, ?_⟩
        cases q : hasB t.holds t.waits
        · rfl
        · exact absurd (hasB_iff.1 q) h2
  constructor
  · rintro ⟨⟨h1, h2, h3⟩, h4⟩
    exact ⟨h1, fun t ht => ⟨(h2 t ht).1, (h2 t ht).2.1, (hw t).1 (h4 t ht)⟩, h3⟩
  · rintro ⟨h1, h2, h3⟩
    exact ⟨⟨h1, fun t ht => ⟨(h2 t ht).1, (h2 t ht).2.1, by simp⟩, h3⟩, fun t ht => (hw t).2 (h2 t ht).2.2⟩
theorem asc_len {l : List Int} (h : Asc l) : l.length ≤ 6 := by
  refine nodup_le 6 l ?_ (fun x hx => by have := h.2 x hx; omega)
  exact h.1.imp (fun h => by omega)
end Go.Proofs.Ytmdjbnicjohkjaa
