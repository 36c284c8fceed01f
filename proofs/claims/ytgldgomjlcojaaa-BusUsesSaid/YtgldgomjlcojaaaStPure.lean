/- Plain facts: stable sorting of a list is one thing, whoever does it; merging. No condition: plain lemmas. -/
import Derived.Test.YtgldgomjlcojaaaIsPure
namespace Go.Proofs.Ytgldgomjlcojaaa
open Go.RowKit
set_option linter.unusedSimpArgs false
set_option linter.unusedVariables false
/-- a strict weak order -/
structure Swo {α : Type} (lt : α → α → Bool) : Prop where
  asym : ∀ a b, lt a b = true → lt b a = false
  ntr : ∀ a b c, lt a b = false → lt b c = false → lt a c = false
section
variable {α : Type} {lt : α → α → Bool}
theorem Swo.irr (h : Swo lt) (a : α) : lt a a = false := by
  cases e : lt a a with
  | false => rfl
  | true => have := h.asym a a e; rw [e] at this; exact this
theorem Swo.lt_le (h : Swo lt) {a b c : α} (h1 : lt a b = true) (h2 : lt c b = false) : lt a c = true := by
  cases e : lt a c with
  | true => rfl
  | false => have := h.ntr a c b e h2; rw [h1] at this; exact absurd this (by simp)
theorem Swo.le_lt (h : Swo lt) {a b c : α} (h1 : lt b a = false) (h2 : lt b c = true) : lt a c = true := by
  cases e : lt a c with
  | true => rfl
  | false => have := h.ntr b a c h1 e; rw [h2] at this; exact absurd this (by simp)
theorem Swo.tr (h : Swo lt) {a b c : α} (h1 : lt a b = true) (h2 : lt b c = true) : lt a c = true := h.lt_le h1 (h.asym _ _ h2)
/-- sorted: none behind is before -/
def Srt (lt : α → α → Bool) (l : List α) : Prop := l.Pairwise (fun x y => lt y x = false)
def eqv (lt : α → α → Bool) (z y : α) : Bool := !lt z y && !lt y z
theorem eqv_iff {z y : α} : eqv lt z y = true ↔ lt z y = false ∧ lt y z = false := by simp [eqv]
theorem srt_unique (h : Swo lt) : ∀ (xs ys : List α), Srt lt xs → Srt lt ys → (∀ z, xs.filter (eqv lt z) = ys.filter (eqv lt z)) → xs = ys
  | [], [], _, _, _ => rfl
  | [], y :: ys, _, _, hf => by
    have := hf y
    rw [List.filter_cons_of_pos (eqv_iff.2 ⟨h.irr y, h.irr y⟩)] at this
    simp at this
  | x :: xs, [], _, _, hf => by
    have := hf x
    rw [List.filter_cons_of_pos (eqv_iff.2 ⟨h.irr x, h.irr x⟩)] at this
    simp at this
  | x :: xs, y :: ys, hx, hy, hf => by
    obtain ⟨hx1, hx2⟩ := List.pairwise_cons.1 hx
    obtain ⟨hy1, hy2⟩ := List.pairwise_cons.1 hy
    have mx : x ∈ y :: ys := by
      have e : x ∈ (y :: ys).filter (eqv lt x) := by rw [← hf x]; exact List.mem_filter.2 ⟨by simp, eqv_iff.2 ⟨h.irr x, h.irr x⟩⟩
      exact (List.mem_filter.1 e).1
    have my : y ∈ x :: xs := by
      have e : y ∈ (x :: xs).filter (eqv lt y) := by rw [hf y]; exact List.mem_filter.2 ⟨by simp, eqv_iff.2 ⟨h.irr y, h.irr y⟩⟩
      exact (List.mem_filter.1 e).1
    have l1 : lt x y = false := by
      rcases List.mem_cons.1 mx with e | e
      · rw [e]; exact h.irr y
      · exact hy1 x e
    have l2 : lt y x = false := by
      rcases List.mem_cons.1 my with e | e
      · rw [e]; exact h.irr x
      · exact hx1 y e
    have hfx := hf x
    rw [List.filter_cons_of_pos (eqv_iff.2 ⟨h.irr x, h.irr x⟩), List.filter_cons_of_pos (eqv_iff.2 ⟨l1, l2⟩)] at hfx
    obtain ⟨rfl, _⟩ := List.cons.inj hfx
    rw [srt_unique h xs ys hx2 hy2 (fun z => by
      have := hf z
      by_cases e : eqv lt z x = true
      · rw [List.filter_cons_of_pos e, List.filter_cons_of_pos e] at this; exact (List.cons.inj this).2
      · rw [List.filter_cons_of_neg e, List.filter_cons_of_neg e] at this; exact this)]
/-- the insertion -/
theorem insP_split (lt : α → α → Bool) (x : α) (s : List α) : ∃ p q, s = p ++ q ∧ insP lt x s = p ++ x :: q ∧ (∀ y ∈ q, lt x y = true) ∧ (∀ y, p.getLast? = some y → lt x y = false) := by
  refine ⟨(s.reverse.dropWhile (lt x)).reverse, (s.reverse.takeWhile (lt x)).reverse, ?_, rfl, ?_, ?_⟩
  · rw [← List.reverse_append, List.takeWhile_append_dropWhile, List.reverse_reverse]
  · intro y hy
    rw [List.mem_reverse] at hy
    have hal := List.all_takeWhile (p := lt x) (l := s.reverse)
    rw [List.all_eq_true] at hal
    exact hal y hy
  · intro y hy
    rw [List.getLast?_reverse] at hy
    have := List.head?_dropWhile_not (lt x) s.reverse
    rw [hy] at this
    simpa using this
theorem srt_last (h : Swo lt) {p : List α} (hp : Srt lt p) {x : α} (hl : ∀ y, p.getLast? = some y → lt x y = false) : ∀ y ∈ p, lt x y = false := by
  intro y hy
  rcases List.eq_nil_or_concat p with e | ⟨p', z, e⟩
  · rw [e] at hy; simp at hy
  · rw [List.concat_eq_append] at e
    have hz := hl z (by rw [e]; simp)
    rw [e] at hy hp
    rcases List.mem_append.1 hy with hy | hy
    · exact h.ntr _ _ _ hz ((List.pairwise_append.1 hp).2.2 y hy z (by simp))
    · obtain rfl : y = z := by simpa using hy
      exact hz
theorem insP_srt (h : Swo lt) {x : α} {s : List α} (hs : Srt lt s) : Srt lt (insP lt x s) := by
  obtain ⟨p, q, hpq, he, hq, hl⟩ := insP_split lt x s
  rw [he]
  rw [hpq] at hs
  obtain ⟨h1, h2, h3⟩ := List.pairwise_append.1 hs
  refine List.pairwise_append.2 ⟨h1, List.pairwise_cons.2 ⟨fun y hy => h.asym _ _ (hq y hy), h2⟩, fun y hy z hz => ?_⟩
  rcases List.mem_cons.1 hz with rfl | hz
  · exact srt_last h h1 hl y hy
  · exact h3 y hy z hz
theorem insP_fil (h : Swo lt) {x : α} {s : List α} (hs : Srt lt s) (z : α) : (insP lt x s).filter (eqv lt z) = s.filter (eqv lt z) ++ [x].filter (eqv lt z) := by
  obtain ⟨p, q, hpq, he, hq, hl⟩ := insP_split lt x s
  rw [he, hpq, List.filter_append, List.filter_append]
  by_cases e : eqv lt z x = true
  · have hqn : q.filter (eqv lt z) = [] := by
      rw [List.filter_eq_nil_iff]
      intro y hy k
      have h1 := h.le_lt (eqv_iff.1 e).2 (hq y hy)
      have h2 := (eqv_iff.1 k).1
      rw [h1] at h2; simp at h2
    rw [List.filter_cons_of_pos e, hqn, List.filter_cons_of_pos e]
    simp
  · rw [List.filter_cons_of_neg e, List.filter_cons_of_neg e]
    simp
theorem fold_fil (h : Swo lt) : ∀ (xs s : List α), Srt lt s → Srt lt (xs.foldl (fun s x => insP lt x s) s) ∧ ∀ z, (xs.foldl (fun s x => insP lt x s) s).filter (eqv lt z) = s.filter (eqv lt z) ++ xs.filter (eqv lt z)
  | [], s, hs => ⟨hs, by simp⟩
  | x :: xs, s, hs => by
    obtain ⟨h1, h2⟩ := fold_fil h xs (insP lt x s) (insP_srt h hs)
    refine ⟨h1, fun z => ?_⟩
    rw [List.foldl_cons, h2 z, insP_fil h hs, List.append_assoc, ← List.filter_append]
    rfl
theorem isort_srt (h : Swo lt) (xs : List α) : Srt lt (isortL lt xs) := (fold_fil h xs [] List.Pairwise.nil).1
theorem isort_fil (h : Swo lt) (xs : List α) (z : α) : (isortL lt xs).filter (eqv lt z) = xs.filter (eqv lt z) := by simpa [isortL] using (fold_fil h xs [] List.Pairwise.nil).2 z
theorem isort_of (h : Swo lt) {xs ys : List α} (hs : Srt lt ys) (hf : ∀ z, ys.filter (eqv lt z) = xs.filter (eqv lt z)) : ys = isortL lt xs :=
  srt_unique h _ _ hs (isort_srt h xs) (fun z => by rw [hf z, isort_fil h])
theorem isort_self (h : Swo lt) {xs : List α} (hs : Srt lt xs) : isortL lt xs = xs := (isort_of h hs (fun _ => rfl)).symm
/-- whatever merges A and B: a list that is sorted, and in which those of A that are equal come first -/
structure Mrg (lt : α → α → Bool) (A B R : List α) : Prop where
  srt : Srt lt R
  fil : ∀ z, R.filter (eqv lt z) = A.filter (eqv lt z) ++ B.filter (eqv lt z)
theorem Mrg.sort (h : Swo lt) {A B R : List α} (hm : Mrg lt (isortL lt A) (isortL lt B) R) : R = isortL lt (A ++ B) :=
  isort_of h hm.srt (fun z => by rw [hm.fil z, isort_fil h, isort_fil h, List.filter_append])
theorem fil_mem (h : Swo lt) {xs ys : List α} (hf : ∀ z, xs.filter (eqv lt z) = ys.filter (eqv lt z)) {x : α} : x ∈ xs ↔ x ∈ ys := by
  have e : eqv lt x x = true := eqv_iff.2 ⟨h.irr x, h.irr x⟩
  constructor
  · intro hx
    have : x ∈ xs.filter (eqv lt x) := List.mem_filter.2 ⟨hx, e⟩
    rw [hf x] at this; exact (List.mem_filter.1 this).1
  · intro hx
    have : x ∈ ys.filter (eqv lt x) := List.mem_filter.2 ⟨hx, e⟩
    rw [← hf x] at this; exact (List.mem_filter.1 this).1
theorem Mrg.mem (h : Swo lt) {A B R : List α} (hm : Mrg lt A B R) {x : α} : x ∈ R ↔ x ∈ A ∨ x ∈ B := by
  rw [fil_mem h (ys := A ++ B) (fun z => by rw [hm.fil z, List.filter_append]), List.mem_append]
/-- a merge falls into two where all of B's first part is before A's second, and none of A's first is behind B's second -/
theorem Mrg.join (h : Swo lt) {A1 A2 B1 B2 R1 R2 : List α} (h1 : Mrg lt A1 B1 R1) (h2 : Mrg lt A2 B2 R2) (hA : Srt lt (A1 ++ A2)) (hB : Srt lt (B1 ++ B2)) (hx : ∀ b ∈ B1, ∀ a ∈ A2, lt b a = true) (hy : ∀ a ∈ A1, ∀ b ∈ B2, lt b a = false) :
    Mrg lt (A1 ++ A2) (B1 ++ B2) (R1 ++ R2) := by
  obtain ⟨a1, a2, a3⟩ := List.pairwise_append.1 hA
  obtain ⟨b1, b2, b3⟩ := List.pairwise_append.1 hB
  refine ⟨List.pairwise_append.2 ⟨h1.srt, h2.srt, fun x hxm y hym => ?_⟩, fun z => ?_⟩
  · rcases (h1.mem h).1 hxm with e | e <;> rcases (h2.mem h).1 hym with k | k
    · exact a3 x e y k
    · exact hy x e y k
    · exact h.asym _ _ (hx x e y k)
    · exact b3 x e y k
  · rw [List.filter_append, h1.fil, h2.fil, List.filter_append, List.filter_append]
    have : B1.filter (eqv lt z) = [] ∨ A2.filter (eqv lt z) = [] := by
      by_cases e : A2.filter (eqv lt z) = []
      · exact .inr e
      · left
        obtain ⟨a, ha⟩ := List.exists_mem_of_ne_nil _ e
        obtain ⟨ha1, ha2⟩ := List.mem_filter.1 ha
        rw [List.filter_eq_nil_iff]
        intro b hb k
        have q := hx b hb a ha1
        have q2 := h.lt_le q (eqv_iff.1 ha2).1
        have q3 := (eqv_iff.1 k).2
        rw [q2] at q3; simp at q3
    rcases this with e | e
    · rw [e]; simp
    · rw [e]; simp
theorem Mrg.left {A : List α} (hA : Srt lt A) : Mrg lt A [] A := ⟨hA, by simp⟩
theorem Mrg.right {B : List α} (hB : Srt lt B) : Mrg lt [] B B := ⟨hB, by simp⟩
/-- x put into B in front of the first that is not before it -/
theorem Mrg.one (h : Swo lt) {x : α} {B1 B2 : List α} (hB : Srt lt (B1 ++ B2)) (h1 : ∀ y ∈ B1, lt y x = true) (h2 : ∀ y ∈ B2, lt y x = false) : Mrg lt [x] (B1 ++ B2) (B1 ++ x :: B2) := by
  obtain ⟨b1, b2, b3⟩ := List.pairwise_append.1 hB
  have := Mrg.join h (A1 := []) (A2 := [x]) (B1 := B1) (B2 := B2) (R1 := B1) (R2 := x :: B2) (Mrg.right b1) ⟨List.pairwise_cons.2 ⟨h2, b2⟩, fun z => by rw [← List.filter_append]; rfl⟩ (by simp [Srt]) hB (fun b hb a ha => by simp at ha; subst ha; exact h1 b hb) (by simp)
  simpa using this
/-- x put into A behind the last that is not behind it -/
theorem Mrg.last (h : Swo lt) {x : α} {A1 A2 : List α} (hA : Srt lt (A1 ++ A2)) (h1 : ∀ y ∈ A1, lt x y = false) (h2 : ∀ y ∈ A2, lt x y = true) : Mrg lt (A1 ++ A2) [x] (A1 ++ x :: A2) := by
  obtain ⟨a1, a2, a3⟩ := List.pairwise_append.1 hA
  have := Mrg.join h (A1 := A1) (A2 := A2) (B1 := [x]) (B2 := []) (R1 := A1 ++ [x]) (R2 := A2) ⟨List.pairwise_append.2 ⟨a1, by simp, fun y hy z hz => by simp at hz; subst hz; exact h1 y hy⟩, fun z => by rw [List.filter_append]⟩ (Mrg.left a2) hA (by simp [Srt]) (fun b hb a ha => by simp at hb; subst hb; exact h2 a ha) (by simp)
  simpa using this
theorem srt_get {l : List α} (hs : Srt lt l) {i j : Nat} {x y : α} (hij : i < j) (hx : l[i]? = some x) (hy : l[j]? = some y) : lt y x = false := by
  obtain ⟨hi, rfl⟩ := List.getElem?_eq_some_iff.1 hx
  obtain ⟨hj, rfl⟩ := List.getElem?_eq_some_iff.1 hy
  exact (List.pairwise_iff_getElem.1 hs) i j hi hj hij
end
end Go.Proofs.Ytgldgomjlcojaaa
