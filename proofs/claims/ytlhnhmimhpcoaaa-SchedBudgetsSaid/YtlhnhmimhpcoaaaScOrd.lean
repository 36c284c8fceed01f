/- The order of the reference's events, and the queues of the machine. No condition: plain lemmas. -/
import Derived.Test.YtlhnhmimhpcoaaaScInv
namespace Go.Proofs.Ytlhnhmimhpcoaaa
open Go.RowKit
set_option linter.unusedSimpArgs false
set_option linter.unusedVariables false
theorem mem_pw_eq {α : Type} {R : α → α → Prop} (has : ∀ a b, R a b → ¬ R b a) : ∀ {a b : List α}, (∀ x, x ∈ a ↔ x ∈ b) → a.Pairwise R → b.Pairwise R → a = b
  | [], [], _, _, _ => rfl
  | [], y :: b, h, _, _ => absurd ((h y).2 (by simp)) (by simp)
  | x :: a, [], h, _, _ => absurd ((h x).1 (by simp)) (by simp)
  | x :: a, y :: b, h, ha, hb => by
    rw [List.pairwise_cons] at ha hb
    have e : x = y := by
      rcases List.mem_cons.1 ((h x).1 (by simp)) with e | h1
      · exact e
      · rcases List.mem_cons.1 ((h y).2 (by simp)) with e | h2
        · exact e.symm
        · exact absurd (hb.1 x h1) (has _ _ (ha.1 y h2))
    subst e
    have hn : ∀ {c : List α}, (∀ z ∈ c, R x z) → x ∉ c := fun hc hx => has _ _ (hc x hx) (hc x hx)
    rw [mem_pw_eq has (fun z => ?_) ha.2 hb.2]
    constructor
    · intro hz
      rcases List.mem_cons.1 ((h z).1 (by simp [hz])) with e | h1
      · subst e; exact absurd hz (hn ha.1)
      · exact h1
    · intro hz
      rcases List.mem_cons.1 ((h z).2 (by simp [hz])) with e | h1
      · subst e; exact absurd hz (hn hb.1)
      · exact h1
theorem filter_takeE {α : Type} {R : α → α → Prop} {p : α → Bool} (hm : ∀ a b, R a b → p b = true → p a = true) : ∀ l : List α, l.Pairwise R → l.filter p = l.take (l.filter p).length ∧ ∀ (i : Nat) (x : α), l[i]? = some x → (p x = true ↔ i < (l.filter p).length)
  | [], _ => ⟨rfl, fun i x h => by simp at h⟩
  | x :: l, h => by
    rw [List.pairwise_cons] at h
    obtain ⟨h1, h2⟩ := filter_takeE hm l h.2
    by_cases hx : p x = true
    · rw [List.filter_cons_of_pos hx]
      refine ⟨by rw [List.length_cons, List.take_succ_cons, ← h1], fun i y hi => ?_⟩
      cases i with
      | zero => simp at hi; subst hi; simp [hx]
      | succ i => rw [List.getElem?_cons_succ] at hi; rw [h2 i y hi, List.length_cons]; omega
    · have hn : l.filter p = [] := List.filter_eq_nil_iff.2 (fun y hy hp => hx (hm _ _ (h.1 y hy) hp))
      rw [List.filter_cons_of_neg hx, hn]
      refine ⟨rfl, fun i y hi => ?_⟩
      have hy : ¬ p y = true := by
        cases i with
        | zero => simp at hi; subst hi; exact hx
        | succ i =>
          rw [List.getElem?_cons_succ] at hi
          exact fun hp => hx (hm _ _ (h.1 y (List.mem_of_getElem? hi)) hp)
      simp [hy]
def relT (l : List P2) (k : Int) : Int := ((l[k.toNat]?).getD default).1 + ((l[k.toNat]?).getD default).2
theorem relT_of {l : List P2} {k : Nat} {e : P2} (h : l[k]? = some e) : relT l k = e.1 + e.2 := by simp [relT, h]
def ltE (l : List P2) (a b : Int) : Bool := decide (relT l a < relT l b)
/-- the order of the events -/
def ordE (l : List P2) : List Int := isortL (ltE l) (idxs l.length)
def Bef (l : List P2) (a b : Int) : Prop := relT l a < relT l b ∨ (relT l a = relT l b ∧ a < b)
theorem bef_asym {l : List P2} (a b : Int) (h : Bef l a b) : ¬ Bef l b a := by unfold Bef at *; omega
theorem ordE_perm (l : List P2) : (ordE l).Perm (idxs l.length) := isort_perm _ _
theorem ordE_len (l : List P2) : (ordE l).length = l.length := by rw [(ordE_perm l).length_eq, idxs_len]
theorem ordE_mem {l : List P2} {x : Int} : x ∈ ordE l ↔ 0 ≤ x ∧ x < l.length := by rw [(ordE_perm l).mem_iff, idxs_mem]
theorem ordE_pw (l : List P2) : (ordE l).Pairwise (Bef l) :=
  isort_pw (fun a b c h k => by unfold Bef at *; omega) (fun a b h => .inl (by simpa [ltE] using h)) ((idxs_pw _).imp (fun {a b} hab h => by
    have h2 : ¬ relT l b < relT l a := by simpa [ltE] using h
    unfold Bef; omega))
/-- those that have been released -/
def outE (l : List P2) (t : Int) : List Int := (ordE l).filter (fun k => decide (relT l k ≤ t))
theorem outE_facts (l : List P2) (t : Int) : outE l t = (ordE l).take (outE l t).length ∧ ∀ (i : Nat) (x : Int), (ordE l)[i]? = some x → (relT l x ≤ t ↔ i < (outE l t).length) := by
  have := filter_takeE (R := Bef l) (p := fun k => decide (relT l k ≤ t)) (fun a b h k => by simp at k ⊢; unfold Bef at h; omega) (ordE l) (ordE_pw l)
  refine ⟨this.1, fun i x h => ?_⟩
  have h2 := this.2 i x h
  rw [decide_eq_true_iff] at h2
  exact h2
theorem outE_mem {l : List P2} {t x : Int} : x ∈ outE l t ↔ (0 ≤ x ∧ x < l.length) ∧ relT l x ≤ t := by
  unfold outE; rw [List.mem_filter, ordE_mem]; simp
theorem relK_mem {t x : Int} : ∀ (es : List P2) (k : Nat), x ∈ relK t k es ↔ ∃ j : Nat, x = ((k + j : Nat) : Int) ∧ ∃ e, es[j]? = some e ∧ e.1 + e.2 = t
  | [], k => by simp [relK]
  | e :: es, k => by
    rw [relK, List.mem_append, relK_mem es (k + 1)]
    constructor
    · rintro (h | ⟨j, rfl, e', h1, h2⟩)
      · split at h
        · rename_i he
          simp at h
          exact ⟨0, by simpa using h, e, rfl, he⟩
        · simp at h
      · exact ⟨j + 1, by omega, e', by simpa using h1, h2⟩
    · rintro ⟨j, rfl, e', h1, h2⟩
      cases j with
      | zero => simp at h1; subst h1; left; rw [if_pos h2]; simp
      | succ j => right; exact ⟨j, by omega, e', by simpa using h1, h2⟩
theorem relK_pw {t : Int} : ∀ (es : List P2) (k : Nat), (relK t k es).Pairwise (· < ·)
  | [], k => List.Pairwise.nil
  | e :: es, k => by
    rw [relK]
    refine List.pairwise_append.2 ⟨by split <;> simp, relK_pw es (k + 1), fun a ha b hb => ?_⟩
    obtain ⟨j, rfl, _⟩ := (relK_mem es (k + 1)).1 hb
    split at ha
    · simp at ha; subst ha; omega
    · simp at ha
theorem relK_iff {l : List P2} {t x : Int} : x ∈ relK t 0 l ↔ (0 ≤ x ∧ x < l.length) ∧ relT l x = t := by
  rw [relK_mem]
  constructor
  · rintro ⟨j, rfl, e, h1, h2⟩
    have := (List.getElem?_eq_some_iff.1 h1).1
    rw [Nat.zero_add]
    exact ⟨⟨by omega, by omega⟩, by rw [relT_of h1]; exact h2⟩
  · rintro ⟨⟨h1, h2⟩, h3⟩
    obtain ⟨n, rfl⟩ := Int.eq_ofNat_of_zero_le h1
    have hn : n < l.length := by omega
    refine ⟨n, by simp, l[n], List.getElem?_eq_getElem hn, ?_⟩
    rw [relT_of (List.getElem?_eq_getElem hn)] at h3; exact h3
theorem outE_step (l : List P2) (t : Int) : outE l t = outE l (t - 1) ++ relK t 0 l := by
  refine mem_pw_eq bef_asym (fun x => ?_) ((ordE_pw l).filter _) (List.pairwise_append.2 ⟨(ordE_pw l).filter _, ?_, fun a ha b hb => ?_⟩)
  · rw [List.mem_append, outE_mem, outE_mem, relK_iff]
    constructor
    · rintro ⟨h1, h2⟩
      by_cases e : relT l x = t
      · exact .inr ⟨h1, e⟩
      · exact .inl ⟨h1, by omega⟩
    · rintro (⟨h1, h2⟩ | ⟨h1, h2⟩)
      · exact ⟨h1, by omega⟩
      · exact ⟨h1, by omega⟩
  · refine List.Pairwise.imp_of_mem (fun {a b} ha hb hab => ?_) (relK_pw l 0)
    have h1 := (relK_iff.1 ha).2
    have h2 := (relK_iff.1 hb).2
    exact .inr ⟨by omega, hab⟩
  · have h1 := (outE_mem.1 ha).2
    have h2 := (relK_iff.1 hb).2
    exact .inl (by omega)
theorem outE_none {l : List P2} (h : ∀ e ∈ l, 0 ≤ e.1 ∧ 0 ≤ e.2) {t : Int} (ht : t < 0) : outE l t = [] := by
  apply List.filter_eq_nil_iff.2
  intro x hx hh
  obtain ⟨h1, h2⟩ := ordE_mem.1 hx
  obtain ⟨n, rfl⟩ := Int.eq_ofNat_of_zero_le h1
  have hn : n < l.length := by omega
  have := h _ (List.getElem_mem hn)
  rw [relT_of (List.getElem?_eq_getElem hn)] at hh
  simp at hh; omega
def evA (R : Rn) (i : Nat) : List P2 := (R.ev[i]?).getD []
/-- the queues against the reference's places in the order -/
structure QR (R : Rn) (t : Int) (s : Ms) (at_ : List Nat) : Prop where
  len : at_.length = R.L.length
  q : ∀ i a, at_[i]? = some a → s.qa i = (outE (evA R i) t).drop a ∧ a ≤ (outE (evA R i) t).length
section
variable {R : Rn} {t : Int} {s : Ms} {at_ : List Nat}
theorem QR.rel (h : QR R (t - 1) s at_) (hr : RnOk R) (hm : MOk R s) : QR R t (relA t 0 R.ev s) at_ := by
  obtain ⟨h1, h2, h3⟩ := relA_spec t R.ev 0 s (by rw [hm.ql, hr.ev]; omega)
  refine ⟨h.len, fun i a ha => ?_⟩
  obtain ⟨g1, g2⟩ := h.q i a ha
  rw [h3 i, if_pos (Nat.zero_le _), Nat.sub_zero, g1, outE_step (evA R i) t]
  refine ⟨?_, by rw [List.length_append]; omega⟩
  rw [List.drop_append_of_le_length g2]; rfl
theorem QR.of (h : QR R t s at_) {s' : Ms} (hq : s'.q = s.q) : QR R t s' at_ := ⟨h.len, fun i a ha => by
  have : s'.qa i = s.qa i := by unfold Ms.qa; rw [hq]
  rw [this]; exact h.q i a ha⟩
theorem QR.fin (h : QR R t s at_) (hm : MOk R s) {i a : Nat} (ha : at_[i]? = some a) (hq : s.qa i ≠ []) (m how : Int) : QR R t (fin1 m i how s) (at_.set i (a + 1)) := by
  have hi := (List.getElem?_eq_some_iff.1 ha).1
  have hil : i < R.L.length := by rw [← h.len]; exact hi
  obtain ⟨g1, g2⟩ := h.q i a ha
  refine ⟨by simp [h.len], fun k b hb => ?_⟩
  rw [fin_qa (by rw [hm.ql]; exact hil)]
  rw [List.getElem?_set] at hb
  by_cases e : i = k
  · subst e
    rw [if_pos rfl, if_pos hi] at hb
    simp at hb; subst hb
    rw [if_pos rfl, g1, List.tail_drop]
    refine ⟨rfl, ?_⟩
    rw [g1] at hq
    by_cases e2 : a = (outE (evA R i) t).length
    · rw [e2, List.drop_length] at hq; exact absurd rfl hq
    · omega
  · rw [if_neg e] at hb
    rw [if_neg (fun q => e q.symm)]
    exact h.q k b hb
/-- is a job ready? -/
theorem QR.ready (h : QR R t s at_) {i a : Nat} (ha : at_[i]? = some a) : s.qa i ≠ [] ↔ ∃ x, (ordE (evA R i))[a]? = some x ∧ relT (evA R i) x ≤ t := by
  obtain ⟨g1, g2⟩ := h.q i a ha
  obtain ⟨f1, f2⟩ := outE_facts (evA R i) t
  rw [g1]
  constructor
  · intro hne
    have hlt : a < (outE (evA R i) t).length := by
      by_cases e : a < (outE (evA R i) t).length
      · exact e
      · exact absurd (List.drop_of_length_le (by omega)) hne
    have hl2 : a < (ordE (evA R i)).length := Nat.lt_of_lt_of_le hlt (by unfold outE; exact List.length_filter_le _ _)
    exact ⟨_, List.getElem?_eq_getElem hl2, (f2 a _ (List.getElem?_eq_getElem hl2)).2 hlt⟩
  · rintro ⟨x, hx, hle⟩ hn
    have := (f2 a x hx).1 hle
    have h2 := congrArg List.length hn
    rw [List.length_drop] at h2
    simp at h2
    omega
theorem QR.event (h : QR R t s at_) {i a : Nat} (ha : at_[i]? = some a) (hq : s.qa i ≠ []) : (ordE (evA R i))[a]? = some (s.hd i) := by
  obtain ⟨x, hx, hle⟩ := (h.ready ha).1 hq
  obtain ⟨g1, g2⟩ := h.q i a ha
  obtain ⟨f1, f2⟩ := outE_facts (evA R i) t
  have hlt := (f2 a x hx).1 hle
  rw [hx]
  have e : (outE (evA R i) t)[a]? = some x := by rw [f1, List.getElem?_take, if_pos hlt]; exact hx
  obtain ⟨_, e2⟩ := List.getElem?_eq_some_iff.1 e
  unfold Ms.hd
  rw [g1, List.drop_eq_getElem_cons hlt, e2]; rfl
end
end Go.Proofs.Ytlhnhmimhpcoaaa
