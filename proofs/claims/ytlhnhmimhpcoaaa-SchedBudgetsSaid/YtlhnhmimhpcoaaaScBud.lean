/- How much a job with a budget works. No condition: plain lemmas. -/
import Derived.Test.YtlhnhmimhpcoaaaScInd
namespace Go.Proofs.Ytlhnhmimhpcoaaa
open Go.RowKit
set_option linter.unusedSimpArgs false
set_option linter.unusedVariables false
theorem relA_new (t : Int) : ∀ (ls : List (List P2)) (i : Nat) (s : Ms), ∃ l, (relA t i ls s).o = s.o ++ l ∧ ∀ e ∈ l, e.m = t ∧ e.w = 1
  | [], i, s => ⟨[], by simp [relA], fun e he => by simp at he⟩
  | l :: ls, i, s => by
    have hE : ∀ (es : List P2) (k : Nat) (s : Ms), ∃ l, (relE t i k es s).o = s.o ++ l ∧ ∀ e ∈ l, e.m = t ∧ e.w = 1 := by
      intro es
      induction es with
      | nil => exact fun k s => ⟨[], by simp [relE], fun e he => by simp at he⟩
      | cons e es ih =>
        intro k s
        rw [relE]
        obtain ⟨l, h1, h2⟩ := ih (k + 1) (if e.1 + e.2 = t then rel1 t i k s else s)
        rw [h1]
        split
        · exact ⟨⟨t, i, 1, k, 0⟩ :: l, by simp [rel1], fun e he => by
            rcases List.mem_cons.1 he with rfl | he
            · exact ⟨rfl, rfl⟩
            · exact h2 e he⟩
        · exact ⟨l, rfl, h2⟩
    obtain ⟨l1, h1, h2⟩ := hE l 0 s
    obtain ⟨l2, h3, h4⟩ := relA_new t ls (i + 1) (relE t i 0 l s)
    refine ⟨l1 ++ l2, by rw [relA, h3, h1, List.append_assoc], fun e he => ?_⟩
    rcases List.mem_append.1 he with he | he
    · exact h2 e he
    · exact h4 e he
theorem ord_inj {l : List P2} {j k : Nat} {x : Int} (h1 : (ordE l)[j]? = some x) (h2 : (ordE l)[k]? = some x) : j = k := by
  obtain ⟨a1, e1⟩ := List.getElem?_eq_some_iff.1 h1
  obtain ⟨a2, e2⟩ := List.getElem?_eq_some_iff.1 h2
  have hp := List.pairwise_iff_getElem.1 (ordE_pw l)
  rcases Nat.lt_trichotomy j k with h | h | h
  · have := hp j k a1 a2 h; rw [e1, e2] at this; unfold Bef at this; omega
  · exact h
  · have := hp k j a2 a1 h; rw [e1, e2] at this; unfold Bef at this; omega
/-- whether an entry is a tick of work of an event's job -/
def wkd (i : Nat) (x : Int) (e : En) : Bool := decide (e.w = 4) && decide (e.k = (i : Int)) && decide (e.b = x)
def cW (i : Nat) (x : Int) (o : List En) : Nat := o.countP (wkd i x)
theorem cW_app (i : Nat) (x : Int) (o l : List En) (h : ∀ e ∈ l, e.w ≠ 4) : cW i x (o ++ l) = cW i x o := by
  unfold cW
  rw [List.countP_append]
  have : l.countP (wkd i x) = 0 := by
    rw [List.countP_eq_zero]
    intro e he
    unfold wkd
    rw [decide_eq_false (h e he)]; simp
  omega
theorem cW_one (i : Nat) (x : Int) (o : List En) (e : En) : cW i x (o ++ [e]) = cW i x o + (if wkd i x e = true then 1 else 0) := by
  unfold cW
  rw [List.countP_append, List.countP_singleton]
structure BJ (R : Rn) (i : Nat) (B : Nat) (s : Ms) (a : Nat) : Prop where
  later : ∀ j x, (ordE (evA R i))[j]? = some x → a < j → cW i x s.o = 0
  now : ∀ x, (ordE (evA R i))[a]? = some x → cW i x s.o = (s.ja i).d
  old : ∀ j x, (ordE (evA R i))[j]? = some x → j < a → cW i x s.o ≤ B
def BD (R : Rn) (i b M : Nat) (j : Jb) : Prop := j.d < b ∨ (j.s = true ∧ j.d ≤ b + M ∧ (0 ≤ lkA R.L i j.p → 0 < j.t → j.d ≤ b + j.t))
theorem BJ.of {R : Rn} {i B : Nat} {s s' : Ms} {a : Nat} (h : BJ R i B s a) (hc : ∀ x, cW i x s'.o = cW i x s.o) (hd : (s'.ja i).d = (s.ja i).d) : BJ R i B s' a :=
  ⟨fun j x h1 h2 => by rw [hc]; exact h.later j x h1 h2, fun x h1 => by rw [hc, hd]; exact h.now x h1, fun j x h1 h2 => by rw [hc]; exact h.old j x h1 h2⟩
theorem BJ.over {R : Rn} {i B : Nat} {s s' : Ms} {a : Nat} (h : BJ R i B s a) (hc : ∀ x, cW i x s'.o = cW i x s.o) (hd : (s'.ja i).d = 0) (hB : (s.ja i).d ≤ B) : BJ R i B s' (a + 1) :=
  ⟨fun j x h1 h2 => by rw [hc]; exact h.later j x h1 (by omega), fun x h1 => by rw [hc, hd]; exact h.later _ x h1 (by omega), fun j x h1 h2 => by
    rw [hc]
    by_cases e : j = a
    · subst e; rw [h.now x h1]; exact hB
    · exact h.old j x h1 (by omega)⟩
theorem BJ.work {R : Rn} {i B : Nat} {s : Ms} {a : Nat} {t : Int} (h : BJ R i B s a) (hi : i < s.j.length) (hx : (ordE (evA R i))[a]? = some (s.hd i)) : BJ R i B (wk1 R t i s) a := by
  have hw : ∀ x, cW i x (wk1 R t i s).o = cW i x s.o + (if x = s.hd i then 1 else 0) := fun x => by
    show cW i x (s.o ++ [_]) = _
    rw [cW_one]
    congr 1
    unfold wkd
    by_cases e : x = s.hd i
    · simp [e]
    · rw [if_neg e]
      have : ¬ s.hd i = x := fun q => e q.symm
      simp [this]
  have hd : ((wk1 R t i s).ja i).d = (s.ja i).d + 1 := by
    unfold wk1; rw [ja_set hi, if_pos rfl, jbN_d]
  refine ⟨fun j x h1 h2 => ?_, fun x h1 => ?_, fun j x h1 h2 => ?_⟩
  · rw [hw, h.later j x h1 h2, if_neg]
    intro e; subst e
    have := ord_inj h1 hx; omega
  · rw [hw, h.now x h1, hd, if_pos]
    rw [hx] at h1; simpa using h1.symm
  · rw [hw, if_neg]
    · exact h.old j x h1 h2
    · intro e; subst e
      have := ord_inj h1 hx; omega
theorem BD.zero {R : Rn} {i b M : Nat} (hb : 0 < b) : BD R i b M Jb.zero := .inl hb
theorem BD.work {R : Rn} {i b M : Nat} {j : Jb} (h : BD R i b M j) (hs : j.s = true → 0 < j.t ∧ 0 ≤ lkA R.L i j.p) (hM : 0 ≤ lkA R.L i j.p → tkA R.L i j.p ≤ (M : Int)) (ht : (j.t : Int) < tkA R.L i j.p) :
    (jbN R.L i j).d ≤ b ∨ ((jbN R.L i j).s = true ∧ (jbN R.L i j).d ≤ b + M ∧ (0 ≤ lkA R.L i (jbN R.L i j).p → 0 < (jbN R.L i j).t → (jbN R.L i j).d ≤ b + (jbN R.L i j).t)) := by
  rcases h with h | ⟨h1, h2, h3⟩
  · left; rw [jbN_d]; omega
  · right
    obtain ⟨q1, q2⟩ := hs h1
    have := h3 q2 q1
    have := hM q2
    unfold jbN
    split
    · exact ⟨h1, by simp only []; omega, fun _ h => by simp at h⟩
    · exact ⟨h1, by simp only []; omega, fun _ _ => by simp only []; omega⟩
theorem set_at {at_ : List Nat} {k i a b : Nat} (h : (at_.set k b)[i]? = some a) : (k = i ∧ a = b) ∨ (k ≠ i ∧ at_[i]? = some a) := by
  rw [List.getElem?_set] at h
  by_cases e : k = i
  · rw [if_pos e] at h
    split at h
    · exact .inl ⟨e, by simpa using h.symm⟩
    · simp at h
  · rw [if_neg e] at h; exact .inr ⟨e, h⟩
theorem bud_steps {R : Rn} (hr : RnOk R) {i b M : Nat} (hi : i < R.L.length) (hb : R.bu[i]? = some (b : Int)) (h0 : 0 < b) (hM : ∀ p, p < (taAt R.L i).pcs.length → 0 ≤ lkA R.L i p → tkA R.L i p ≤ (M : Int)) :
    Steps R (fun _ s at_ => ∀ a, at_[i]? = some a → BJ R i (b + M) s a ∧ BD R i b M (s.ja i)) (fun _ s at_ => ∀ a, at_[i]? = some a → BJ R i (b + M) s a ∧ BD R i b M (s.ja i)) := by
  have hle : ∀ j : Jb, BD R i b M j → j.d ≤ b + M := fun j h => by
    rcases h with h | h
    · omega
    · exact h.2.1
  refine ⟨?_, ?_, ?_, ?_, ?_, ?_, ?_, ?_⟩
  · intro t s at_ hm hq hp a ha
    obtain ⟨h1, h2⟩ := hp a ha
    obtain ⟨l, e1, e2⟩ := relA_new t R.ev 0 s
    have hj : (relA t 0 R.ev s).ja i = s.ja i := relA_ja hr hm i
    exact ⟨h1.of (fun x => by rw [e1]; exact cW_app i x _ _ (fun e he => by rw [(e2 e he).2]; decide)) (by rw [hj]), by rw [hj]; exact h2⟩
  · intro t s at_ k hm hq hk hr' hp a ha
    obtain ⟨h1, h2⟩ := hp a ha
    have hj : (sig1 t k s).ja i = if i = k then { s.ja k with s := true } else s.ja i := ja_set (by rw [hm.jl]; exact hk)
    refine ⟨h1.of (fun x => cW_app i x _ _ (fun e he => by simp at he; subst he; simp)) ?_, ?_⟩
    · rw [hj]; split
      · rename_i e; subst e; rfl
      · rfl
    · rw [hj]; split
      · rename_i e; subst e
        rcases h2 with h2 | h2
        · exact .inl h2
        · exact .inr ⟨rfl, h2.2⟩
      · exact h2
  · intro t s at_ k c hm hq hk hr' hc hs hin hp a ha
    have hj : (fin1 t k 1 s).ja i = if i = k then Jb.zero else s.ja i := fin_ja (by rw [hm.jl]; exact hk)
    have hcw : ∀ x, cW i x (fin1 t k 1 s).o = cW i x s.o := fun x => cW_app i x _ _ (fun e he => by simp at he; subst he; simp)
    rcases set_at ha with ⟨rfl, rfl⟩ | ⟨hne, ha⟩
    · obtain ⟨h1, h2⟩ := hp c hc
      rw [if_pos rfl] at hj
      exact ⟨h1.over hcw (by rw [hj]; rfl) (hle _ h2), by rw [hj]; exact BD.zero h0⟩
    · obtain ⟨h1, h2⟩ := hp a ha
      rw [if_neg (fun e => hne e.symm)] at hj
      exact ⟨h1.of hcw (by rw [hj]), by rw [hj]; exact h2⟩
  · intro t s at_ hm hq hs hg hp a ha
    obtain ⟨h1, h2⟩ := hp a ha
    exact ⟨h1.of (fun x => cW_app i x _ _ (fun e he => by simp at he; subst he; simp)) rfl, h2⟩
  · intro t s at_ hm hq hs hg hn hp
    exact hp
  · intro t s at_ k c hm hq hs hg hch hc hfin hp a ha
    have hkl : k < s.j.length := by rw [hm.jl]; exact hch.lt
    have hj : (fin1 (t + 1) k 0 (wk1 R t k s)).ja i = if i = k then Jb.zero else (wk1 R t k s).ja i := fin_ja (by unfold wk1; simpa using hkl)
    have hcw : ∀ x, cW i x (fin1 (t + 1) k 0 (wk1 R t k s)).o = cW i x (wk1 R t k s).o := fun x => cW_app i x _ _ (fun e he => by simp at he; subst he; simp)
    rcases set_at ha with ⟨rfl, rfl⟩ | ⟨hne, ha⟩
    · obtain ⟨h1, h2⟩ := hp c hc
      rw [if_pos rfl] at hj
      have h3 := h1.work (t := t) hkl (hq.event hc hch.rd)
      have hs1 := hs k hch.lt hch.rd
      have h4 := h2.work (fun e => insB_iff.1 (hs1 e)) (fun e => hM _ (hm.pc k hch.lt) e) (hm.tk k hch.lt)
      have e1 : (wk1 R t k s).ja k = jbN R.L k (s.ja k) := by unfold wk1; rw [ja_set hkl, if_pos rfl]
      refine ⟨h3.over hcw (by rw [hj]; rfl) ?_, by rw [hj]; exact BD.zero h0⟩
      rw [e1]
      rcases h4 with h4 | h4
      · omega
      · exact h4.2.1
    · obtain ⟨h1, h2⟩ := hp a ha
      have e1 : (wk1 R t k s).ja i = s.ja i := by unfold wk1; rw [ja_set hkl, if_neg (fun e => hne e.symm)]
      rw [if_neg (fun e => hne e.symm), e1] at hj
      refine ⟨h1.of (fun x => (hcw x).trans ?_) (by rw [hj]), by rw [hj]; exact h2⟩
      show cW i x (s.o ++ [_]) = _
      rw [cW_one, if_neg (by unfold wkd; simp; intro e; omega)]; rfl
  · intro t s at_ k c hm hq hs hg hch hc hpl hbu hp a ha
    obtain ⟨h1, h2⟩ := hp a ha
    have hkl : k < s.j.length := by rw [hm.jl]; exact hch.lt
    by_cases e : k = i
    · subst e
      obtain rfl : c = a := by rw [hc] at ha; simpa using ha
      have e1 : (wk1 R t k s).ja k = jbN R.L k (s.ja k) := by unfold wk1; rw [ja_set hkl, if_pos rfl]
      refine ⟨h1.work hkl (hq.event hc hch.rd), ?_⟩
      rw [e1]
      have hs1 := hs k hch.lt hch.rd
      rcases h2.work (fun e => insB_iff.1 (hs1 e)) (fun e => hM _ (hm.pc k hch.lt) e) (hm.tk k hch.lt) with h4 | h4
      · left
        rw [hb] at hbu
        simp at hbu; omega
      · exact .inr h4
    · have e1 : (wk1 R t k s).ja i = s.ja i := by unfold wk1; rw [ja_set hkl, if_neg (fun q => e q.symm)]
      refine ⟨h1.of (fun x => ?_) (by rw [e1]), by rw [e1]; exact h2⟩
      show cW i x (s.o ++ [_]) = _
      rw [cW_one, if_neg (by unfold wkd; simp; intro e; omega)]; rfl
  · intro t s at_ k c hm hq hs hg hch hc hpl hbu hp a ha
    obtain ⟨h1, h2⟩ := hp a ha
    have hkl : k < s.j.length := by rw [hm.jl]; exact hch.lt
    have hcw : ∀ x, cW i x (wk2 R t k s).o = cW i x (wk1 R t k s).o := fun x => cW_app i x (wk1 R t k s).o _ (fun e he => by simp at he; subst he; simp)
    by_cases e : k = i
    · subst e
      obtain rfl : c = a := by rw [hc] at ha; simpa using ha
      have e1 : (wk1 R t k s).ja k = jbN R.L k (s.ja k) := by unfold wk1; rw [ja_set hkl, if_pos rfl]
      have e2 : (wk2 R t k s).ja k = { jbN R.L k (s.ja k) with s := true } := by unfold wk2; rw [ja_set hkl, if_pos rfl]
      refine ⟨(h1.work hkl (hq.event hc hch.rd)).of hcw (by rw [e2, e1]), ?_⟩
      rw [e2]
      rw [hb] at hbu
      simp at hbu
      exact .inr ⟨rfl, by simp only []; omega, fun _ _ => by simp only []; omega⟩
    · have e2 : (wk2 R t k s).ja i = s.ja i := by unfold wk2; rw [ja_set hkl, if_neg (fun q => e q.symm)]
      refine ⟨h1.of (fun x => (hcw x).trans ?_) (by rw [e2]), by rw [e2]; exact h2⟩
      show cW i x (s.o ++ [_]) = _
      rw [cW_one, if_neg (by unfold wkd; simp; intro e; omega)]; rfl
/-- the law: a job with a budget works at most so long -/
theorem bud_le {R : Rn} (hr : RnOk R) {i b M : Nat} (hi : i < R.L.length) (hb : R.bu[i]? = some (b : Int)) (h0 : 0 < b) (hM : ∀ p, p < (taAt R.L i).pcs.length → 0 ≤ lkA R.L i p → tkA R.L i p ≤ (M : Int)) (k x : Nat) (hx : x < (evA R i).length) : cW i x (plM R k).o ≤ b + M := by
  have hz : (ms0 R.L.length).ja i = Jb.zero := by
    unfold Ms.ja ms0; simp only [List.getElem?_replicate]; split <;> rfl
  obtain ⟨at_, hq, hp⟩ := (bud_steps hr hi hb h0 hM).run hr (fun a ha => ⟨⟨fun _ _ _ _ => rfl, fun _ _ => by rw [hz]; rfl, fun _ _ _ _ => Nat.zero_le _⟩, by rw [hz]; exact BD.zero h0⟩) k
  have hil : i < at_.length := by rw [hq.len]; exact hi
  obtain ⟨h1, h2⟩ := hp _ (List.getElem?_eq_getElem hil)
  obtain ⟨j, hj⟩ := List.getElem?_of_mem (ordE_mem (l := evA R i).2 ⟨show (0 : Int) ≤ (x : Int) by omega, by omega⟩)
  rcases Nat.lt_trichotomy j at_[i] with h | h | h
  · exact h1.old j _ hj h
  · rw [h] at hj
    rw [h1.now _ hj]
    rcases h2 with h2 | h2
    · omega
    · exact h2.2.1
  · rw [h1.later j _ hj h]; omega
end Go.Proofs.Ytlhnhmimhpcoaaa
