/- What holds of the machine of the scheduler stays so. No condition: plain lemmas. -/
import Derived.Test.YtlhnhmimhpcoaaaScPure
namespace Go.Proofs.Ytlhnhmimhpcoaaa
open Go.RowKit
set_option linter.unusedSimpArgs false
set_option linter.unusedVariables false
theorem ta_mem {L : List Ta} {i : Nat} (h : i < L.length) : taAt L i ∈ L := by
  rw [taAt_of (List.getElem?_eq_getElem h)]; exact List.getElem_mem h
theorem pcA_mem {L : List Ta} {i p : Nat} (h : p < (taAt L i).pcs.length) : pcA L i p ∈ (taAt L i).pcs := by
  unfold pcA; rw [List.getElem?_eq_getElem h]; exact List.getElem_mem h
theorem pc_lim {L : List Ta} (h : Right L) {i p : Nat} (hi : i < L.length) (hp : p < (taAt L i).pcs.length) : (1 ≤ tkA L i p ∧ tkA L i p ≤ 200) ∧ (-1 ≤ lkA L i p ∧ lkA L i p ≤ 5) :=
  h.piece _ (ta_mem hi) _ (pcA_mem hp)
theorem pcs_pos {L : List Ta} (h : Right L) {i : Nat} (hi : i < L.length) : 0 < (taAt L i).pcs.length ∧ (taAt L i).pcs.length ≤ 8 := by
  have := h.pcs _ (ta_mem hi); omega
theorem MOk.same {R : Rn} {s s' : Ms} (h : MOk R s) (hq : s'.q.length = s.q.length) (hl : s'.j.length = s.j.length) (hp : ∀ i, i < R.L.length → (s'.ja i).p = (s.ja i).p ∧ (s'.ja i).t = (s.ja i).t) (hr : ∀ i, i < R.L.length → s'.qa i = [] → s'.ja i = Jb.zero) : MOk R s' := by
  have hi : ∀ i, i < R.L.length → insB R.L s' i = insB R.L s i := fun i hi => by unfold insB; rw [(hp i hi).1, (hp i hi).2]
  have ht : ∀ i, i < R.L.length → toI R.L s' i = toI R.L s i := fun i hx => by unfold toI; rw [hi i hx, (hp i hx).1]
  exact ⟨hq.trans h.ql, hl.trans h.jl, fun i hx => by rw [(hp i hx).1]; exact h.pc i hx, fun i hx => by rw [(hp i hx).1, (hp i hx).2]; exact h.tk i hx, hr,
    fun a b ha hb hne h1 h2 => by rw [ht a ha, ht b hb]; exact h.ce a b ha hb hne (by rw [← hi a ha]; exact h1) (by rw [← hi b hb]; exact h2)⟩
/-- the events that are released at t -/
def relK (t : Int) : Nat → List P2 → List Int
  | _, [] => []
  | k, e :: es => (if e.1 + e.2 = t then [(k : Int)] else []) ++ relK t (k + 1) es
theorem set_qa {s : Ms} {i : Nat} (h : i < s.q.length) : s.q.set i (s.qa i) = s.q := by
  apply List.ext_getElem?
  intro k
  rw [List.getElem?_set]
  split
  · rename_i e
    subst e
    unfold Ms.qa
    rw [List.getElem?_eq_getElem h]; rfl
  · rfl
theorem qa_self {q : List (List Int)} {j : List Jb} {o : List En} {i : Nat} {x : List Int} (h : i < q.length) : Ms.qa ⟨q.set i x, j, o⟩ i = x := by
  unfold Ms.qa; simp [h]
theorem relE_eq (t : Int) (i : Nat) : ∀ (es : List P2) (k : Nat) (s : Ms), i < s.q.length → relE t i k es s = ⟨s.q.set i (s.qa i ++ relK t k es), s.j, s.o ++ (relK t k es).map (fun x => ⟨t, i, 1, x, 0⟩)⟩
  | [], k, s, h => by simp [relE, relK, set_qa h]
  | e :: es, k, s, h => by
    rw [relE, relK]
    by_cases he : e.1 + e.2 = t
    · rw [if_pos he, if_pos he, relE_eq t i es (k + 1) _ (by simpa [rel1] using h)]
      have : (rel1 t i k s).qa i = s.qa i ++ [(k : Int)] := qa_self h
      rw [this]
      simp [rel1]
    · rw [if_neg he, if_neg he, relE_eq t i es (k + 1) _ h]
      simp
theorem relA_spec (t : Int) : ∀ (ls : List (List P2)) (i : Nat) (s : Ms), i + ls.length ≤ s.q.length →
    (relA t i ls s).q.length = s.q.length ∧ (relA t i ls s).j = s.j ∧ (∀ x, (relA t i ls s).qa x = s.qa x ++ (if i ≤ x then relK t 0 ((ls[x - i]?).getD []) else []))
  | [], i, s, h => ⟨rfl, rfl, fun x => by
    simp [relA, relK]⟩
  | l :: ls, i, s, h => by
    rw [relA]
    simp only [List.length_cons] at h
    have e := relE_eq t i l 0 s (by omega)
    obtain ⟨h1, h2, h3⟩ := relA_spec t ls (i + 1) (relE t i 0 l s) (by rw [e]; simp; omega)
    refine ⟨by rw [h1, e]; simp, by rw [h2, e], fun x => ?_⟩
    rw [h3 x, e, qa_set (q := s.q) (by omega)]
    rcases Nat.lt_trichotomy x i with hx | hx | hx
    · rw [if_neg (by omega), if_neg (by omega), if_neg (by omega)]
    · subst hx
      rw [if_pos rfl, if_neg (by omega), if_pos (Nat.le_refl _), Nat.sub_self]
      simp
    · rw [if_neg (by omega), if_pos (by omega), if_pos (by omega)]
      congr 3
      rw [show x - i = (x - (i + 1)) + 1 by omega, List.getElem?_cons_succ]
theorem MOk.relA {R : Rn} {s : Ms} (h : MOk R s) (hr : RnOk R) (t : Int) : MOk R (relA t 0 R.ev s) := by
  obtain ⟨h1, h2, h3⟩ := relA_spec t R.ev 0 s (by rw [h.ql, hr.ev]; omega)
  have hj : ∀ i, (Go.Proofs.Ytlhnhmimhpcoaaa.relA t 0 R.ev s).ja i = s.ja i := fun i => by unfold Ms.ja; rw [h2]
  refine h.same h1 (by rw [h2]) (fun i _ => by rw [hj]; exact ⟨rfl, rfl⟩) (fun i hi hq => ?_)
  rw [hj]
  rw [h3] at hq
  exact h.rd i hi (List.append_eq_nil_iff.1 hq).1
theorem sigS_spec {t : Int} {g : P2} {s : Ms} : (sigS t g s).q = s.q ∧ (sigS t g s).j.length = s.j.length := by
  unfold sigS; split
  · exact ⟨rfl, by simp [sig1]⟩
  · exact ⟨rfl, rfl⟩
theorem MOk.sigS {R : Rn} {s : Ms} (h : MOk R s) (t : Int) {g : P2} (hg : 0 ≤ g.2 ∧ g.2 < R.L.length) : MOk R (sigS t g s) := by
  unfold Go.Proofs.Ytlhnhmimhpcoaaa.sigS
  split
  · rename_i hc
    have hl : g.2.toNat < s.j.length := by rw [h.jl]; omega
    have hj : ∀ i, (sig1 t g.2.toNat s).ja i = if i = g.2.toNat then { s.ja g.2.toNat with s := true } else s.ja i := fun i => ja_set hl
    refine h.same rfl (by simp [sig1]) (fun i _ => ?_) (fun i hi hq => ?_)
    · rw [hj]; split
      · rename_i e; subst e; exact ⟨rfl, rfl⟩
      · exact ⟨rfl, rfl⟩
    · rw [hj]
      have hq' : s.qa i = [] := hq
      rw [if_neg (fun e => by subst e; exact hc.2 hq')]
      exact h.rd i hi hq'
  · exact h
theorem MOk.sigA {R : Rn} (t : Int) : ∀ (gs : List P2) {s : Ms}, MOk R s → (∀ g ∈ gs, 0 ≤ g.2 ∧ g.2 < R.L.length) → MOk R (sigA t gs s)
  | [], s, h, _ => h
  | g :: gs, s, h, hg => MOk.sigA t gs (h.sigS t (hg g (by simp))) (fun x hx => hg x (by simp [hx]))
theorem fin_ja {m how : Int} {i k : Nat} {s : Ms} (h : i < s.j.length) : (fin1 m i how s).ja k = if k = i then Jb.zero else s.ja k := ja_set h
theorem fin_qa {m how : Int} {i k : Nat} {s : Ms} (h : i < s.q.length) : (fin1 m i how s).qa k = if k = i then (s.qa i).tail else s.qa k := qa_set (q := s.q) h
theorem MOk.fin {R : Rn} {s : Ms} (h : MOk R s) (hr : RnOk R) (m how : Int) {i : Nat} (hi : i < R.L.length) : MOk R (fin1 m i how s) := by
  have hj := fun k => fin_ja (m := m) (how := how) (i := i) (k := k) (s := s) (by rw [h.jl]; exact hi)
  have hq := fun k => fin_qa (m := m) (how := how) (i := i) (k := k) (s := s) (by rw [h.ql]; exact hi)
  have hz : ∀ k, insB R.L (fin1 m i how s) k = true → k ≠ i ∧ insB R.L s k = true := fun k hk => by
    by_cases e : k = i
    · rw [ins_zero (by rw [hj, if_pos e])] at hk; cases hk
    · exact ⟨e, by rw [← insB_eq (by rw [hj, if_neg e])]; exact hk⟩
  have ht : ∀ k, k ≠ i → toI R.L (fin1 m i how s) k = toI R.L s k := fun k hk => toI_eq (by rw [hj, if_neg hk])
  refine ⟨by simp [fin1, h.ql], by simp [fin1, h.jl], fun k hk => ?_, fun k hk => ?_, fun k hk hq' => ?_, fun a b ha hb hne h1 h2 => ?_⟩
  · rw [hj]; split
    · exact (pcs_pos hr.r hk).1
    · exact h.pc k hk
  · rw [hj]; split
    · have := (pc_lim hr.r hk (pcs_pos hr.r hk).1).1.1
      show ((0 : Nat) : Int) < tkA R.L k 0
      omega
    · exact h.tk k hk
  · rw [hj]; split
    · rfl
    · rename_i e
      rw [hq, if_neg e] at hq'
      exact h.rd k hk hq'
  · obtain ⟨e1, i1⟩ := hz a h1
    obtain ⟨e2, i2⟩ := hz b h2
    rw [ht a e1, ht b e2]
    exact h.ce a b ha hb hne i1 i2
theorem MOk.endS {R : Rn} {s : Ms} (h : MOk R s) (hr : RnOk R) (t : Int) {i : Nat} (hi : i < R.L.length) : MOk R (endS R.L t i s) := by
  unfold Go.Proofs.Ytlhnhmimhpcoaaa.endS
  split
  · exact h.fin hr t 1 hi
  · exact h
theorem MOk.endA {R : Rn} (hr : RnOk R) (t : Int) : ∀ (f i : Nat) {s : Ms}, MOk R s → i + f = R.L.length → MOk R (endA R.L t f i s)
  | 0, _, _, h, _ => h
  | f + 1, i, s, h, e => MOk.endA hr t f (i + 1) (h.endS hr t (by omega)) (by omega)
theorem MOk.arrA {R : Rn} {s : Ms} (h : MOk R s) (hr : RnOk R) (t : Int) : MOk R (arrA R t s) :=
  MOk.endA hr t _ _ (MOk.sigA t _ (h.relA hr t) hr.sg) (by omega)
theorem MOk.wr {R : Rn} {s : Ms} (h : MOk R s) (e : En) : MOk R (s.wr e) :=
  h.same rfl rfl (fun _ _ => ⟨rfl, rfl⟩) (fun i hi hq => h.rd i hi hq)
/-- a tick of work within the job -/
theorem MOk.work {R : Rn} {s : Ms} (h : MOk R s) (hr : RnOk R) {i : Nat} (hi : i < R.L.length) (hk : ∀ k, k < R.L.length → s.qa k ≠ [] → keyI R.L s i ≤ keyI R.L s k) (hq : s.qa i ≠ []) (hp : (jbN R.L i (s.ja i)).p < (taAt R.L i).pcs.length) (o : List En) :
    MOk R { s with j := s.j.set i (jbN R.L i (s.ja i)), o := o } := by
  have hj : ∀ k, Ms.ja ⟨s.q, s.j.set i (jbN R.L i (s.ja i)), o⟩ k = if k = i then jbN R.L i (s.ja i) else s.ja k := fun k => ja_set (by rw [h.jl]; exact hi)
  obtain ⟨s', hs'⟩ : ∃ s', (⟨s.q, s.j.set i (jbN R.L i (s.ja i)), o⟩ : Ms) = s' := ⟨_, rfl⟩
  have hq' : ∀ k, s'.qa k = s.qa k := fun k => by subst hs'; rfl
  rw [hs'] at hj ⊢
  have hto : ∀ k, k ≠ i → toI R.L s' k = toI R.L s k := fun k hk => toI_eq (by rw [hj, if_neg hk])
  have hin : ∀ k, k ≠ i → insB R.L s' k = insB R.L s k := fun k hk => insB_eq (by rw [hj, if_neg hk])
  have htk := h.tk i hi
  have hpi := h.pc i hi
  -- against another one that is inside
  have key : ∀ b, b < R.L.length → b ≠ i → insB R.L s b = true → insB R.L s' i = true → cnt R.L i < cnt R.L (toI R.L s b) ∨ cnt R.L b < cnt R.L (toI R.L s' i) := by
    intro b hb hne h1 h2
    cases hc : insB R.L s i
    · left
      have hqb : s.qa b ≠ [] := fun e => by rw [ins_zero (h.rd b hb e)] at h1; cases h1
      have hkb := hk b hb hqb
      unfold keyI ownI at hkb
      rw [toI_no hc, if_pos rfl] at hkb
      have htb := h.to_ hb
      by_cases e : cnt R.L i < cnt R.L (toI R.L s b)
      · exact e
      · exfalso
        split at hkb
        · rename_i e2
          have : cnt R.L (i : Int) = cnt R.L (toI R.L s b) := by omega
          have := cnt_inj (by omega) (by omega) htb.1.1 htb.1.2 this
          rw [e2] at this
          omega
        · omega
    · have e : toI R.L s' i = toI R.L s i := by
        have hp2 : (s'.ja i).p = (s.ja i).p := by
          have h3 := (insB_iff.1 h2).1
          rw [hj, if_pos rfl] at h3 ⊢
          unfold jbN at h3 ⊢
          split
          · rename_i hx
            rw [if_pos hx] at h3
            exact absurd h3 (Nat.lt_irrefl 0)
          · rfl
        unfold toI; rw [h2, hc, hp2]
      rw [e]
      exact h.ce i b hi hb (fun e => hne e.symm) hc h1
  clear hk
  refine ⟨by subst hs'; exact h.ql, by subst hs'; simp [h.jl], fun k hk => ?_, fun k hk => ?_, fun k hk hqk => ?_, fun a b ha hb hne h1 h2 => ?_⟩
  · rw [hj]; split
    · rename_i e; subst e; exact hp
    · exact h.pc k hk
  · rw [hj]; split
    · rename_i e; subst e
      have h5 := (pc_lim hr.r hk hp).1.1
      unfold jbN at h5 hp ⊢
      split
      · rename_i hx
        rw [if_pos hx] at h5
        show ((0 : Nat) : Int) < _
        simp only [] at h5
        exact Int.lt_of_lt_of_le (by omega) h5
      · rename_i hx
        show ((((s.ja k).t + 1 : Nat)) : Int) < tkA R.L k (s.ja k).p
        omega
    · exact h.tk k hk
  · rw [hq'] at hqk
    by_cases e : k = i
    · subst e; exact absurd hqk hq
    · rw [hj, if_neg e]; exact h.rd k hk hqk
  · by_cases ea : a = i
    · subst ea
      have hb' : b ≠ a := fun e => hne e.symm
      rw [hin b hb'] at h2
      rw [hto b hb']
      exact key b hb hb' h2 h1
    · by_cases eb : b = i
      · subst eb
        rw [hin a ea] at h1
        rw [hto a ea]
        exact (key a ha ea h1 h2).symm
      · rw [hin a ea] at h1
        rw [hin b eb] at h2
        rw [hto a ea, hto b eb]
        exact h.ce a b ha hb hne h1 h2
theorem MOk.wkA {R : Rn} {s : Ms} (h : MOk R s) (hr : RnOk R) (t : Int) {i : Nat} (hi : i < R.L.length) (hk : ∀ k, k < R.L.length → s.qa k ≠ [] → keyI R.L s i ≤ keyI R.L s k) (hq : s.qa i ≠ []) : MOk R (wkA R t i s) := by
  have hjl : i < s.j.length := by rw [h.jl]; exact hi
  unfold Go.Proofs.Ytlhnhmimhpcoaaa.wkA
  have hpi := h.pc i hi
  have hle : (jbN R.L i (s.ja i)).p ≤ (taAt R.L i).pcs.length := by unfold jbN; split <;> simp only [] <;> omega
  by_cases h1 : (jbN R.L i (s.ja i)).p = (taAt R.L i).pcs.length
  · rw [if_pos h1]
    have := h.fin hr (t + 1) 0 hi
    have e : fin1 (t + 1) i 0 { s with o := s.o ++ [⟨t, i, 4, (s.ja i).p, s.hd i⟩], j := s.j.set i (jbN R.L i (s.ja i)) } = { fin1 (t + 1) i 0 s with o := s.o ++ [⟨t, i, 4, (s.ja i).p, s.hd i⟩] ++ [⟨t + 1, i, 5, s.hd i, 0⟩] } := by
      unfold fin1; simp; exact ⟨rfl, rfl⟩
    rw [e]
    exact this.same rfl rfl (fun _ _ => ⟨rfl, rfl⟩) (fun k hk hq => this.rd k hk hq)
  · rw [if_neg h1]
    have hw := fun o => h.work hr hi hk hq (by omega) o
    split
    · refine (hw s.o).same rfl (by simp) (fun k hk => ?_) (fun k hk hq' => ?_)
      · rw [ja_set hjl, ja_set hjl]
        split <;> exact ⟨rfl, rfl⟩
      · rw [ja_set hjl]
        have hq2 : s.qa k = [] := hq'
        split
        · rename_i e; subst e; exact absurd hq2 hq
        · exact h.rd k hk hq2
    · exact hw _
theorem MOk.tckB {R : Rn} {s : Ms} (h : MOk R s) (hr : RnOk R) (t : Int) : MOk R (tckB R t s) := by
  unfold Go.Proofs.Ytlhnhmimhpcoaaa.tckB
  split
  · exact h.wr _
  · split
    · rename_i hc
      obtain ⟨h1, h2, h3, h4⟩ := chM_spec R.L s
      exact h.wkA hr t (by omega) (fun k hk hq => (h3 k hk hq).2) (h4 hc)
    · exact h
theorem MOk.tckA {R : Rn} {s : Ms} (h : MOk R s) (hr : RnOk R) (t : Int) : MOk R (tckA R t s) := (h.arrA hr t).tckB hr t
theorem MOk.zero {R : Rn} (hr : RnOk R) : MOk R (ms0 R.L.length) := by
  have hj : ∀ i, (ms0 R.L.length).ja i = Jb.zero := fun i => by
    unfold Ms.ja ms0; simp only [List.getElem?_replicate]; split <;> rfl
  refine ⟨by simp [ms0], by simp [ms0], fun i hi => by rw [hj]; exact (pcs_pos hr.r hi).1, fun i hi => ?_, fun i _ _ => hj i, fun a b _ _ _ h1 _ => by rw [ins_zero (hj a)] at h1; cases h1⟩
  rw [hj]
  have := (pc_lim hr.r hi (pcs_pos hr.r hi).1).1.1
  show ((0 : Nat) : Int) < tkA R.L i 0
  omega
theorem plM_ok {R : Rn} (hr : RnOk R) : ∀ t, MOk R (plM R t)
  | 0 => MOk.zero hr
  | t + 1 => (plM_ok hr t).tckA hr t
end Go.Proofs.Ytlhnhmimhpcoaaa
