/- What holds along a run: one way of showing it. No condition: plain lemmas. -/
import Derived.Test.YtlhnhmimhpcoaaaScBnd
namespace Go.Proofs.Ytlhnhmimhpcoaaa
open Go.RowKit
set_option linter.unusedSimpArgs false
set_option linter.unusedVariables false
/-- behind the arrivals nobody waits for its end -/
def Settled (R : Rn) (s : Ms) : Prop := ∀ i, i < R.L.length → s.qa i ≠ [] → (s.ja i).s = true → insB R.L s i = true
/-- a tick of work -/
def wk1 (R : Rn) (t : Int) (i : Nat) (s : Ms) : Ms := { s with j := s.j.set i (jbN R.L i (s.ja i)), o := s.o ++ [⟨t, i, 4, (s.ja i).p, s.hd i⟩] }
def wk2 (R : Rn) (t : Int) (i : Nat) (s : Ms) : Ms := { s with j := s.j.set i { jbN R.L i (s.ja i) with s := true }, o := s.o ++ [⟨t, i, 4, (s.ja i).p, s.hd i⟩] ++ [⟨t + 1, i, 6, s.hd i, 0⟩] }
theorem wkA_cases (R : Rn) (t : Int) (i : Nat) (s : Ms) : wkA R t i s = if (jbN R.L i (s.ja i)).p = (taAt R.L i).pcs.length then fin1 (t + 1) i 0 (wk1 R t i s) else if (((jbN R.L i (s.ja i)).d : Nat) : Int) = (R.bu[i]?).getD 0 then wk2 R t i s else wk1 R t i s := rfl
structure Chosen (R : Rn) (s : Ms) (i : Nat) : Prop where
  lt : i < R.L.length
  rd : s.qa i ≠ []
  le : ∀ k, k < R.L.length → s.qa k ≠ [] → keyI R.L s i ≤ keyI R.L s k
theorem endS_settled {R : Rn} {s : Ms} (hm : MOk R s) (t : Int) {i : Nat} (hi : i < R.L.length) (h : ∀ k, k < i → s.qa k ≠ [] → (s.ja k).s = true → insB R.L s k = true) : ∀ k, k < i + 1 → (endS R.L t i s).qa k ≠ [] → ((endS R.L t i s).ja k).s = true → insB R.L (endS R.L t i s) k = true := by
  intro k hk
  unfold endS
  split
  · rename_i hc
    have hj := fun k => fin_ja (m := t) (how := 1) (i := i) (k := k) (s := s) (by rw [hm.jl]; exact hi)
    have hq := fun k => fin_qa (m := t) (how := 1) (i := i) (k := k) (s := s) (by rw [hm.ql]; exact hi)
    rw [hj, hq]
    by_cases e : k = i
    · rw [if_pos e, if_pos e]
      intro _ h2; cases h2
    · rw [if_neg e, if_neg e, insB_eq (s' := s) (by rw [hj, if_neg e])]
      exact h k (by omega)
  · rename_i hc
    intro h1 h2
    by_cases e : k = i
    · subst e
      cases hb : insB R.L s k
      · exact absurd ⟨h1, h2, hb⟩ hc
      · rfl
    · exact h k (by omega) h1 h2
theorem endA_settled {R : Rn} (hr : RnOk R) (t : Int) : ∀ (f i : Nat) {s : Ms}, MOk R s → i + f = R.L.length → (∀ k, k < i → s.qa k ≠ [] → (s.ja k).s = true → insB R.L s k = true) → Settled R (endA R.L t f i s)
  | 0, i, s, _, e, h => fun k hk => h k (by omega)
  | f + 1, i, s, hm, e, h => endA_settled hr t f (i + 1) (hm.endS hr t (by omega)) (by omega) (endS_settled hm t (by omega) h)
theorem arrA_settled {R : Rn} (hr : RnOk R) {s : Ms} (hm : MOk R s) (t : Int) : Settled R (arrA R t s) :=
  endA_settled hr t _ 0 (MOk.sigA t _ (hm.relA hr t) hr.sg) (by omega) (fun k hk => absurd hk (Nat.not_lt_zero _))
/-- what must be shown of P (behind the releases of a tick) and Q (behind a tick) -/
structure Steps (R : Rn) (P Q : Int → Ms → List Nat → Prop) : Prop where
  rel : ∀ (t : Int) s at_, MOk R s → QR R (t - 1) s at_ → Q (t - 1) s at_ → P t (relA t 0 R.ev s) at_
  sig : ∀ (t : Int) s at_ i, MOk R s → QR R t s at_ → i < R.L.length → s.qa i ≠ [] → P t s at_ → P t (sig1 t i s) at_
  fin : ∀ (t : Int) s at_ i a, MOk R s → QR R t s at_ → i < R.L.length → s.qa i ≠ [] → at_[i]? = some a → (s.ja i).s = true → insB R.L s i = false → P t s at_ → P t (fin1 t i 1 s) (at_.set i (a + 1))
  gc : ∀ (t : Int) s at_, MOk R s → QR R t s at_ → Settled R s → t % R.fr < R.sl → P t s at_ → Q t (s.wr ⟨t, -1, 3, 0, 0⟩) at_
  idle : ∀ (t : Int) s at_, MOk R s → QR R t s at_ → Settled R s → ¬ t % R.fr < R.sl → (∀ k, k < R.L.length → s.qa k = []) → P t s at_ → Q t s at_
  w0 : ∀ (t : Int) s at_ i a, MOk R s → QR R t s at_ → Settled R s → ¬ t % R.fr < R.sl → Chosen R s i → at_[i]? = some a → (jbN R.L i (s.ja i)).p = (taAt R.L i).pcs.length → P t s at_ → Q t (fin1 (t + 1) i 0 (wk1 R t i s)) (at_.set i (a + 1))
  w1 : ∀ (t : Int) s at_ i a, MOk R s → QR R t s at_ → Settled R s → ¬ t % R.fr < R.sl → Chosen R s i → at_[i]? = some a → (jbN R.L i (s.ja i)).p < (taAt R.L i).pcs.length → (((jbN R.L i (s.ja i)).d : Nat) : Int) ≠ (R.bu[i]?).getD 0 → P t s at_ → Q t (wk1 R t i s) at_
  w2 : ∀ (t : Int) s at_ i a, MOk R s → QR R t s at_ → Settled R s → ¬ t % R.fr < R.sl → Chosen R s i → at_[i]? = some a → (jbN R.L i (s.ja i)).p < (taAt R.L i).pcs.length → (((jbN R.L i (s.ja i)).d : Nat) : Int) = (R.bu[i]?).getD 0 → P t s at_ → Q t (wk2 R t i s) at_
section
variable {R : Rn} {P Q : Int → Ms → List Nat → Prop}
theorem Steps.sigA (h : Steps R P Q) (hr : RnOk R) (t : Int) : ∀ (gs : List P2) {s : Ms} {at_ : List Nat}, MOk R s → QR R t s at_ → (∀ g ∈ gs, 0 ≤ g.2 ∧ g.2 < R.L.length) → P t s at_ → P t (sigA t gs s) at_
  | [], s, at_, _, _, _, hp => hp
  | g :: gs, s, at_, hm, hq, hg, hp => by
    have h0 := hg g (by simp)
    refine Steps.sigA h hr t gs (hm.sigS t h0) (hq.of sigS_spec.1) (fun x hx => hg x (by simp [hx])) ?_
    unfold sigS
    split
    · rename_i hc
      exact h.sig t s at_ _ hm hq (by omega) hc.2 hp
    · exact hp
theorem Steps.endA (h : Steps R P Q) (hr : RnOk R) (t : Int) : ∀ (f i : Nat) {s : Ms} {at_ : List Nat}, MOk R s → QR R t s at_ → i + f = R.L.length → P t s at_ → ∃ at', QR R t (endA R.L t f i s) at' ∧ P t (endA R.L t f i s) at'
  | 0, _, s, at_, _, hq, _, hp => ⟨at_, hq, hp⟩
  | f + 1, i, s, at_, hm, hq, e, hp => by
    rw [Go.Proofs.Ytlhnhmimhpcoaaa.endA]
    unfold Go.Proofs.Ytlhnhmimhpcoaaa.endS
    split
    · rename_i hc
      have hi : i < at_.length := by rw [hq.len]; omega
      exact Steps.endA h hr t f (i + 1) (hm.fin hr t 1 (by omega)) (hq.fin hm (List.getElem?_eq_getElem hi) hc.1 t 1) (by omega) (h.fin t s at_ i _ hm hq (by omega) hc.1 (List.getElem?_eq_getElem hi) hc.2.1 hc.2.2 hp)
    · exact Steps.endA h hr t f (i + 1) hm hq (by omega) hp
theorem Steps.arr (h : Steps R P Q) (hr : RnOk R) {t : Int} {s : Ms} {at_ : List Nat} (hm : MOk R s) (hq : QR R (t - 1) s at_) (hp : Q (t - 1) s at_) : ∃ at', QR R t (arrA R t s) at' ∧ P t (arrA R t s) at' :=
  h.endA hr t _ _ (MOk.sigA t _ (hm.relA hr t) hr.sg) ((hq.rel hr hm).of (sigA_q _ _ _)) (by omega) (h.sigA hr t _ (hm.relA hr t) (hq.rel hr hm) hr.sg (h.rel t s at_ hm hq hp))
theorem chosen_of {s : Ms} (hm : MOk R s) (hc : 0 ≤ chM R.L s) : Chosen R s (chM R.L s).toNat := by
  obtain ⟨h1, h2, h3, h4⟩ := chM_spec R.L s
  exact ⟨by omega, h4 hc, fun k hk hq => (h3 k hk hq).2⟩
theorem Steps.tick (h : Steps R P Q) (hr : RnOk R) {t : Int} {s : Ms} {at_ : List Nat} (hm : MOk R s) (hs : Settled R s) (hq : QR R t s at_) (hp : P t s at_) : ∃ at', QR R t (tckB R t s) at' ∧ Q t (tckB R t s) at' := by
  unfold tckB
  split
  · rename_i hg
    exact ⟨at_, hq.of rfl, h.gc t s at_ hm hq hs hg hp⟩
  · rename_i hg
    split
    · rename_i hc
      have hch := chosen_of hm hc
      obtain ⟨i, hi⟩ : ∃ i, (chM R.L s).toNat = i := ⟨_, rfl⟩
      rw [hi] at hch ⊢
      have hil : i < at_.length := by rw [hq.len]; exact hch.lt
      have ha := List.getElem?_eq_getElem hil
      have hjl : i < s.j.length := by rw [hm.jl]; exact hch.lt
      have hle : (jbN R.L i (s.ja i)).p ≤ (taAt R.L i).pcs.length := by
        have hpi := hm.pc i hch.lt
        unfold jbN; split <;> simp only [] <;> omega
      rw [wkA_cases]
      split
      · rename_i h1
        refine ⟨_, ?_, h.w0 t s at_ i _ hm hq hs hg hch ha h1 hp⟩
        have := hq.fin hm ha hch.rd (t + 1) 0
        exact this.of rfl
      · rename_i h1
        split
        · rename_i h2
          exact ⟨at_, hq.of rfl, h.w2 t s at_ i _ hm hq hs hg hch ha (by omega) h2 hp⟩
        · rename_i h2
          exact ⟨at_, hq.of rfl, h.w1 t s at_ i _ hm hq hs hg hch ha (by omega) h2 hp⟩
    · rename_i hc
      refine ⟨at_, hq, h.idle t s at_ hm hq hs hg (fun k hk => ?_) hp⟩
      obtain ⟨h1, h2, h3, h4⟩ := chM_spec R.L s
      by_cases e : s.qa k = []
      · exact e
      · have := (h3 k hk e).1; omega
theorem qr_zero {R : Rn} (hr : RnOk R) : QR R (-1) (ms0 R.L.length) (List.replicate R.L.length 0) := by
  refine ⟨by simp, fun i a ha => ?_⟩
  have hq : (ms0 R.L.length).qa i = [] := by
    unfold ms0 Ms.qa; simp only [List.getElem?_replicate]; split <;> rfl
  have h0 : a = 0 := by
    rw [List.getElem?_replicate] at ha
    split at ha
    · simpa using ha.symm
    · simp at ha
  subst h0
  have : outE (evA R i) (-1) = [] := by
    refine outE_none (fun e he => ?_) (by omega)
    unfold evA at he
    cases hev : R.ev[i]? with
    | none => rw [hev] at he; simp at he
    | some l =>
      rw [hev] at he
      have := (hr.el l (List.mem_of_getElem? hev)).2 e he
      omega
  rw [hq, this]; exact ⟨rfl, Nat.le_refl _⟩
/-- what the steps keep holds along the run -/
theorem Steps.run (h : Steps R P Q) (hr : RnOk R) (h0 : Q (-1) (ms0 R.L.length) (List.replicate R.L.length 0)) : ∀ k : Nat, ∃ at_, QR R ((k : Int) - 1) (plM R k) at_ ∧ Q ((k : Int) - 1) (plM R k) at_
  | 0 => ⟨_, qr_zero hr, h0⟩
  | k + 1 => by
    obtain ⟨at_, hq, hp⟩ := Steps.run h hr h0 k
    have hm := plM_ok hr k
    obtain ⟨a1, q1, p1⟩ := h.arr hr hm hq hp
    obtain ⟨a2, q2, p2⟩ := h.tick hr (hm.arrA hr _) (arrA_settled hr hm _) q1 p1
    refine ⟨a2, ?_⟩
    rw [show (((k + 1 : Nat) : Int) - 1) = (k : Int) by omega]
    exact ⟨q2, p2⟩
end
end Go.Proofs.Ytlhnhmimhpcoaaa
