/- Bounds on a run's machine. No condition: plain lemmas. What holds along a run: one way of showing it. No condition: plain lemmas. When jobs are over: the entries that say so. No condition: plain lemmas. Several rows of ints that a call made, each in a block of its own; append to one of them. No condition: plain lemmas. -/
import Derived.Test.YtmahagcghpoekaaGreatMg2
import Derived.Test.YtmahagcghpoekaaGreatMg1
namespace Go.Proofs.YtmahagcghpoekaaGreat
open Go.RowKit
set_option linter.unusedSimpArgs false
set_option linter.unusedVariables false
theorem QR.endA {R : Rn} {t : Int} (hr : RnOk R) : ∀ (f i : Nat) {s : Ms} {at_ : List Nat}, MOk R s → QR R t s at_ → i + f = R.L.length → ∃ at', QR R t (endA R.L t f i s) at'
  | 0, _, s, at_, _, h, _ => ⟨at_, h⟩
  | f + 1, i, s, at_, hm, h, e => by
    rw [Go.Proofs.YtmahagcghpoekaaGreat.endA]
    unfold Go.Proofs.YtmahagcghpoekaaGreat.endS
    split
    · rename_i hc
      have hi : i < at_.length := by rw [h.len]; omega
      exact QR.endA hr f (i + 1) (hm.fin hr t 1 (by omega)) (h.fin hm (List.getElem?_eq_getElem hi) hc.1 t 1) (by omega)
    · exact QR.endA hr f (i + 1) hm h (by omega)
theorem sigA_q (t : Int) : ∀ (gs : List P2) (s : Ms), (sigA t gs s).q = s.q
  | [], s => rfl
  | g :: gs, s => by rw [sigA, sigA_q t gs, sigS_spec.1]
theorem QR.arrA {R : Rn} {t : Int} {s : Ms} {at_ : List Nat} (hr : RnOk R) (hm : MOk R s) (h : QR R (t - 1) s at_) : ∃ at', QR R t (arrA R t s) at' :=
  QR.endA hr _ _ (MOk.sigA t _ (hm.relA hr t) hr.sg) ((h.rel hr hm).of (sigA_q _ _ _)) (by omega)
theorem QR.wkA {R : Rn} {t u : Int} {s : Ms} {at_ : List Nat} {i : Nat} (hm : MOk R s) (h : QR R t s at_) (hi : i < R.L.length) (hq : s.qa i ≠ []) : ∃ at', QR R t (wkA R u i s) at' := by
  unfold Go.Proofs.YtmahagcghpoekaaGreat.wkA
  split
  · have hil : i < at_.length := by rw [h.len]; exact hi
    have := h.fin hm (List.getElem?_eq_getElem hil) hq (u + 1) 0
    exact ⟨_, this.of rfl⟩
  · split
    · exact ⟨at_, h.of rfl⟩
    · exact ⟨at_, h.of rfl⟩
theorem QR.tckB {R : Rn} {t : Int} {s : Ms} {at_ : List Nat} (hr : RnOk R) (hm : MOk R s) (h : QR R t s at_) : ∃ at', QR R t (tckB R t s) at' := by
  unfold Go.Proofs.YtmahagcghpoekaaGreat.tckB
  split
  · exact ⟨at_, h.of rfl⟩
  · split
    · rename_i hc
      obtain ⟨h1, h2, h3, h4⟩ := chM_spec R.L s
      exact h.wkA hm (by omega) (h4 hc)
    · exact ⟨at_, h⟩
theorem plM_qr {R : Rn} (hr : RnOk R) : ∀ k : Nat, ∃ at_, QR R ((k : Int) - 1) (plM R k) at_
  | 0 => ⟨List.replicate R.L.length 0, ⟨by simp, fun i a ha => by
    have hq : (plM R 0).qa i = [] := by
      unfold plM ms0 Ms.qa; simp only [List.getElem?_replicate]; split <;> rfl
    have h0 : a = 0 := by
      rw [List.getElem?_replicate] at ha
      split at ha
      · simpa using ha.symm
      · simp at ha
    subst h0
    have : outE (evA R i) (((0 : Nat) : Int) - 1) = [] := by
      refine outE_none (fun e he => ?_) (by omega)
      unfold evA at he
      cases hev : R.ev[i]? with
      | none => rw [hev] at he; simp at he
      | some l =>
        rw [hev] at he
        have := (hr.el l (List.mem_of_getElem? hev)).2 e he
        omega
    rw [hq, this]; exact ⟨rfl, Nat.le_refl _⟩⟩⟩
  | k + 1 => by
    obtain ⟨at_, h⟩ := plM_qr hr k
    have hm := plM_ok hr k
    obtain ⟨a1, h1⟩ := h.arrA hr hm
    obtain ⟨a2, h2⟩ := h1.tckB hr (hm.arrA hr _)
    refine ⟨a2, ?_⟩
    rw [show (((k + 1 : Nat) : Int) - 1) = (k : Int) by omega]
    exact h2
theorem QR.small {R : Rn} {t : Int} {s : Ms} {at_ : List Nat} (hr : RnOk R) (hm : MOk R s) (h : QR R t s at_) (x : Nat) : (s.qa x).length ≤ 40 := by
  by_cases hx : x < R.L.length
  · have hxl : x < at_.length := by rw [h.len]; exact hx
    obtain ⟨e, _⟩ := h.q x _ (List.getElem?_eq_getElem hxl)
    rw [e, List.length_drop]
    have h1 : (outE (evA R x) t).length ≤ (ordE (evA R x)).length := List.length_filter_le _ _
    rw [ordE_len] at h1
    have h2 : (evA R x).length ≤ 40 := by
      unfold evA
      cases hev : R.ev[x]? with
      | none => simp
      | some l => exact (hr.el l (List.mem_of_getElem? hev)).1
    omega
  · have : s.qa x = [] := by unfold Ms.qa; rw [List.getElem?_eq_none (by rw [hm.ql]; omega)]; rfl
    rw [this]; simp
theorem rel_small {R : Rn} (hr : RnOk R) (k : Nat) (x : Nat) : ((relA (k : Int) 0 R.ev (plM R k)).qa x).length ≤ 40 := by
  obtain ⟨at_, h⟩ := plM_qr hr k
  have hm := plM_ok hr k
  exact QR.small hr (hm.relA hr _) (h.rel hr hm) x
theorem arr_small {R : Rn} (hr : RnOk R) (k : Nat) (x : Nat) : ((arrA R (k : Int) (plM R k)).qa x).length ≤ 40 := by
  obtain ⟨at_, h⟩ := plM_qr hr k
  have hm := plM_ok hr k
  obtain ⟨a1, h1⟩ := h.arrA hr hm
  exact QR.small hr (hm.arrA hr _) h1 x
/-- the lengths of what is written -/
theorem relK_len (t : Int) : ∀ (es : List P2) (k : Nat), (relK t k es).length ≤ es.length
  | [], k => Nat.le_refl _
  | e :: es, k => by
    have := relK_len t es (k + 1)
    rw [relK, List.length_append, List.length_cons]
    split <;> simp <;> omega
theorem relE_o (t : Int) (i : Nat) : ∀ (es : List P2) (k : Nat) (s : Ms), (relE t i k es s).o.length ≤ s.o.length + es.length
  | [], k, s => by simp [relE]
  | e :: es, k, s => by
    rw [relE]
    have := relE_o t i es (k + 1) (if e.1 + e.2 = t then rel1 t i k s else s)
    refine Nat.le_trans this ?_
    rw [List.length_cons]
    split
    · simp [rel1]; omega
    · omega
theorem relA_o (t : Int) : ∀ (ls : List (List P2)) (i : Nat) (s : Ms), (∀ l ∈ ls, l.length ≤ 40) → (relA t i ls s).o.length ≤ s.o.length + 40 * ls.length
  | [], i, s, _ => by simp [relA]
  | l :: ls, i, s, h => by
    rw [relA]
    have h1 := relA_o t ls (i + 1) (relE t i 0 l s) (fun x hx => h x (by simp [hx]))
    have h2 := relE_o t i l 0 s
    have h3 := h l (by simp)
    rw [List.length_cons]; omega
theorem sigA_o (t : Int) : ∀ (gs : List P2) (s : Ms), (sigA t gs s).o.length ≤ s.o.length + gs.length
  | [], s => by simp [sigA]
  | g :: gs, s => by
    rw [sigA]
    have h1 := sigA_o t gs (sigS t g s)
    have h2 : (sigS t g s).o.length ≤ s.o.length + 1 := by unfold sigS; split <;> simp [sig1]
    rw [List.length_cons]; omega
theorem endA_o (L : List Ta) (t : Int) : ∀ (f i : Nat) (s : Ms), (endA L t f i s).o.length ≤ s.o.length + f
  | 0, _, s => by simp [endA]
  | f + 1, i, s => by
    rw [endA]
    have h1 := endA_o L t f (i + 1) (endS L t i s)
    have h2 : (endS L t i s).o.length ≤ s.o.length + 1 := by unfold endS; split <;> simp [fin1]
    omega
theorem arrA_o {R : Rn} (hr : RnOk R) (t : Int) (s : Ms) : (arrA R t s).o.length ≤ s.o.length + 250 := by
  unfold arrA
  have h1 := endA_o R.L t R.L.length 0 (sigA t R.sg (relA t 0 R.ev s))
  have h2 := sigA_o t R.sg (relA t 0 R.ev s)
  have h3 := relA_o t R.ev 0 s (fun l hl => (hr.el l hl).1)
  have h4 := hr.r.len
  have h5 := hr.ev
  have h6 := hr.sl
  omega
theorem wkA_o (R : Rn) (t : Int) (i : Nat) (s : Ms) : (wkA R t i s).o.length ≤ s.o.length + 2 := by
  unfold wkA; split
  · simp [fin1]
  · split <;> simp
theorem tckA_o {R : Rn} (hr : RnOk R) (t : Int) (s : Ms) : (tckA R t s).o.length ≤ s.o.length + 252 := by
  unfold tckA tckB
  have h1 := arrA_o hr t s
  split
  · simp [Ms.wr]; omega
  · split
    · have := wkA_o R t (chM R.L (arrA R t s)).toNat (arrA R t s); omega
    · omega
theorem plM_o {R : Rn} (hr : RnOk R) : ∀ k : Nat, (plM R k).o.length ≤ 252 * k
  | 0 => by simp [plM, ms0]
  | k + 1 => by
    have h1 := plM_o hr k
    have h2 := tckA_o hr (k : Int) (plM R k)
    rw [plM]; omega
/-- the ticks of a job -/
theorem relA_ja {R : Rn} (hr : RnOk R) {t : Int} {s : Ms} (hm : MOk R s) (i : Nat) : (relA t 0 R.ev s).ja i = s.ja i := by
  obtain ⟨_, h2, _⟩ := relA_spec t R.ev 0 s (by rw [hm.ql, hr.ev]; omega)
  unfold Ms.ja; rw [h2]
theorem sigS_d {R : Rn} {t : Int} {g : P2} {s : Ms} (hm : MOk R s) (hg : 0 ≤ g.2 ∧ g.2 < R.L.length) (i : Nat) : ((sigS t g s).ja i).d = (s.ja i).d := by
  unfold sigS; split
  · unfold sig1
    rw [ja_set (by rw [hm.jl]; omega)]
    split
    · rename_i e; subst e; rfl
    · rfl
  · rfl
theorem sigA_d {R : Rn} {t : Int} : ∀ (gs : List P2) {s : Ms}, MOk R s → (∀ g ∈ gs, 0 ≤ g.2 ∧ g.2 < R.L.length) → ∀ i, ((sigA t gs s).ja i).d = (s.ja i).d
  | [], s, _, _, i => rfl
  | g :: gs, s, hm, hg, i => by
    rw [sigA, sigA_d gs (hm.sigS t (hg g (by simp))) (fun x hx => hg x (by simp [hx])) i, sigS_d hm (hg g (by simp))]
theorem endA_d {R : Rn} (hr : RnOk R) {t : Int} : ∀ (f i : Nat) {s : Ms}, MOk R s → i + f = R.L.length → ∀ x, ((endA R.L t f i s).ja x).d ≤ (s.ja x).d
  | 0, _, _, _, _, x => Nat.le_refl _
  | f + 1, i, s, hm, e, x => by
    rw [endA]
    have h1 := endA_d (t := t) hr f (i + 1) (hm.endS hr t (by omega : i < R.L.length)) (by omega) x
    refine Nat.le_trans h1 ?_
    unfold endS; split
    · rw [fin_ja (by rw [hm.jl]; omega)]
      split
      · exact Nat.zero_le _
      · exact Nat.le_refl _
    · exact Nat.le_refl _
theorem arrA_d {R : Rn} (hr : RnOk R) {t : Int} {s : Ms} (hm : MOk R s) (x : Nat) : ((arrA R t s).ja x).d ≤ (s.ja x).d := by
  unfold arrA
  have h1 := endA_d hr (t := t) R.L.length 0 (MOk.sigA t R.sg (hm.relA hr t) hr.sg) (by omega) x
  rw [sigA_d R.sg (hm.relA hr t) hr.sg x, relA_ja hr hm] at h1
  exact h1
theorem jbN_d (L : List Ta) (i : Nat) (j : Jb) : (jbN L i j).d = j.d + 1 := by unfold jbN; split <;> rfl
theorem wkA_d {R : Rn} {t : Int} {i : Nat} {s : Ms} (hm : MOk R s) (hi : i < R.L.length) (x : Nat) : ((wkA R t i s).ja x).d ≤ (s.ja x).d + 1 := by
  have hl : i < s.j.length := by rw [hm.jl]; exact hi
  unfold wkA; split
  · rw [fin_ja (by simpa using hl)]
    split
    · exact Nat.zero_le _
    · rw [ja_set hl]; rename_i e; rw [if_neg e]; omega
  · split
    · rw [ja_set hl]
      split
      · rename_i e; subst e; show (jbN R.L x (s.ja x)).d ≤ _; rw [jbN_d]; omega
      · omega
    · rw [ja_set hl]
      split
      · rename_i e; subst e; rw [jbN_d]; omega
      · omega
theorem plM_d {R : Rn} (hr : RnOk R) : ∀ (k x : Nat), ((plM R k).ja x).d ≤ k
  | 0, x => by
    have : (plM R 0).ja x = Jb.zero := by unfold plM ms0 Ms.ja; simp only [List.getElem?_replicate]; split <;> rfl
    rw [this]; exact Nat.le_refl 0
  | k + 1, x => by
    have hm := plM_ok hr k
    have h1 := plM_d hr k x
    have h2 := arrA_d hr (t := (k : Int)) hm x
    have hma := hm.arrA hr (k : Int)
    rw [plM, tckA, tckB]
    split
    · show ((arrA R (k : Int) (plM R k)).ja x).d ≤ _; omega
    · split
      · rename_i hc
        obtain ⟨_, g2, _, _⟩ := chM_spec R.L (arrA R (k : Int) (plM R k))
        have := wkA_d (t := (k : Int)) hma (by omega : (chM R.L (arrA R (k : Int) (plM R k))).toNat < R.L.length) x
        omega
      · omega
theorem arr_d {R : Rn} (hr : RnOk R) (k x : Nat) : ((arrA R (k : Int) (plM R k)).ja x).d ≤ k := Nat.le_trans (arrA_d hr (plM_ok hr k) x) (plM_d hr k x)
end Go.Proofs.YtmahagcghpoekaaGreat
namespace Go.Proofs.YtmahagcghpoekaaGreat
open Go.RowKit
set_option linter.unusedSimpArgs false
set_option linter.unusedVariables false
/-- behind the arrivals nobody waits for its end -/
def Settled (R : Rn) (s : Ms) : Prop := ∀ i, i < R.L.length → s.qa i ≠ [] → (s.ja i).s = true → insB R.L s i = true
/-- a tick of work -/
def wk1 (R : Rn) (t : Int) (i : Nat) (s : Ms) : Ms := { s with j := s.j.set i (jbN R.L i (s.ja i)), o := s.o ++ [⟨t, i, 4, (s.ja i).p, s.hd i⟩] }
def wk2 (R : Rn) (t : Int) (i : Nat) (s : Ms) : Ms := { s with j := s.j.set i { jbN R.L i (s.ja i) with s := true }, o := s.o ++ [⟨t, i, 4, (s.ja i).p, s.hd i⟩] ++ [⟨t + 1, i, 6, s.hd i, 0⟩] }
theorem wkA_cases (R : Rn) (t : Int) (i : Nat) (s : Ms) : wkA R t i s = if (jbN R.L i (s.ja i)).p = (taAt R.L i).pcs.length then fin1 (t + 1) i 0 (wk1 R t i s) else if (((jbN R.L i (s.ja i)).d : Nat) : Int) = (R.bu[i]?).getD 0 then wk2 R t i s else wk1 R t i s := rfl
structure Chosen (R : Rn) (s : Ms) (i : Nat) : Prop where
  lt : i < R.L.length
  rd : s.qa i ≠ []
  le : ∀ k, k < R.L.length → s.qa k ≠ [] → keyI R.L s i ≤ keyI R.L s k
theorem endS_settled {R : Rn} {s : Ms} (hm : MOk R s) (t : Int) {i : Nat} (hi : i < R.L.length) (h : ∀ k, k < i → s.qa k ≠ [] → (s.ja k).s = true → insB R.L s k = true) : ∀ k, k < i + 1 → (endS R.L t i s).qa k ≠ [] → ((endS R.L t i s).ja k).s = true → insB R.L (endS R.L t i s) k = true := by
  intro k hk
  unfold endS
  split
  · rename_i hc
    have hj := fun k => fin_ja (m := t) (how := 1) (i := i) (k := k) (s := s) (by rw [hm.jl]; exact hi)
    have hq := fun k => fin_qa (m := t) (how := 1) (i := i) (k := k) (s := s) (by rw [hm.ql]; exact hi)
    rw [hj, hq]
    by_cases e : k = i
    · rw [if_pos e, if_pos e]
      intro _ h2; cases h2
    · rw [if_neg e, if_neg e, insB_eq (s' := s) (by rw [hj, if_neg e])]
      exact h k (by omega)
  · rename_i hc
    intro h1 h2
    by_cases e : k = i
    · subst e
      cases hb : insB R.L s k
      · exact absurd ⟨h1, h2, hb⟩ hc
      · rfl
    · exact h k (by omega) h1 h2
theorem endA_settled {R : Rn} (hr : RnOk R) (t : Int) : ∀ (f i : Nat) {s : Ms}, MOk R s → i + f = R.L.length → (∀ k, k < i → s.qa k ≠ [] → (s.ja k).s = true → insB R.L s k = true) → Settled R (endA R.L t f i s)
  | 0, i, s, _, e, h => fun k hk => h k (by omega)
  | f + 1, i, s, hm, e, h => endA_settled hr t f (i + 1) (hm.endS hr t (by omega)) (by omega) (endS_settled hm t (by omega) h)
theorem arrA_settled {R : Rn} (hr : RnOk R) {s : Ms} (hm : MOk R s) (t : Int) : Settled R (arrA R t s) :=
  endA_settled hr t _ 0 (MOk.sigA t _ (hm.relA hr t) hr.sg) (by omega) (fun k hk => absurd hk (Nat.not_lt_zero _))
/-- what must be shown of P (behind the releases of a tick) and Q (behind a tick) -/
structure Steps (R : Rn) (P Q : Int → Ms → List Nat → Prop) : Prop where
  rel : ∀ (t : Int) s at_, MOk R s → QR R (t - 1) s at_ → Q (t - 1) s at_ → P t (relA t 0 R.ev s) at_
  sig : ∀ (t : Int) s at_ i, MOk R s → QR R t s at_ → i < R.L.length → s.qa i ≠ [] → P t s at_ → P t (sig1 t i s) at_
  fin : ∀ (t : Int) s at_ i a, MOk R s → QR R t s at_ → i < R.L.length → s.qa i ≠ [] → at_[i]? = some a → (s.ja i).s = true → insB R.L s i = false → P t s at_ → P t (fin1 t i 1 s) (at_.set i (a + 1))
  gc : ∀ (t : Int) s at_, MOk R s → QR R t s at_ → Settled R s → t % R.fr < R.sl → P t s at_ → Q t (s.wr ⟨t, -1, 3, 0, 0⟩) at_
  idle : ∀ (t : Int) s at_, MOk R s → QR R t s at_ → Settled R s → ¬ t % R.fr < R.sl → (∀ k, k < R.L.length → s.qa k = []) → P t s at_ → Q t s at_
  w0 : ∀ (t : Int) s at_ i a, MOk R s → QR R t s at_ → Settled R s → ¬ t % R.fr < R.sl → Chosen R s i → at_[i]? = some a → (jbN R.L i (s.ja i)).p = (taAt R.L i).pcs.length → P t s at_ → Q t (fin1 (t + 1) i 0 (wk1 R t i s)) (at_.set i (a + 1))
  w1 : ∀ (t : Int) s at_ i a, MOk R s → QR R t s at_ → Settled R s → ¬ t % R.fr < R.sl → Chosen R s i → at_[i]? = some a → (jbN R.L i (s.ja i)).p < (taAt R.L i).pcs.length → (((jbN R.L i (s.ja i)).d : Nat) : Int) ≠ (R.bu[i]?).getD 0 → P t s at_ → Q t (wk1 R t i s) at_
  w2 : ∀ (t : Int) s at_ i a, MOk R s → QR R t s at_ → Settled R s → ¬ t % R.fr < R.sl → Chosen R s i → at_[i]? = some a → (jbN R.L i (s.ja i)).p < (taAt R.L i).pcs.length → (((jbN R.L i (s.ja i)).d : Nat) : Int) = (R.bu[i]?).getD 0 → P t s at_ → Q t (wk2 R t i s) at_
section
variable {R : Rn} {P Q : Int → Ms → List Nat → Prop}
theorem Steps.sigA (h : Steps R P Q) (hr : RnOk R) (t : Int) : ∀ (gs : List P2) {s : Ms} {at_ : List Nat}, MOk R s → QR R t s at_ → (∀ g ∈ gs, 0 ≤ g.2 ∧ g.2 < R.L.length) → P t s at_ → P t (sigA t gs s) at_
  | [], s, at_, _, _, _, hp => hp
  | g :: gs, s, at_, hm, hq, hg, hp => by
    have h0 := hg g (by simp)
    refine Steps.sigA h hr t gs (hm.sigS t h0) (hq.of sigS_spec.1) (fun x hx => hg x (by simp [hx])) ?_
    unfold sigS
    split
    · rename_i hc
      exact h.sig t s at_ _ hm hq (by omega) hc.2 hp
    · exact hp
theorem Steps.endA (h : Steps R P Q) (hr : RnOk R) (t : Int) : ∀ (f i : Nat) {s : Ms} {at_ : List Nat}, MOk R s → QR R t s at_ → i + f = R.L.length → P t s at_ → ∃ at', QR R t (endA R.L t f i s) at' ∧ P t (endA R.L t f i s) at'
  | 0, _, s, at_, _, hq, _, hp => ⟨at_, hq, hp⟩
  | f + 1, i, s, at_, hm, hq, e, hp => by
    rw [Go.Proofs.YtmahagcghpoekaaGreat.endA]
    unfold Go.Proofs.YtmahagcghpoekaaGreat.endS
    split
    · rename_i hc
      have hi : i < at_.length := by rw [hq.len]; omega
      exact Steps.endA h hr t f (i + 1) (hm.fin hr t 1 (by omega)) (hq.fin hm (List.getElem?_eq_getElem hi) hc.1 t 1) (by omega) (h.fin t s at_ i _ hm hq (by omega) hc.1 (List.getElem?_eq_getElem hi) hc.2.1 hc.2.2 hp)
    · exact Steps.endA h hr t f (i + 1) hm hq (by omega) hp
theorem Steps.arr (h : Steps R P Q) (hr : RnOk R) {t : Int} {s : Ms} {at_ : List Nat} (hm : MOk R s) (hq : QR R (t - 1) s at_) (hp : Q (t - 1) s at_) : ∃ at', QR R t (arrA R t s) at' ∧ P t (arrA R t s) at' :=
  h.endA hr t _ _ (MOk.sigA t _ (hm.relA hr t) hr.sg) ((hq.rel hr hm).of (sigA_q _ _ _)) (by omega) (h.sigA hr t _ (hm.relA hr t) (hq.rel hr hm) hr.sg (h.rel t s at_ hm hq hp))
theorem chosen_of {s : Ms} (hm : MOk R s) (hc : 0 ≤ chM R.L s) : Chosen R s (chM R.L s).toNat := by
  obtain ⟨h1, h2, h3, h4⟩ := chM_spec R.L s
  exact ⟨by omega, h4 hc, fun k hk hq => (h3 k hk hq).2⟩
theorem Steps.tick (h : Steps R P Q) (hr : RnOk R) {t : Int} {s : Ms} {at_ : List Nat} (hm : MOk R s) (hs : Settled R s) (hq : QR R t s at_) (hp : P t s at_) : ∃ at', QR R t (tckB R t s) at' ∧ Q t (tckB R t s) at' := by
  unfold tckB
  split
  · rename_i hg
    exact ⟨at_, hq.of rfl, h.gc t s at_ hm hq hs hg hp⟩
  · rename_i hg
    split
    · rename_i hc
      have hch := chosen_of hm hc
      obtain ⟨i, hi⟩ : ∃ i, (chM R.L s).toNat = i := ⟨_, rfl⟩
      rw [hi] at hch ⊢
      have hil : i < at_.length := by rw [hq.len]; exact hch.lt
      have ha := List.getElem?_eq_getElem hil
      have hjl : i < s.j.length := by rw [hm.jl]; exact hch.lt
      have hle : (jbN R.L i (s.ja i)).p ≤ (taAt R.L i).pcs.length := by
        have hpi := hm.pc i hch.lt
        unfold jbN; split <;> simp only [] <;> omega
      rw [wkA_cases]
      split
      · rename_i h1
        refine ⟨_, ?_, h.w0 t s at_ i _ hm hq hs hg hch ha h1 hp⟩
        have := hq.fin hm ha hch.rd (t + 1) 0
        exact this.of rfl
      · rename_i h1
        split
        · rename_i h2
          exact ⟨at_, hq.of rfl, h.w2 t s at_ i _ hm hq hs hg hch ha (by omega) h2 hp⟩
        · rename_i h2
          exact ⟨at_, hq.of rfl, h.w1 t s at_ i _ hm hq hs hg hch ha (by omega) h2 hp⟩
    · rename_i hc
      refine ⟨at_, hq, h.idle t s at_ hm hq hs hg (fun k hk => ?_) hp⟩
      obtain ⟨h1, h2, h3, h4⟩ := chM_spec R.L s
      by_cases e : s.qa k = []
      · exact e
      · have := (h3 k hk e).1; omega
theorem qr_zero {R : Rn} (hr : RnOk R) : QR R (-1) (ms0 R.L.length) (List.replicate R.L.length 0) := by
  refine ⟨by simp, fun i a ha => ?_⟩
  have hq : (ms0 R.L.length).qa i = [] := by
    unfold ms0 Ms.qa; simp only [List.getElem?_replicate]; split <;> rfl
  have h0 : a = 0 := by
    rw [List.getElem?_replicate] at ha
    split at ha
    · simpa using ha.symm
    · simp at ha
  subst h0
  have : outE (evA R i) (-1) = [] := by
    refine outE_none (fun e he => ?_) (by omega)
    unfold evA at he
    cases hev : R.ev[i]? with
    | none => rw [hev] at he; simp at he
    | some l =>
      rw [hev] at he
      have := (hr.el l (List.mem_of_getElem? hev)).2 e he
      omega
  rw [hq, this]; exact ⟨rfl, Nat.le_refl _⟩
/-- what the steps keep holds along the run -/
theorem Steps.run (h : Steps R P Q) (hr : RnOk R) (h0 : Q (-1) (ms0 R.L.length) (List.replicate R.L.length 0)) : ∀ k : Nat, ∃ at_, QR R ((k : Int) - 1) (plM R k) at_ ∧ Q ((k : Int) - 1) (plM R k) at_
  | 0 => ⟨_, qr_zero hr, h0⟩
  | k + 1 => by
    obtain ⟨at_, hq, hp⟩ := Steps.run h hr h0 k
    have hm := plM_ok hr k
    obtain ⟨a1, q1, p1⟩ := h.arr hr hm hq hp
    obtain ⟨a2, q2, p2⟩ := h.tick hr (hm.arrA hr _) (arrA_settled hr hm _) q1 p1
    refine ⟨a2, ?_⟩
    rw [show (((k + 1 : Nat) : Int) - 1) = (k : Int) by omega]
    exact ⟨q2, p2⟩
end
end Go.Proofs.YtmahagcghpoekaaGreat
namespace Go.Proofs.YtmahagcghpoekaaGreat
open Go.RowKit
set_option linter.unusedSimpArgs false
set_option linter.unusedVariables false
def endG (i : Nat) (x : Int) (r : Int) (e : En) : Int := if e.w = 5 ∧ e.k = (i : Int) ∧ e.a = x then e.m else r
/-- the moment that the last entry tells, or -1 -/
def endF (o : List En) (i : Nat) (x : Int) : Int := o.foldl (endG i x) (-1)
theorem endF_one (o : List En) (e : En) (i : Nat) (x : Int) : endF (o ++ [e]) i x = endG i x (endF o i x) e := by unfold endF; rw [List.foldl_append]; rfl
theorem endF_app (o l : List En) (i : Nat) (x : Int) (h : ∀ e ∈ l, ¬ (e.w = 5 ∧ e.k = (i : Int) ∧ e.a = x)) : endF (o ++ l) i x = endF o i x := by
  unfold endF
  rw [List.foldl_append]
  generalize o.foldl (endG i x) (-1) = r
  induction l with
  | nil => rfl
  | cons e l ih =>
    rw [List.foldl_cons]
    have : endG i x r e = r := by unfold endG; rw [if_neg (h e (by simp))]
    rw [this]
    exact ih (fun e he => h e (by simp [he]))
theorem relA_newE (t : Int) : ∀ (ls : List (List P2)) (i : Nat) (s : Ms), ∃ l, (relA t i ls s).o = s.o ++ l ∧ ∀ e ∈ l, e.m = t ∧ e.w = 1
  | [], i, s => ⟨[], by simp [relA], fun e he => by simp at he⟩
  | l :: ls, i, s => by
    have hE : ∀ (es : List P2) (k : Nat) (s : Ms), ∃ l, (relE t i k es s).o = s.o ++ l ∧ ∀ e ∈ l, e.m = t ∧ e.w = 1 := by
      intro es
      induction es with
      | nil => exact fun k s => ⟨[], by simp [relE], fun e he => by simp at he⟩
      | cons e es ih =>
        intro k s
        rw [relE]
        obtain ⟨l, h1, h2⟩ := ih (k + 1) (if e.1 + e.2 = t then rel1 t i k s else s)
        rw [h1]
        split
        · exact ⟨⟨t, i, 1, k, 0⟩ :: l, by simp [rel1], fun e he => by
            rcases List.mem_cons.1 he with rfl | he
            · exact ⟨rfl, rfl⟩
            · exact h2 e he⟩
        · exact ⟨l, rfl, h2⟩
    obtain ⟨l1, h1, h2⟩ := hE l 0 s
    obtain ⟨l2, h3, h4⟩ := relA_newE t ls (i + 1) (relE t i 0 l s)
    refine ⟨l1 ++ l2, by rw [relA, h3, h1, List.append_assoc], fun e he => ?_⟩
    rcases List.mem_append.1 he with he | he
    · exact h2 e he
    · exact h4 e he
theorem ord_injE {l : List P2} {j k : Nat} {x : Int} (h1 : (ordE l)[j]? = some x) (h2 : (ordE l)[k]? = some x) : j = k := by
  obtain ⟨a1, e1⟩ := List.getElem?_eq_some_iff.1 h1
  obtain ⟨a2, e2⟩ := List.getElem?_eq_some_iff.1 h2
  have hp := List.pairwise_iff_getElem.1 (ordE_pw l)
  rcases Nat.lt_trichotomy j k with h | h | h
  · have := hp j k a1 a2 h; rw [e1, e2] at this; unfold Bef at this; omega
  · exact h
  · have := hp k j a2 a1 h; rw [e1, e2] at this; unfold Bef at this; omega
theorem set_atE {at_ : List Nat} {k i a b : Nat} (h : (at_.set k b)[i]? = some a) : (k = i ∧ a = b) ∨ (k ≠ i ∧ at_[i]? = some a) := by
  rw [List.getElem?_set] at h
  by_cases e : k = i
  · rw [if_pos e] at h
    split at h
    · exact .inl ⟨e, by simpa using h.symm⟩
    · simp at h
  · rw [if_neg e] at h; exact .inr ⟨e, h⟩
/-- who has been said to be over, up to a moment -/
structure EI (R : Rn) (T : Int) (s : Ms) (at_ : List Nat) : Prop where
  pos : 0 ≤ T
  old : ∀ i a j x, at_[i]? = some a → (ordE (evA R i))[j]? = some x → j < a → 0 ≤ endF s.o i x ∧ endF s.o i x ≤ T
  new : ∀ i a j x, at_[i]? = some a → (ordE (evA R i))[j]? = some x → a ≤ j → endF s.o i x = -1
  ok : ∀ e ∈ s.o, e.w = 5 → ∃ i x : Nat, e.k = (i : Int) ∧ e.a = (x : Int) ∧ i < R.L.length ∧ x < (evA R i).length
  ok4 : ∀ e ∈ s.o, e.w = 4 → ∃ i p x : Nat, e.k = (i : Int) ∧ e.a = (p : Int) ∧ e.b = (x : Int) ∧ i < R.L.length ∧ p < (taAt R.L i).pcs.length ∧ x < (evA R i).length
  okm : ∀ e ∈ s.o, 0 ≤ e.m ∧ e.m ≤ T ∧ (e.w = 3 ∨ e.w = 4 → e.m < T)
theorem EI.of {R : Rn} {T T' : Int} {s s' : Ms} {at_ : List Nat} (h : EI R T s at_) (hT : T ≤ T') {l : List En} (ho : s'.o = s.o ++ l) (h5 : ∀ e ∈ l, e.w ≠ 5)
    (h4 : ∀ e ∈ l, e.w = 4 → ∃ i p x : Nat, e.k = (i : Int) ∧ e.a = (p : Int) ∧ e.b = (x : Int) ∧ i < R.L.length ∧ p < (taAt R.L i).pcs.length ∧ x < (evA R i).length)
    (hm : ∀ e ∈ l, 0 ≤ e.m ∧ e.m ≤ T' ∧ (e.w = 3 ∨ e.w = 4 → e.m < T')) : EI R T' s' at_ := by
  have he : ∀ i x, endF s'.o i x = endF s.o i x := fun i x => by rw [ho]; exact endF_app _ _ _ _ (fun e q r => h5 e q r.1)
  have hp := h.pos
  refine ⟨by omega, fun i a j x h1 h2 h3 => ?_, fun i a j x h1 h2 h3 => by rw [he]; exact h.new i a j x h1 h2 h3, fun e q w5 => ?_, fun e q w4 => ?_, fun e q => ?_⟩
  · rw [he]; have := h.old i a j x h1 h2 h3; omega
  · rw [ho, List.mem_append] at q
    rcases q with q | q
    · exact h.ok e q w5
    · exact absurd w5 (h5 e q)
  · rw [ho, List.mem_append] at q
    rcases q with q | q
    · exact h.ok4 e q w4
    · exact h4 e q w4
  · rw [ho, List.mem_append] at q
    rcases q with q | q
    · have := h.okm e q
      exact ⟨this.1, by omega, fun w => by have := this.2.2 w; omega⟩
    · exact hm e q
theorem EI.fin {R : Rn} {T : Int} {s : Ms} {at_ : List Nat} (h : EI R T s at_) {i a : Nat} {how : Int} (hi : i < R.L.length) (ha : at_[i]? = some a) (hx : (ordE (evA R i))[a]? = some (s.hd i)) :
    EI R T (fin1 T i how s) (at_.set i (a + 1)) := by
  have ho : (fin1 T i how s).o = s.o ++ [⟨T, i, 5, s.hd i, how⟩] := rfl
  have hp := h.pos
  have hx0 := ordE_mem.1 (List.mem_of_getElem? hx)
  have key : ∀ k x, ¬ (k = i ∧ x = s.hd i) → endF (fin1 T i how s).o k x = endF s.o k x := fun k x hk => by
    rw [ho, endF_one]
    unfold endG
    rw [if_neg]
    rintro ⟨_, h1, h2⟩
    simp only [] at h1 h2
    exact hk ⟨by omega, h2.symm⟩
  have self : endF (fin1 T i how s).o i (s.hd i) = T := by
    rw [ho, endF_one]
    unfold endG
    rw [if_pos ⟨rfl, rfl, rfl⟩]
  refine ⟨hp, fun k b j x h1 h2 h3 => ?_, fun k b j x h1 h2 h3 => ?_, fun e q w5 => ?_, fun e q w4 => ?_, fun e q => ?_⟩
  · rcases set_atE h1 with ⟨rfl, rfl⟩ | ⟨hne, h1⟩
    · by_cases e : x = s.hd i
      · subst e; rw [self]; omega
      · rw [key _ _ (fun q => e q.2)]
        refine h.old i a j x ha h2 ?_
        rcases Nat.lt_succ_iff_lt_or_eq.1 h3 with q | q
        · exact q
        · subst q; rw [hx] at h2; simp at h2; exact absurd h2.symm e
    · rw [key _ _ (fun q => hne q.1.symm)]
      exact h.old k b j x h1 h2 h3
  · rcases set_atE h1 with ⟨rfl, rfl⟩ | ⟨hne, h1⟩
    · rw [key _ _ (fun q => by
        have := ord_injE (q.2 ▸ h2) hx
        omega)]
      exact h.new i a j x ha h2 (by omega)
    · rw [key _ _ (fun q => hne q.1.symm)]
      exact h.new k b j x h1 h2 h3
  · rw [ho, List.mem_append] at q
    rcases q with q | q
    · exact h.ok e q w5
    · simp at q; subst q
      obtain ⟨y, hy⟩ := Int.eq_ofNat_of_zero_le hx0.1
      exact ⟨i, y, rfl, hy, hi, by omega⟩
  · rw [ho, List.mem_append] at q
    rcases q with q | q
    · exact h.ok4 e q w4
    · simp at q; subst q; simp at w4
  · rw [ho, List.mem_append] at q
    rcases q with q | q
    · exact h.okm e q
    · simp at q; subst q; exact ⟨hp, Int.le_refl _, fun w => by simp at w⟩
theorem work_ok {R : Rn} {t : Int} {s : Ms} {at_ : List Nat} {i a : Nat} (hm : MOk R s) (hq : QR R t s at_) (hch : Chosen R s i) (ha : at_[i]? = some a) (ht : 0 ≤ t) {T' : Int} (hT : t < T') :
    ∃ x : Nat, s.hd i = (x : Int) ∧ x < (evA R i).length := by
  have hx0 := ordE_mem.1 (List.mem_of_getElem? (hq.event ha hch.rd))
  obtain ⟨y, hy⟩ := Int.eq_ofNat_of_zero_le hx0.1
  exact ⟨y, hy, by omega⟩
theorem EI.work {R : Rn} {t : Int} {s : Ms} {at_ : List Nat} {i a : Nat} (h : EI R t s at_) (hm : MOk R s) (hq : QR R t s at_) (hch : Chosen R s i) (ha : at_[i]? = some a) : EI R (t + 1) (wk1 R t i s) at_ := by
  have hp := h.pos
  obtain ⟨x, hx, hxl⟩ := work_ok hm hq hch ha hp (T' := t + 1) (by omega)
  refine h.of (by omega) (l := [⟨t, i, 4, (s.ja i).p, s.hd i⟩]) rfl (fun e q => by simp at q; subst q; simp) (fun e q _ => ?_) (fun e q => ?_)
  · simp at q; subst q
    exact ⟨i, (s.ja i).p, x, rfl, rfl, hx, hch.lt, hm.pc i hch.lt, hxl⟩
  · simp at q; subst q; exact ⟨hp, by simp only []; omega, fun _ => by simp only []; omega⟩
theorem ends_steps {R : Rn} (hr : RnOk R) : Steps R (fun t s at_ => EI R t s at_) (fun t s at_ => EI R (t + 1) s at_) := by
  refine ⟨?_, ?_, ?_, ?_, ?_, ?_, ?_, ?_⟩
  · intro t s at_ hm hq hp
    rw [show t - 1 + 1 = t by omega] at hp
    obtain ⟨l, h1, h2⟩ := relA_newE t R.ev 0 s
    have h0 := hp.pos
    exact hp.of (Int.le_refl _) h1 (fun e q => by rw [(h2 e q).2]; decide) (fun e q w => by rw [(h2 e q).2] at w; cases w) (fun e q => ⟨by rw [(h2 e q).1]; exact h0, by rw [(h2 e q).1]; exact Int.le_refl _, fun w => by rw [(h2 e q).2] at w; rcases w with w | w <;> cases w⟩)
  · intro t s at_ i hm hq hi hn hp
    have h0 := hp.pos
    exact hp.of (Int.le_refl _) (l := [⟨t, i, 2, 0, 0⟩]) rfl (fun e q => by simp at q; subst q; simp) (fun e q w => by simp at q; subst q; simp at w) (fun e q => by simp at q; subst q; exact ⟨h0, Int.le_refl _, fun w => by simp at w⟩)
  · intro t s at_ i a hm hq hi hn ha hs hin hp
    exact hp.fin hi ha (hq.event ha hn)
  · intro t s at_ hm hq hs hg hp
    have h0 := hp.pos
    exact hp.of (by omega) (l := [⟨t, -1, 3, 0, 0⟩]) rfl (fun e q => by simp at q; subst q; simp) (fun e q w => by simp at q; subst q; simp at w) (fun e q => by simp at q; subst q; exact ⟨h0, by simp only []; omega, fun _ => by simp only []; omega⟩)
  · intro t s at_ hm hq hs hg hn hp
    exact hp.of (by omega) (l := []) (by simp) (fun e q => by simp at q) (fun e q => by simp at q) (fun e q => by simp at q)
  · intro t s at_ i a hm hq hs hg hch ha hfin hp
    have := hp.work hm hq hch ha
    exact this.fin (s := wk1 R t i s) hch.lt ha (hq.event ha hch.rd)
  · intro t s at_ i a hm hq hs hg hch ha hpl hbu hp
    exact hp.work hm hq hch ha
  · intro t s at_ i a hm hq hs hg hch ha hpl hbu hp
    have h1 := hp.work hm hq hch ha
    have h0 := hp.pos
    exact h1.of (Int.le_refl _) (s' := wk2 R t i s) (l := [⟨t + 1, i, 6, s.hd i, 0⟩]) rfl (fun e q => by simp at q; subst q; simp) (fun e q w => by simp at q; subst q; simp at w) (fun e q => by simp at q; subst q; exact ⟨by simp only []; omega, Int.le_refl _, fun w => by simp at w⟩)
theorem EI.zero {R : Rn} (hr : RnOk R) : EI R 0 (ms0 R.L.length) (List.replicate R.L.length 0) := by
  refine ⟨Int.le_refl _, fun i a j x h1 _ h3 => ?_, fun _ _ _ _ _ _ _ => rfl, fun e q => by simp [ms0] at q, fun e q => by simp [ms0] at q, fun e q => by simp [ms0] at q⟩
  rw [List.getElem?_replicate] at h1
  split at h1
  · simp at h1; omega
  · simp at h1
theorem plM_ei {R : Rn} (hr : RnOk R) (k : Nat) : ∃ at_, QR R ((k : Int) - 1) (plM R k) at_ ∧ EI R k (plM R k) at_ := by
  obtain ⟨at_, h1, h2⟩ := (ends_steps hr).run hr (EI.zero hr) k
  rw [show (k : Int) - 1 + 1 = k by omega] at h2
  exact ⟨at_, h1, h2⟩
/-- all ends -/
def endsRow (R : Rn) (o : List En) (i : Nat) : List Int := (List.range (evA R i).length).map (fun (k : Nat) => endF o i (k : Int))
theorem endsRow_len (R : Rn) (o : List En) (i : Nat) : (endsRow R o i).length = (evA R i).length := by simp [endsRow]
theorem endsRow_get {R : Rn} {o : List En} {i k : Nat} (h : k < (evA R i).length) : (endsRow R o i)[k]? = some (endF o i (k : Int)) := by simp [endsRow, h]
theorem endsRow_nil (R : Rn) (i : Nat) : endsRow R [] i = List.replicate (evA R i).length (-1) := by
  apply List.ext_getElem?
  intro k
  by_cases h : k < (evA R i).length
  · rw [endsRow_get h, List.getElem?_replicate, if_pos h]; rfl
  · rw [List.getElem?_eq_none (by rw [endsRow_len]; omega), List.getElem?_eq_none (by simp; omega)]
theorem endsRow_other (R : Rn) {o : List En} {e : En} (h : e.w ≠ 5) (i : Nat) : endsRow R (o ++ [e]) i = endsRow R o i := by
  unfold endsRow
  refine List.map_congr_left (fun k _ => ?_)
  rw [endF_one]; unfold endG; rw [if_neg (fun q => h q.1)]
theorem endsRow_over (R : Rn) {o : List En} {e : En} (h : e.w = 5) {k x : Nat} (hk : e.k = (k : Int)) (hx : e.a = (x : Int)) (i : Nat) : endsRow R (o ++ [e]) i = if i = k then (endsRow R o i).set x e.m else endsRow R o i := by
  apply List.ext_getElem?
  intro j
  by_cases hj : j < (evA R i).length
  · rw [endsRow_get hj, endF_one]
    unfold endG
    by_cases hik : i = k
    · subst hik
      rw [if_pos rfl, List.getElem?_set]
      by_cases hxj : x = j
      · subst hxj
        rw [if_pos ⟨h, hk, hx⟩, if_pos rfl, if_pos (by rw [endsRow_len]; exact hj)]
      · rw [if_neg (fun q => hxj (by have := q.2.2; omega)), if_neg hxj, endsRow_get hj]
    · rw [if_neg (fun q => hik (by have := q.2.1; omega)), if_neg hik, endsRow_get hj]
  · rw [List.getElem?_eq_none (by rw [endsRow_len]; omega)]
    split
    · rw [List.getElem?_eq_none (by rw [List.length_set, endsRow_len]; omega)]
    · rw [List.getElem?_eq_none (by rw [endsRow_len]; omega)]
end Go.Proofs.YtmahagcghpoekaaGreat
namespace Go.Proofs.YtmahagcghpoekaaGreat
open Go.RowKit
set_option linter.unusedSimpArgs false
set_option linter.unusedVariables false
structure Hdr where
  a : Option Addr
  n : Nat
  c : Nat
deriving Inhabited
abbrev sl (h : Hdr) : Value := .slice h.a h.n h.c
def updF {α : Type} (f : Nat → α) (i : Nat) (x : α) : Nat → α := fun j => if j = i then x else f j
theorem updF_same {α : Type} (f : Nat → α) (i : Nat) (x : α) : updF f i x i = x := by simp [updF]
theorem updF_other {α : Type} (f : Nat → α) {i j : Nat} (x : α) (h : j ≠ i) : updF f i x j = f j := by simp [updF, h]
structure IRows (B : Nat) (w : World) (N : Nat) (h : Nat → Hdr) (X : Nat → List Int) : Prop where
  own : ∀ i, i < N → w.ownsRow B 3 1 (sl (h i)) (h i).n ((X i).flatMap enc1)
  apart : ∀ i j, i < N → j < N → i ≠ j → (sl (h i)).ownBlock = none ∨ (sl (h i)).ownBlock ≠ (sl (h j)).ownBlock
theorem IRows.ext {B N : Nat} {w w' : World} {h X} (hR : IRows B w N h X) (hb : Below w.heap.size w w') : IRows B w' N h X := ⟨fun i hi => owns_ext (hR.own i hi) hb, hR.apart⟩
theorem IRows.far {B N : Nat} {w : World} {h X} (hR : IRows B w N h X) {q j : Nat} (hq : q < B) (u : Value) : IRows B (w.setCell ⟨q, j, none⟩ u) N h X := ⟨fun i hi => owns_far (hR.own i hi) hq u, hR.apart⟩
theorem IRows.len {B N : Nat} {w : World} {h X} (hR : IRows B w N h X) {i : Nat} (hi : i < N) : (X i).length = (h i).n := (ownsI_rd (hR.own i hi)).length
theorem IRows.push {B N : Nat} {w w' : World} {h X} (hR : IRows B w N h X) {i : Nat} (hi : i < N) {a' : Option Addr} {c' : Nat} {x : Int}
    (hown : w'.ownsRow B 3 1 (.slice a' ((h i).n + 1) c') ((h i).n + 1) ((X i ++ [x]).flatMap enc1)) (hg : w.grownBy w' (sl (h i)).ownBlock)
    (hb : (Value.slice a' ((h i).n + 1) c').ownBlock = (sl (h i)).ownBlock ∨ (Value.slice a' ((h i).n + 1) c').ownBlock = some w.heap.size) :
    IRows B w' N (updF h i ⟨a', (h i).n + 1, c'⟩) (updF X i (X i ++ [x])) := by
  have hlt : ∀ k, k < N → (sl (h k)).ownBlock ≠ some w.heap.size := fun k hk e => by
    have := ((hR.own k hk).lt _ e).2; omega
  refine ⟨fun k hk => ?_, fun k j hk hj hkj => ?_⟩
  · by_cases e : k = i
    · subst e; rw [updF_same, updF_same]; exact hown
    · rw [updF_other _ _ e, updF_other _ _ e]
      exact (hR.own k hk).kept hg (hR.apart k i hk hi e)
  · by_cases e : k = i
    · subst e
      rw [updF_same, updF_other _ _ (Ne.symm hkj)]
      rcases hb with hb | hb
      · rw [hb]; exact hR.apart k j hk hj hkj
      · rw [hb]; right; exact fun q => hlt j hj q.symm
    · by_cases e2 : j = i
      · subst e2
        rw [updF_same, updF_other _ _ e]
        rcases hb with hb | hb
        · rw [hb]; exact hR.apart k j hk hj hkj
        · rw [hb]; right; exact hlt k hk
      · rw [updF_other _ _ e, updF_other _ _ e2]; exact hR.apart k j hk hj hkj
theorem run_app2 {P : Program} {w : World} {t ty e k bytes B n m c : Nat} (E : Elt P t e k bytes) {v : Value} {xs news : List Value} {ad : Addr} (hown : w.ownsRow B e k v n xs)
    (hl : news.length = m * k) (hnews : ∀ j u, news[j]? = some u → w.cell? (ad.add j) = some u) (h1 : ∀ u ∈ news, u.oneCell' = true) (hn : n + m ≤ 100000000) (hm : 0 < m) (hby : bytes ≤ 1000) (hB : B ≤ w.heap.size) :
    ∃ a' c' w', (Builtin.append_ #[t, t] ty #[v, .slice (some ad) m c]).run P w = .ok (.slice a' (n + m) c') w' ∧ w'.ownsRow B e k (.slice a' (n + m) c') (n + m) (xs ++ news) ∧ w.grownBy w' v.ownBlock ∧ ((Value.slice a' (n + m) c').ownBlock = v.ownBlock ∨ (Value.slice a' (n + m) c').ownBlock = some w.heap.size) := by
  obtain ⟨i, z, h2, h3, h4, h5, h6⟩ := E.hi
  obtain ⟨v', w', hr, q1, q2, _, q3⟩ := run_append_own_at (P := P) w B t ty e i z k bytes E.ht h2 h3 h4 h5 h6 E.hk v n xs hown ad m c news hl hnews h1 (by unfold maxLen; omega) (by have : (n + m) * bytes ≤ 100000000 * 1000 := Nat.mul_le_mul hn hby; omega) hB
  rcases q1.2 with ⟨rfl, h8⟩ | ⟨g, cap, cur, rfl, h9⟩
  · omega
  · exact ⟨_, _, w', hr, q1, q2, q3⟩
theorem step_app2 {P : Program} {ops : Array Oper} {o : Oper} {a : Act} {w : World} {K : Act → World → Prop} {Q : Exit → Act → World → Prop} {EE : Prop} (hgd : o.guard = none) (s x : Operand) (t : TypeId)
    (ho : o.op = .call { callee := .builtin .append, args := #[s, x], argTypes := #[t, t] }) {e k bytes B n m c : Nat} (E : Elt P t e k bytes) {v : Value} {xs news : List Value} {ad : Addr}
    (hs : a.eval s = v) (hown : w.ownsRow B e k v n xs) (hx : a.eval x = .slice (some ad) m c) (hl : news.length = m * k) (hnews : ∀ j u, news[j]? = some u → w.cell? (ad.add j) = some u) (h1 : ∀ u ∈ news, u.oneCell' = true) (hn : n + m ≤ 100000000) (hm : 0 < m) (hby : bytes ≤ 1000) (hB : B ≤ w.heap.size)
    (h : ∀ a' c' w', w'.ownsRow B e k (.slice a' (n + m) c') (n + m) (xs ++ news) → w.grownBy w' v.ownBlock → ((Value.slice a' (n + m) c').ownBlock = v.ownBlock ∨ (Value.slice a' (n + m) c').ownBlock = some w.heap.size) → K (a.put o.dst (.slice a' (n + m) c')) w') :
    if Region.wanted o (yielded ops a.tmps) = true then Oper.wp P o a w K Q else EE := by
  have hw : Region.wanted o (yielded ops a.tmps) = true := by simp [Region.wanted, hgd]
  rw [if_pos hw]
  obtain ⟨a', c', w', hr, q1, q2, q3⟩ := run_app2 (P := P) (ty := o.type) E hown hl hnews h1 hn hm hby hB
  unfold Oper.wp execOp
  simp only [ho, resolve, invoke, builtin, Sem.run_bind, Sem.run_pure, Result.andThen_ok, List.map_toArray, List.map_cons, List.map_nil, hs, hx]
  rw [hr]
  exact h _ _ w' q1 q2 q3
/-- out = append(out, x), x built in the block ahead of it; where the new row lies -/
theorem wpList_push2 {P : Program} {ops : Array Oper} {rest : List Oper} {o : Oper} {a : Act} {Q : Exit → Act → World → Prop} {w : World} {T : TypeId} {arr : Array Value} (hgd : o.guard = none) (s x : Operand) (t : TypeId)
    (ho : o.op = .call { callee := .builtin .append, args := #[s, x], argTypes := #[t, t] }) {e k bytes B n c : Nat} (E : Elt P t e k bytes) {v : Value} {xs : List Value}
    (hs : a.eval s = v) (hown : w.ownsRow B e k v n xs) (hx : a.eval x = .slice (some ⟨w.heap.size, 0, none⟩) 1 c) (harr : arr.size = k) (h1 : ∀ u ∈ arr.toList, u.oneCell' = true)
    (hn : n ≤ 10000000) (hby : bytes ≤ 1000) (hB : B ≤ w.heap.size)
    (h : ∀ a' c' w', w'.ownsRow B e k (.slice a' (n + 1) c') (n + 1) (xs ++ arr.toList) → (w.alloc (.cells arr T)).grownBy w' v.ownBlock → ((Value.slice a' (n + 1) c').ownBlock = v.ownBlock ∨ (Value.slice a' (n + 1) c').ownBlock = some (w.heap.size + 1)) → wpList P ops Q rest (a.put o.dst (.slice a' (n + 1) c')) w') :
    wpList P ops Q (o :: rest) a (w.alloc (.cells arr T)) := by
  obtain ⟨i, z, h2, h3, h4, h5, h6⟩ := E.hi
  refine wpList_append_own_at (w.alloc (.cells arr T)) hgd s x t ho B e i z k bytes E.ht h2 h3 h4 h5 h6 E.hk v n xs hs (hown.alloc _) ⟨w.heap.size, 0, none⟩ 1 c arr.toList hx (by simpa using harr) ?_ h1 (by unfold maxLen; omega) ?_ (by simp; omega) ?_
  · intro j u hj
    have : (w.alloc (.cells arr T)).cell? ⟨w.heap.size, j, none⟩ = arr[j]? := World.cell?_alloc_new w arr T j
    have e : (⟨w.heap.size, 0, none⟩ : Addr).add j = ⟨w.heap.size, j, none⟩ := by unfold Addr.add; split <;> simp_all
    rw [e, this]; simpa using hj
  · have : (n + 1) * bytes ≤ 10000001 * 1000 := Nat.mul_le_mul (by omega) hby
    omega
  · intro v' w' hown' hg _ hw
    obtain ⟨hl, h7⟩ := hown'
    rcases h7 with ⟨_, h8⟩ | ⟨g, cap, cur, rfl, h9⟩
    · omega
    · exact h _ _ _ ⟨hl, .inr ⟨g, cap, cur, rfl, h9⟩⟩ hg (by simpa using hw)
end Go.Proofs.YtmahagcghpoekaaGreat
