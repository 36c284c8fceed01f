/- Bounds on a run's machine. No condition: plain lemmas. What holds along a run: one way of showing it. No condition: plain lemmas. When jobs are over: the entries that say so. No condition: plain lemmas. What is counted of a run: work, idle ticks, pauses. No condition: plain lemmas. Reading a slice from the front: the next element and the rest. No condition: plain lemmas. Predicates handed over as function values; what IndexFunc gives. No condition: plain lemmas. append at a step of a region that draws its order, and what else it keeps. No condition: plain lemmas. Rows of ints: what a call lays, reads and writes. No condition: plain lemmas. The contracts of bits.Mul and slices.Repeat at one int. The conditions: the row reads as named. -/
import Derived.Test.YtmahagcghpoekaaMg1
import Derived.Laws.AppendOwnNone
import Derived.Shelf.GgClosure.Gives
import Derived.Deep.RegionHeld3
import Derived.Deep.AppendLies
import Derived.Maps.AppendAt
import Derived.Laws.OwnMore
import Derived.OwnWalk
import Derived.Shelf.Bits.Mul64
import Derived.Laws.CopyOwn
import Derived.Deep.RegionLaw
import Derived.Deep.Cut
import Derived.IntWalk
namespace Go.Proofs.Ytmahagcghpoekaa
open Go.RowKit
set_option linter.unusedSimpArgs false
set_option linter.unusedVariables false
theorem QR.endA {R : Rn} {t : Int} (hr : RnOk R) : ∀ (f i : Nat) {s : Ms} {at_ : List Nat}, MOk R s → QR R t s at_ → i + f = R.L.length → ∃ at', QR R t (endA R.L t f i s) at'
  | 0, _, s, at_, _, h, _ => ⟨at_, h⟩
  | f + 1, i, s, at_, hm, h, e => by
    rw [Go.Proofs.Ytmahagcghpoekaa.endA]
    unfold Go.Proofs.Ytmahagcghpoekaa.endS
    split
    · rename_i hc
      have hi : i < at_.length := by rw [h.len]; omega
      exact QR.endA hr f (i + 1) (hm.fin hr t 1 (by omega)) (h.fin hm (List.getElem?_eq_getElem hi) hc.1 t 1) (by omega)
    · exact QR.endA hr f (i + 1) hm h (by omega)
theorem sigA_q (t : Int) : ∀ (gs : List P2) (s : Ms), (sigA t gs s).q = s.q
  | [], s => rfl
  | g :: gs, s => by rw [sigA, sigA_q t gs, sigS_spec.1]
theorem QR.arrA {R : Rn} {t : Int} {s : Ms} {at_ : List Nat} (hr : RnOk R) (hm : MOk R s) (h : QR R (t - 1) s at_) : ∃ at', QR R t (arrA R t s) at' :=
  QR.endA hr _ _ (MOk.sigA t _ (hm.relA hr t) hr.sg) ((h.rel hr hm).of (sigA_q _ _ _)) (by omega)
theorem QR.wkA {R : Rn} {t u : Int} {s : Ms} {at_ : List Nat} {i : Nat} (hm : MOk R s) (h : QR R t s at_) (hi : i < R.L.length) (hq : s.qa i ≠ []) : ∃ at', QR R t (wkA R u i s) at' := by
  unfold Go.Proofs.Ytmahagcghpoekaa.wkA
  split
  · have hil : i < at_.length := by rw [h.len]; exact hi
    have := h.fin hm (List.getElem?_eq_getElem hil) hq (u + 1) 0
    exact ⟨_, this.of rfl⟩
  · split
    · exact ⟨at_, h.of rfl⟩
    · exact ⟨at_, h.of rfl⟩
theorem QR.tckB {R : Rn} {t : Int} {s : Ms} {at_ : List Nat} (hr : RnOk R) (hm : MOk R s) (h : QR R t s at_) : ∃ at', QR R t (tckB R t s) at' := by
  unfold Go.Proofs.Ytmahagcghpoekaa.tckB
  split
  · exact ⟨at_, h.of rfl⟩
  · split
    · rename_i hc
      obtain ⟨h1, h2, h3, h4⟩ := chM_spec R.L s
      exact h.wkA hm (by omega) (h4 hc)
    · exact ⟨at_, h⟩
theorem plM_qr {R : Rn} (hr : RnOk R) : ∀ k : Nat, ∃ at_, QR R ((k : Int) - 1) (plM R k) at_
  | 0 => ⟨List.replicate R.L.length 0, ⟨by simp, fun i a ha => by
    have hq : (plM R 0).qa i = [] := by
      unfold plM ms0 Ms.qa; simp only [List.getElem?_replicate]; split <;> rfl
    have h0 : a = 0 := by
      rw [List.getElem?_replicate] at ha
      split at ha
      · simpa using ha.symm
      · simp at ha
    subst h0
    have : outE (evA R i) (((0 : Nat) : Int) - 1) = [] := by
      refine outE_none (fun e he => ?_) (by omega)
      unfold evA at he
      cases hev : R.ev[i]? with
      | none => rw [hev] at he; simp at he
      | some l =>
        rw [hev] at he
        have := (hr.el l (List.mem_of_getElem? hev)).2 e he
        omega
    rw [hq, this]; exact ⟨rfl, Nat.le_refl _⟩⟩⟩
  | k + 1 => by
    obtain ⟨at_, h⟩ := plM_qr hr k
    have hm := plM_ok hr k
    obtain ⟨a1, h1⟩ := h.arrA hr hm
    obtain ⟨a2, h2⟩ := h1.tckB hr (hm.arrA hr _)
    refine ⟨a2, ?_⟩
    rw [show (((k + 1 : Nat) : Int) - 1) = (k : Int) by omega]
    exact h2
theorem QR.small {R : Rn} {t : Int} {s : Ms} {at_ : List Nat} (hr : RnOk R) (hm : MOk R s) (h : QR R t s at_) (x : Nat) : (s.qa x).length ≤ 40 := by
  by_cases hx : x < R.L.length
  · have hxl : x < at_.length := by rw [h.len]; exact hx
    obtain ⟨e, _⟩ := h.q x _ (List.getElem?_eq_getElem hxl)
    rw [e, List.length_drop]
    have h1 : (outE (evA R x) t).length ≤ (ordE (evA R x)).length := List.length_filter_le _ _
    rw [ordE_len] at h1
    have h2 : (evA R x).length ≤ 40 := by
      unfold evA
      cases hev : R.ev[x]? with
      | none => simp
      | some l => exact (hr.el l (List.mem_of_getElem? hev)).1
    omega
  · have : s.qa x = [] := by unfold Ms.qa; rw [List.getElem?_eq_none (by rw [hm.ql]; omega)]; rfl
    rw [this]; simp
theorem rel_small {R : Rn} (hr : RnOk R) (k : Nat) (x : Nat) : ((relA (k : Int) 0 R.ev (plM R k)).qa x).length ≤ 40 := by
  obtain ⟨at_, h⟩ := plM_qr hr k
  have hm := plM_ok hr k
  exact QR.small hr (hm.relA hr _) (h.rel hr hm) x
theorem arr_small {R : Rn} (hr : RnOk R) (k : Nat) (x : Nat) : ((arrA R (k : Int) (plM R k)).qa x).length ≤ 40 := by
  obtain ⟨at_, h⟩ := plM_qr hr k
  have hm := plM_ok hr k
  obtain ⟨a1, h1⟩ := h.arrA hr hm
  exact QR.small hr (hm.arrA hr _) h1 x
/-- the lengths of what is written -/
theorem relK_len (t : Int) : ∀ (es : List P2) (k : Nat), (relK t k es).length ≤ es.length
  | [], k => Nat.le_refl _
  | e :: es, k => by
    have := relK_len t es (k + 1)
    rw [relK, List.length_append, List.length_cons]
    split <;> simp <;> omega
theorem relE_o (t : Int) (i : Nat) : ∀ (es : List P2) (k : Nat) (s : Ms), (relE t i k es s).o.length ≤ s.o.length + es.length
  | [], k, s => by simp [relE]
  | e :: es, k, s => by
    rw [relE]
    have := relE_o t i es (k + 1) (if e.1 + e.2 = t then rel1 t i k s else s)
    refine Nat.le_trans this ?_
    rw [List.length_cons]
    split
    · simp [rel1]; omega
    · omega
theorem relA_o (t : Int) : ∀ (ls : List (List P2)) (i : Nat) (s : Ms), (∀ l ∈ ls, l.length ≤ 40) → (relA t i ls s).o.length ≤ s.o.length + 40 * ls.length
  | [], i, s, _ => by simp [relA]
  | l :: ls, i, s, h => by
    rw [relA]
    have h1 := relA_o t ls (i + 1) (relE t i 0 l s) (fun x hx => h x (by simp [hx]))
    have h2 := relE_o t i l 0 s
    have h3 := h l (by simp)
    rw [List.length_cons]; omega
theorem sigA_o (t : Int) : ∀ (gs : List P2) (s : Ms), (sigA t gs s).o.length ≤ s.o.length + gs.length
  | [], s => by simp [sigA]
  | g :: gs, s => by
    rw [sigA]
    have h1 := sigA_o t gs (sigS t g s)
    have h2 : (sigS t g s).o.length ≤ s.o.length + 1 := by unfold sigS; split <;> simp [sig1]
    rw [List.length_cons]; omega
theorem endA_o (L : List Ta) (t : Int) : ∀ (f i : Nat) (s : Ms), (endA L t f i s).o.length ≤ s.o.length + f
  | 0, _, s => by simp [endA]
  | f + 1, i, s => by
    rw [endA]
    have h1 := endA_o L t f (i + 1) (endS L t i s)
    have h2 : (endS L t i s).o.length ≤ s.o.length + 1 := by unfold endS; split <;> simp [fin1]
    omega
theorem arrA_o {R : Rn} (hr : RnOk R) (t : Int) (s : Ms) : (arrA R t s).o.length ≤ s.o.length + 250 := by
  unfold arrA
  have h1 := endA_o R.L t R.L.length 0 (sigA t R.sg (relA t 0 R.ev s))
  have h2 := sigA_o t R.sg (relA t 0 R.ev s)
  have h3 := relA_o t R.ev 0 s (fun l hl => (hr.el l hl).1)
  have h4 := hr.r.len
  have h5 := hr.ev
  have h6 := hr.sl
  omega
theorem wkA_o (R : Rn) (t : Int) (i : Nat) (s : Ms) : (wkA R t i s).o.length ≤ s.o.length + 2 := by
  unfold wkA; split
  · simp [fin1]
  · split <;> simp
theorem tckA_o {R : Rn} (hr : RnOk R) (t : Int) (s : Ms) : (tckA R t s).o.length ≤ s.o.length + 252 := by
  unfold tckA tckB
  have h1 := arrA_o hr t s
  split
  · simp [Ms.wr]; omega
  · split
    · have := wkA_o R t (chM R.L (arrA R t s)).toNat (arrA R t s); omega
    · omega
theorem plM_o {R : Rn} (hr : RnOk R) : ∀ k : Nat, (plM R k).o.length ≤ 252 * k
  | 0 => by simp [plM, ms0]
  | k + 1 => by
    have h1 := plM_o hr k
    have h2 := tckA_o hr (k : Int) (plM R k)
    rw [plM]; omega
/-- the ticks of a job -/
theorem relA_ja {R : Rn} (hr : RnOk R) {t : Int} {s : Ms} (hm : MOk R s) (i : Nat) : (relA t 0 R.ev s).ja i = s.ja i := by
  obtain ⟨_, h2, _⟩ := relA_spec t R.ev 0 s (by rw [hm.ql, hr.ev]; omega)
  unfold Ms.ja; rw [h2]
theorem sigS_d {R : Rn} {t : Int} {g : P2} {s : Ms} (hm : MOk R s) (hg : 0 ≤ g.2 ∧ g.2 < R.L.length) (i : Nat) : ((sigS t g s).ja i).d = (s.ja i).d := by
  unfold sigS; split
  · unfold sig1
    rw [ja_set (by rw [hm.jl]; omega)]
    split
    · rename_i e; subst e; rfl
    · rfl
  · rfl
theorem sigA_d {R : Rn} {t : Int} : ∀ (gs : List P2) {s : Ms}, MOk R s → (∀ g ∈ gs, 0 ≤ g.2 ∧ g.2 < R.L.length) → ∀ i, ((sigA t gs s).ja i).d = (s.ja i).d
  | [], s, _, _, i => rfl
  | g :: gs, s, hm, hg, i => by
    rw [sigA, sigA_d gs (hm.sigS t (hg g (by simp))) (fun x hx => hg x (by simp [hx])) i, sigS_d hm (hg g (by simp))]
theorem endA_d {R : Rn} (hr : RnOk R) {t : Int} : ∀ (f i : Nat) {s : Ms}, MOk R s → i + f = R.L.length → ∀ x, ((endA R.L t f i s).ja x).d ≤ (s.ja x).d
  | 0, _, _, _, _, x => Nat.le_refl _
  | f + 1, i, s, hm, e, x => by
    rw [endA]
    have h1 := endA_d (t := t) hr f (i + 1) (hm.endS hr t (by omega : i < R.L.length)) (by omega) x
    refine Nat.le_trans h1 ?_
    unfold endS; split
    · rw [fin_ja (by rw [hm.jl]; omega)]
      split
      · exact Nat.zero_le _
      · exact Nat.le_refl _
    · exact Nat.le_refl _
theorem arrA_d {R : Rn} (hr : RnOk R) {t : Int} {s : Ms} (hm : MOk R s) (x : Nat) : ((arrA R t s).ja x).d ≤ (s.ja x).d := by
  unfold arrA
  have h1 := endA_d hr (t := t) R.L.length 0 (MOk.sigA t R.sg (hm.relA hr t) hr.sg) (by omega) x
  rw [sigA_d R.sg (hm.relA hr t) hr.sg x, relA_ja hr hm] at h1
  exact h1
theorem jbN_d (L : List Ta) (i : Nat) (j : Jb) : (jbN L i j).d = j.d + 1 := by unfold jbN; split <;> rfl
theorem wkA_d {R : Rn} {t : Int} {i : Nat} {s : Ms} (hm : MOk R s) (hi : i < R.L.length) (x : Nat) : ((wkA R t i s).ja x).d ≤ (s.ja x).d + 1 := by
  have hl : i < s.j.length := by rw [hm.jl]; exact hi
  unfold wkA; split
  · rw [fin_ja (by simpa using hl)]
    split
    · exact Nat.zero_le _
    · rw [ja_set hl]; rename_i e; rw [if_neg e]; omega
  · split
    · rw [ja_set hl]
      split
      · rename_i e; subst e; show (jbN R.L x (s.ja x)).d ≤ _; rw [jbN_d]; omega
      · omega
    · rw [ja_set hl]
      split
      · rename_i e; subst e; rw [jbN_d]; omega
      · omega
theorem plM_d {R : Rn} (hr : RnOk R) : ∀ (k x : Nat), ((plM R k).ja x).d ≤ k
  | 0, x => by
    have : (plM R 0).ja x = Jb.zero := by unfold plM ms0 Ms.ja; simp only [List.getElem?_replicate]; split <;> rfl
    rw [this]; exact Nat.le_refl 0
  | k + 1, x => by
    have hm := plM_ok hr k
    have h1 := plM_d hr k x
    have h2 := arrA_d hr (t := (k : Int)) hm x
    have hma := hm.arrA hr (k : Int)
    rw [plM, tckA, tckB]
    split
    · show ((arrA R (k : Int) (plM R k)).ja x).d ≤ _; omega
    · split
      · rename_i hc
        obtain ⟨_, g2, _, _⟩ := chM_spec R.L (arrA R (k : Int) (plM R k))
        have := wkA_d (t := (k : Int)) hma (by omega : (chM R.L (arrA R (k : Int) (plM R k))).toNat < R.L.length) x
        omega
      · omega
theorem arr_d {R : Rn} (hr : RnOk R) (k x : Nat) : ((arrA R (k : Int) (plM R k)).ja x).d ≤ k := Nat.le_trans (arrA_d hr (plM_ok hr k) x) (plM_d hr k x)
end Go.Proofs.Ytmahagcghpoekaa
namespace Go.Proofs.Ytmahagcghpoekaa
open Go.RowKit
set_option linter.unusedSimpArgs false
set_option linter.unusedVariables false
/-- behind the arrivals nobody waits for its end -/
def Settled (R : Rn) (s : Ms) : Prop := ∀ i, i < R.L.length → s.qa i ≠ [] → (s.ja i).s = true → insB R.L s i = true
/-- a tick of work -/
def wk1 (R : Rn) (t : Int) (i : Nat) (s : Ms) : Ms := { s with j := s.j.set i (jbN R.L i (s.ja i)), o := s.o ++ [⟨t, i, 4, (s.ja i).p, s.hd i⟩] }
def wk2 (R : Rn) (t : Int) (i : Nat) (s : Ms) : Ms := { s with j := s.j.set i { jbN R.L i (s.ja i) with s := true }, o := s.o ++ [⟨t, i, 4, (s.ja i).p, s.hd i⟩] ++ [⟨t + 1, i, 6, s.hd i, 0⟩] }
theorem wkA_cases (R : Rn) (t : Int) (i : Nat) (s : Ms) : wkA R t i s = if (jbN R.L i (s.ja i)).p = (taAt R.L i).pcs.length then fin1 (t + 1) i 0 (wk1 R t i s) else if (((jbN R.L i (s.ja i)).d : Nat) : Int) = (R.bu[i]?).getD 0 then wk2 R t i s else wk1 R t i s := rfl
structure Chosen (R : Rn) (s : Ms) (i : Nat) : Prop where
  lt : i < R.L.length
  rd : s.qa i ≠ []
  le : ∀ k, k < R.L.length → s.qa k ≠ [] → keyI R.L s i ≤ keyI R.L s k
theorem endS_settled {R : Rn} {s : Ms} (hm : MOk R s) (t : Int) {i : Nat} (hi : i < R.L.length) (h : ∀ k, k < i → s.qa k ≠ [] → (s.ja k).s = true → insB R.L s k = true) : ∀ k, k < i + 1 → (endS R.L t i s).qa k ≠ [] → ((endS R.L t i s).ja k).s = true → insB R.L (endS R.L t i s) k = true := by
  intro k hk
  unfold endS
  split
  · rename_i hc
    have hj := fun k => fin_ja (m := t) (how := 1) (i := i) (k := k) (s := s) (by rw [hm.jl]; exact hi)
    have hq := fun k => fin_qa (m := t) (how := 1) (i := i) (k := k) (s := s) (by rw [hm.ql]; exact hi)
    rw [hj, hq]
    by_cases e : k = i
    · rw [if_pos e, if_pos e]
      intro _ h2; cases h2
    · rw [if_neg e, if_neg e, insB_eq (s' := s) (by rw [hj, if_neg e])]
      exact h k (by omega)
  · rename_i hc
    intro h1 h2
    by_cases e : k = i
    · subst e
      cases hb : insB R.L s k
      · exact absurd ⟨h1, h2, hb⟩ hc
      · rfl
    · exact h k (by omega) h1 h2
theorem endA_settled {R : Rn} (hr : RnOk R) (t : Int) : ∀ (f i : Nat) {s : Ms}, MOk R s → i + f = R.L.length → (∀ k, k < i → s.qa k ≠ [] → (s.ja k).s = true → insB R.L s k = true) → Settled R (endA R.L t f i s)
  | 0, i, s, _, e, h => fun k hk => h k (by omega)
  | f + 1, i, s, hm, e, h => endA_settled hr t f (i + 1) (hm.endS hr t (by omega)) (by omega) (endS_settled hm t (by omega) h)
theorem arrA_settled {R : Rn} (hr : RnOk R) {s : Ms} (hm : MOk R s) (t : Int) : Settled R (arrA R t s) :=
  endA_settled hr t _ 0 (MOk.sigA t _ (hm.relA hr t) hr.sg) (by omega) (fun k hk => absurd hk (Nat.not_lt_zero _))
/-- what must be shown of P (behind the releases of a tick) and Q (behind a tick) -/
structure Steps (R : Rn) (P Q : Int → Ms → List Nat → Prop) : Prop where
  rel : ∀ (t : Int) s at_, MOk R s → QR R (t - 1) s at_ → Q (t - 1) s at_ → P t (relA t 0 R.ev s) at_
  sig : ∀ (t : Int) s at_ i, MOk R s → QR R t s at_ → i < R.L.length → s.qa i ≠ [] → P t s at_ → P t (sig1 t i s) at_
  fin : ∀ (t : Int) s at_ i a, MOk R s → QR R t s at_ → i < R.L.length → s.qa i ≠ [] → at_[i]? = some a → (s.ja i).s = true → insB R.L s i = false → P t s at_ → P t (fin1 t i 1 s) (at_.set i (a + 1))
  gc : ∀ (t : Int) s at_, MOk R s → QR R t s at_ → Settled R s → t % R.fr < R.sl → P t s at_ → Q t (s.wr ⟨t, -1, 3, 0, 0⟩) at_
  idle : ∀ (t : Int) s at_, MOk R s → QR R t s at_ → Settled R s → ¬ t % R.fr < R.sl → (∀ k, k < R.L.length → s.qa k = []) → P t s at_ → Q t s at_
  w0 : ∀ (t : Int) s at_ i a, MOk R s → QR R t s at_ → Settled R s → ¬ t % R.fr < R.sl → Chosen R s i → at_[i]? = some a → (jbN R.L i (s.ja i)).p = (taAt R.L i).pcs.length → P t s at_ → Q t (fin1 (t + 1) i 0 (wk1 R t i s)) (at_.set i (a + 1))
  w1 : ∀ (t : Int) s at_ i a, MOk R s → QR R t s at_ → Settled R s → ¬ t % R.fr < R.sl → Chosen R s i → at_[i]? = some a → (jbN R.L i (s.ja i)).p < (taAt R.L i).pcs.length → (((jbN R.L i (s.ja i)).d : Nat) : Int) ≠ (R.bu[i]?).getD 0 → P t s at_ → Q t (wk1 R t i s) at_
  w2 : ∀ (t : Int) s at_ i a, MOk R s → QR R t s at_ → Settled R s → ¬ t % R.fr < R.sl → Chosen R s i → at_[i]? = some a → (jbN R.L i (s.ja i)).p < (taAt R.L i).pcs.length → (((jbN R.L i (s.ja i)).d : Nat) : Int) = (R.bu[i]?).getD 0 → P t s at_ → Q t (wk2 R t i s) at_
section
variable {R : Rn} {P Q : Int → Ms → List Nat → Prop}
theorem Steps.sigA (h : Steps R P Q) (hr : RnOk R) (t : Int) : ∀ (gs : List P2) {s : Ms} {at_ : List Nat}, MOk R s → QR R t s at_ → (∀ g ∈ gs, 0 ≤ g.2 ∧ g.2 < R.L.length) → P t s at_ → P t (sigA t gs s) at_
  | [], s, at_, _, _, _, hp => hp
  | g :: gs, s, at_, hm, hq, hg, hp => by
    have h0 := hg g (by simp)
    refine Steps.sigA h hr t gs (hm.sigS t h0) (hq.of sigS_spec.1) (fun x hx => hg x (by simp [hx])) ?_
    unfold sigS
    split
    · rename_i hc
      exact h.sig t s at_ _ hm hq (by omega) hc.2 hp
    · exact hp
theorem Steps.endA (h : Steps R P Q) (hr : RnOk R) (t : Int) : ∀ (f i : Nat) {s : Ms} {at_ : List Nat}, MOk R s → QR R t s at_ → i + f = R.L.length → P t s at_ → ∃ at', QR R t (endA R.L t f i s) at' ∧ P t (endA R.L t f i s) at'
  | 0, _, s, at_, _, hq, _, hp => ⟨at_, hq, hp⟩
  | f + 1, i, s, at_, hm, hq, e, hp => by
    rw [Go.Proofs.Ytmahagcghpoekaa.endA]
    unfold Go.Proofs.Ytmahagcghpoekaa.endS
    split
    · rename_i hc
      have hi : i < at_.length := by rw [hq.len]; omega
      exact Steps.endA h hr t f (i + 1) (hm.fin hr t 1 (by omega)) (hq.fin hm (List.getElem?_eq_getElem hi) hc.1 t 1) (by omega) (h.fin t s at_ i _ hm hq (by omega) hc.1 (List.getElem?_eq_getElem hi) hc.2.1 hc.2.2 hp)
    · exact Steps.endA h hr t f (i + 1) hm hq (by omega) hp
theorem Steps.arr (h : Steps R P Q) (hr : RnOk R) {t : Int} {s : Ms} {at_ : List Nat} (hm : MOk R s) (hq : QR R (t - 1) s at_) (hp : Q (t - 1) s at_) : ∃ at', QR R t (arrA R t s) at' ∧ P t (arrA R t s) at' :=
  h.endA hr t _ _ (MOk.sigA t _ (hm.relA hr t) hr.sg) ((hq.rel hr hm).of (sigA_q _ _ _)) (by omega) (h.sigA hr t _ (hm.relA hr t) (hq.rel hr hm) hr.sg (h.rel t s at_ hm hq hp))
theorem chosen_of {s : Ms} (hm : MOk R s) (hc : 0 ≤ chM R.L s) : Chosen R s (chM R.L s).toNat := by
  obtain ⟨h1, h2, h3, h4⟩ := chM_spec R.L s
  exact ⟨by omega, h4 hc, fun k hk hq => (h3 k hk hq).2⟩
theorem Steps.tick (h : Steps R P Q) (hr : RnOk R) {t : Int} {s : Ms} {at_ : List Nat} (hm : MOk R s) (hs : Settled R s) (hq : QR R t s at_) (hp : P t s at_) : ∃ at', QR R t (tckB R t s) at' ∧ Q t (tckB R t s) at' := by
  unfold tckB
  split
  · rename_i hg
    exact ⟨at_, hq.of rfl, h.gc t s at_ hm hq hs hg hp⟩
  · rename_i hg
    split
    · rename_i hc
      have hch := chosen_of hm hc
      obtain ⟨i, hi⟩ : ∃ i, (chM R.L s).toNat = i := ⟨_, rfl⟩
      rw [hi] at hch ⊢
      have hil : i < at_.length := by rw [hq.len]; exact hch.lt
      have ha := List.getElem?_eq_getElem hil
      have hjl : i < s.j.length := by rw [hm.jl]; exact hch.lt
      have hle : (jbN R.L i (s.ja i)).p ≤ (taAt R.L i).pcs.length := by
        have hpi := hm.pc i hch.lt
        unfold jbN; split <;> simp only [] <;> omega
      rw [wkA_cases]
      split
      · rename_i h1
        refine ⟨_, ?_, h.w0 t s at_ i _ hm hq hs hg hch ha h1 hp⟩
        have := hq.fin hm ha hch.rd (t + 1) 0
        exact this.of rfl
      · rename_i h1
        split
        · rename_i h2
          exact ⟨at_, hq.of rfl, h.w2 t s at_ i _ hm hq hs hg hch ha (by omega) h2 hp⟩
        · rename_i h2
          exact ⟨at_, hq.of rfl, h.w1 t s at_ i _ hm hq hs hg hch ha (by omega) h2 hp⟩
    · rename_i hc
      refine ⟨at_, hq, h.idle t s at_ hm hq hs hg (fun k hk => ?_) hp⟩
      obtain ⟨h1, h2, h3, h4⟩ := chM_spec R.L s
      by_cases e : s.qa k = []
      · exact e
      · have := (h3 k hk e).1; omega
theorem qr_zero {R : Rn} (hr : RnOk R) : QR R (-1) (ms0 R.L.length) (List.replicate R.L.length 0) := by
  refine ⟨by simp, fun i a ha => ?_⟩
  have hq : (ms0 R.L.length).qa i = [] := by
    unfold ms0 Ms.qa; simp only [List.getElem?_replicate]; split <;> rfl
  have h0 : a = 0 := by
    rw [List.getElem?_replicate] at ha
    split at ha
    · simpa using ha.symm
    · simp at ha
  subst h0
  have : outE (evA R i) (-1) = [] := by
    refine outE_none (fun e he => ?_) (by omega)
    unfold evA at he
    cases hev : R.ev[i]? with
    | none => rw [hev] at he; simp at he
    | some l =>
      rw [hev] at he
      have := (hr.el l (List.mem_of_getElem? hev)).2 e he
      omega
  rw [hq, this]; exact ⟨rfl, Nat.le_refl _⟩
/-- what the steps keep holds along the run -/
theorem Steps.run (h : Steps R P Q) (hr : RnOk R) (h0 : Q (-1) (ms0 R.L.length) (List.replicate R.L.length 0)) : ∀ k : Nat, ∃ at_, QR R ((k : Int) - 1) (plM R k) at_ ∧ Q ((k : Int) - 1) (plM R k) at_
  | 0 => ⟨_, qr_zero hr, h0⟩
  | k + 1 => by
    obtain ⟨at_, hq, hp⟩ := Steps.run h hr h0 k
    have hm := plM_ok hr k
    obtain ⟨a1, q1, p1⟩ := h.arr hr hm hq hp
    obtain ⟨a2, q2, p2⟩ := h.tick hr (hm.arrA hr _) (arrA_settled hr hm _) q1 p1
    refine ⟨a2, ?_⟩
    rw [show (((k + 1 : Nat) : Int) - 1) = (k : Int) by omega]
    exact ⟨q2, p2⟩
end
end Go.Proofs.Ytmahagcghpoekaa
namespace Go.Proofs.Ytmahagcghpoekaa
open Go.RowKit
set_option linter.unusedSimpArgs false
set_option linter.unusedVariables false
def endG (i : Nat) (x : Int) (r : Int) (e : En) : Int := if e.w = 5 ∧ e.k = (i : Int) ∧ e.a = x then e.m else r
/-- the moment that the last entry tells, or -1 -/
def endF (o : List En) (i : Nat) (x : Int) : Int := o.foldl (endG i x) (-1)
theorem endF_one (o : List En) (e : En) (i : Nat) (x : Int) : endF (o ++ [e]) i x = endG i x (endF o i x) e := by unfold endF; rw [List.foldl_append]; rfl
theorem endF_app (o l : List En) (i : Nat) (x : Int) (h : ∀ e ∈ l, ¬ (e.w = 5 ∧ e.k = (i : Int) ∧ e.a = x)) : endF (o ++ l) i x = endF o i x := by
  unfold endF
  rw [List.foldl_append]
  generalize o.foldl (endG i x) (-1) = r
  induction l with
  | nil => rfl
  | cons e l ih =>
    rw [List.foldl_cons]
    have : endG i x r e = r := by unfold endG; rw [if_neg (h e (by simp))]
    rw [this]
    exact ih (fun e he => h e (by simp [he]))
theorem relA_newE (t : Int) : ∀ (ls : List (List P2)) (i : Nat) (s : Ms), ∃ l, (relA t i ls s).o = s.o ++ l ∧ ∀ e ∈ l, e.m = t ∧ e.w = 1
  | [], i, s => ⟨[], by simp [relA], fun e he => by simp at he⟩
  | l :: ls, i, s => by
    have hE : ∀ (es : List P2) (k : Nat) (s : Ms), ∃ l, (relE t i k es s).o = s.o ++ l ∧ ∀ e ∈ l, e.m = t ∧ e.w = 1 := by
      intro es
      induction es with
      | nil => exact fun k s => ⟨[], by simp [relE], fun e he => by simp at he⟩
      | cons e es ih =>
        intro k s
        rw [relE]
        obtain ⟨l, h1, h2⟩ := ih (k + 1) (if e.1 + e.2 = t then rel1 t i k s else s)
        rw [h1]
        split
        · exact ⟨⟨t, i, 1, k, 0⟩ :: l, by simp [rel1], fun e he => by
            rcases List.mem_cons.1 he with rfl | he
            · exact ⟨rfl, rfl⟩
            · exact h2 e he⟩
        · exact ⟨l, rfl, h2⟩
    obtain ⟨l1, h1, h2⟩ := hE l 0 s
    obtain ⟨l2, h3, h4⟩ := relA_newE t ls (i + 1) (relE t i 0 l s)
    refine ⟨l1 ++ l2, by rw [relA, h3, h1, List.append_assoc], fun e he => ?_⟩
    rcases List.mem_append.1 he with he | he
    · exact h2 e he
    · exact h4 e he
theorem ord_injE {l : List P2} {j k : Nat} {x : Int} (h1 : (ordE l)[j]? = some x) (h2 : (ordE l)[k]? = some x) : j = k := by
  obtain ⟨a1, e1⟩ := List.getElem?_eq_some_iff.1 h1
  obtain ⟨a2, e2⟩ := List.getElem?_eq_some_iff.1 h2
  have hp := List.pairwise_iff_getElem.1 (ordE_pw l)
  rcases Nat.lt_trichotomy j k with h | h | h
  · have := hp j k a1 a2 h; rw [e1, e2] at this; unfold Bef at this; omega
  · exact h
  · have := hp k j a2 a1 h; rw [e1, e2] at this; unfold Bef at this; omega
theorem set_atE {at_ : List Nat} {k i a b : Nat} (h : (at_.set k b)[i]? = some a) : (k = i ∧ a = b) ∨ (k ≠ i ∧ at_[i]? = some a) := by
  rw [List.getElem?_set] at h
  by_cases e : k = i
  · rw [if_pos e] at h
    split at h
    · exact .inl ⟨e, by simpa using h.symm⟩
    · simp at h
  · rw [if_neg e] at h; exact .inr ⟨e, h⟩
/-- who has been said to be over, up to a moment -/
structure EI (R : Rn) (T : Int) (s : Ms) (at_ : List Nat) : Prop where
  pos : 0 ≤ T
  old : ∀ i a j x, at_[i]? = some a → (ordE (evA R i))[j]? = some x → j < a → 0 ≤ endF s.o i x ∧ endF s.o i x ≤ T
  new : ∀ i a j x, at_[i]? = some a → (ordE (evA R i))[j]? = some x → a ≤ j → endF s.o i x = -1
  ok : ∀ e ∈ s.o, e.w = 5 → ∃ i x : Nat, e.k = (i : Int) ∧ e.a = (x : Int) ∧ i < R.L.length ∧ x < (evA R i).length
  ok4 : ∀ e ∈ s.o, e.w = 4 → ∃ i p x : Nat, e.k = (i : Int) ∧ e.a = (p : Int) ∧ e.b = (x : Int) ∧ i < R.L.length ∧ p < (taAt R.L i).pcs.length ∧ x < (evA R i).length
  okm : ∀ e ∈ s.o, 0 ≤ e.m ∧ e.m ≤ T ∧ (e.w = 3 ∨ e.w = 4 → e.m < T)
theorem EI.of {R : Rn} {T T' : Int} {s s' : Ms} {at_ : List Nat} (h : EI R T s at_) (hT : T ≤ T') {l : List En} (ho : s'.o = s.o ++ l) (h5 : ∀ e ∈ l, e.w ≠ 5)
    (h4 : ∀ e ∈ l, e.w = 4 → ∃ i p x : Nat, e.k = (i : Int) ∧ e.a = (p : Int) ∧ e.b = (x : Int) ∧ i < R.L.length ∧ p < (taAt R.L i).pcs.length ∧ x < (evA R i).length)
    (hm : ∀ e ∈ l, 0 ≤ e.m ∧ e.m ≤ T' ∧ (e.w = 3 ∨ e.w = 4 → e.m < T')) : EI R T' s' at_ := by
  have he : ∀ i x, endF s'.o i x = endF s.o i x := fun i x => by rw [ho]; exact endF_app _ _ _ _ (fun e q r => h5 e q r.1)
  have hp := h.pos
  refine ⟨by omega, fun i a j x h1 h2 h3 => ?_, fun i a j x h1 h2 h3 => by rw [he]; exact h.new i a j x h1 h2 h3, fun e q w5 => ?_, fun e q w4 => ?_, fun e q => ?_⟩
  · rw [he]; have := h.old i a j x h1 h2 h3; omega
  · rw [ho, List.mem_append] at q
    rcases q with q | q
    · exact h.ok e q w5
    · exact absurd w5 (h5 e q)
  · rw [ho, List.mem_append] at q
    rcases q with q | q
    · exact h.ok4 e q w4
    · exact h4 e q w4
  · rw [ho, List.mem_append] at q
    rcases q with q | q
    · have := h.okm e q
      exact ⟨this.1, by omega, fun w => by have := this.2.2 w; omega⟩
    · exact hm e q
theorem EI.fin {R : Rn} {T : Int} {s : Ms} {at_ : List Nat} (h : EI R T s at_) {i a : Nat} {how : Int} (hi : i < R.L.length) (ha : at_[i]? = some a) (hx : (ordE (evA R i))[a]? = some (s.hd i)) :
    EI R T (fin1 T i how s) (at_.set i (a + 1)) := by
  have ho : (fin1 T i how s).o = s.o ++ [⟨T, i, 5, s.hd i, how⟩] := rfl
  have hp := h.pos
  have hx0 := ordE_mem.1 (List.mem_of_getElem? hx)
  have key : ∀ k x, ¬ (k = i ∧ x = s.hd i) → endF (fin1 T i how s).o k x = endF s.o k x := fun k x hk => by
    rw [ho, endF_one]
    unfold endG
    rw [if_neg]
    rintro ⟨_, h1, h2⟩
    simp only [] at h1 h2
    exact hk ⟨by omega, h2.symm⟩
  have self : endF (fin1 T i how s).o i (s.hd i) = T := by
    rw [ho, endF_one]
    unfold endG
    rw [if_pos ⟨rfl, rfl, rfl⟩]
  refine ⟨hp, fun k b j x h1 h2 h3 => ?_, fun k b j x h1 h2 h3 => ?_, fun e q w5 => ?_, fun e q w4 => ?_, fun e q => ?_⟩
  · rcases set_atE h1 with ⟨rfl, rfl⟩ | ⟨hne, h1⟩
    · by_cases e : x = s.hd i
      · subst e; rw [self]; omega
      · rw [key _ _ (fun q => e q.2)]
        refine h.old i a j x ha h2 ?_
        rcases Nat.lt_succ_iff_lt_or_eq.1 h3 with q | q
        · exact q
        · subst q; rw [hx] at h2; simp at h2; exact absurd h2.symm e
    · rw [key _ _ (fun q => hne q.1.symm)]
      exact h.old k b j x h1 h2 h3
  · rcases set_atE h1 with ⟨rfl, rfl⟩ | ⟨hne, h1⟩
    · rw [key _ _ (fun q => by
        have := ord_injE (q.2 ▸ h2) hx
        omega)]
      exact h.new i a j x ha h2 (by omega)
    · rw [key _ _ (fun q => hne q.1.symm)]
      exact h.new k b j x h1 h2 h3
  · rw [ho, List.mem_append] at q
    rcases q with q | q
    · exact h.ok e q w5
    · simp at q; subst q
      obtain ⟨y, hy⟩ := Int.eq_ofNat_of_zero_le hx0.1
      exact ⟨i, y, rfl, hy, hi, by omega⟩
  · rw [ho, List.mem_append] at q
    rcases q with q | q
    · exact h.ok4 e q w4
    · simp at q; subst q; simp at w4
  · rw [ho, List.mem_append] at q
    rcases q with q | q
    · exact h.okm e q
    · simp at q; subst q; exact ⟨hp, Int.le_refl _, fun w => by simp at w⟩
theorem work_ok {R : Rn} {t : Int} {s : Ms} {at_ : List Nat} {i a : Nat} (hm : MOk R s) (hq : QR R t s at_) (hch : Chosen R s i) (ha : at_[i]? = some a) (ht : 0 ≤ t) {T' : Int} (hT : t < T') :
    ∃ x : Nat, s.hd i = (x : Int) ∧ x < (evA R i).length := by
  have hx0 := ordE_mem.1 (List.mem_of_getElem? (hq.event ha hch.rd))
  obtain ⟨y, hy⟩ := Int.eq_ofNat_of_zero_le hx0.1
  exact ⟨y, hy, by omega⟩
theorem EI.work {R : Rn} {t : Int} {s : Ms} {at_ : List Nat} {i a : Nat} (h : EI R t s at_) (hm : MOk R s) (hq : QR R t s at_) (hch : Chosen R s i) (ha : at_[i]? = some a) : EI R (t + 1) (wk1 R t i s) at_ := by
  have hp := h.pos
  obtain ⟨x, hx, hxl⟩ := work_ok hm hq hch ha hp (T' := t + 1) (by omega)
  refine h.of (by omega) (l := [⟨t, i, 4, (s.ja i).p, s.hd i⟩]) rfl (fun e q => by simp at q; subst q; simp) (fun e q _ => ?_) (fun e q => ?_)
  · simp at q; subst q
    exact ⟨i, (s.ja i).p, x, rfl, rfl, hx, hch.lt, hm.pc i hch.lt, hxl⟩
  · simp at q; subst q; exact ⟨hp, by simp only []; omega, fun _ => by simp only []; omega⟩
theorem ends_steps {R : Rn} (hr : RnOk R) : Steps R (fun t s at_ => EI R t s at_) (fun t s at_ => EI R (t + 1) s at_) := by
  refine ⟨?_, ?_, ?_, ?_, ?_, ?_, ?_, ?_⟩
  · intro t s at_ hm hq hp
    rw [show t - 1 + 1 = t by omega] at hp
    obtain ⟨l, h1, h2⟩ := relA_newE t R.ev 0 s
    have h0 := hp.pos
    exact hp.of (Int.le_refl _) h1 (fun e q => by rw [(h2 e q).2]; decide) (fun e q w => by rw [(h2 e q).2] at w; cases w) (fun e q => ⟨by rw [(h2 e q).1]; exact h0, by rw [(h2 e q).1]; exact Int.le_refl _, fun w => by rw [(h2 e q).2] at w; rcases w with w | w <;> cases w⟩)
  · intro t s at_ i hm hq hi hn hp
    have h0 := hp.pos
    exact hp.of (Int.le_refl _) (l := [⟨t, i, 2, 0, 0⟩]) rfl (fun e q => by simp at q; subst q; simp) (fun e q w => by simp at q; subst q; simp at w) (fun e q => by simp at q; subst q; exact ⟨h0, Int.le_refl _, fun w => by simp at w⟩)
  · intro t s at_ i a hm hq hi hn ha hs hin hp
    exact hp.fin hi ha (hq.event ha hn)
  · intro t s at_ hm hq hs hg hp
    have h0 := hp.pos
    exact hp.of (by omega) (l := [⟨t, -1, 3, 0, 0⟩]) rfl (fun e q => by simp at q; subst q; simp) (fun e q w => by simp at q; subst q; simp at w) (fun e q => by simp at q; subst q; exact ⟨h0, by simp only []; omega, fun _ => by simp only []; omega⟩)
  · intro t s at_ hm hq hs hg hn hp
    exact hp.of (by omega) (l := []) (by simp) (fun e q => by simp at q) (fun e q => by simp at q) (fun e q => by simp at q)
  · intro t s at_ i a hm hq hs hg hch ha hfin hp
    have := hp.work hm hq hch ha
    exact this.fin (s := wk1 R t i s) hch.lt ha (hq.event ha hch.rd)
  · intro t s at_ i a hm hq hs hg hch ha hpl hbu hp
    exact hp.work hm hq hch ha
  · intro t s at_ i a hm hq hs hg hch ha hpl hbu hp
    have h1 := hp.work hm hq hch ha
    have h0 := hp.pos
    exact h1.of (Int.le_refl _) (s' := wk2 R t i s) (l := [⟨t + 1, i, 6, s.hd i, 0⟩]) rfl (fun e q => by simp at q; subst q; simp) (fun e q w => by simp at q; subst q; simp at w) (fun e q => by simp at q; subst q; exact ⟨by simp only []; omega, Int.le_refl _, fun w => by simp at w⟩)
theorem EI.zero {R : Rn} (hr : RnOk R) : EI R 0 (ms0 R.L.length) (List.replicate R.L.length 0) := by
  refine ⟨Int.le_refl _, fun i a j x h1 _ h3 => ?_, fun _ _ _ _ _ _ _ => rfl, fun e q => by simp [ms0] at q, fun e q => by simp [ms0] at q, fun e q => by simp [ms0] at q⟩
  rw [List.getElem?_replicate] at h1
  split at h1
  · simp at h1; omega
  · simp at h1
theorem plM_ei {R : Rn} (hr : RnOk R) (k : Nat) : ∃ at_, QR R ((k : Int) - 1) (plM R k) at_ ∧ EI R k (plM R k) at_ := by
  obtain ⟨at_, h1, h2⟩ := (ends_steps hr).run hr (EI.zero hr) k
  rw [show (k : Int) - 1 + 1 = k by omega] at h2
  exact ⟨at_, h1, h2⟩
/-- all ends -/
def endsRow (R : Rn) (o : List En) (i : Nat) : List Int := (List.range (evA R i).length).map (fun (k : Nat) => endF o i (k : Int))
theorem endsRow_len (R : Rn) (o : List En) (i : Nat) : (endsRow R o i).length = (evA R i).length := by simp [endsRow]
theorem endsRow_get {R : Rn} {o : List En} {i k : Nat} (h : k < (evA R i).length) : (endsRow R o i)[k]? = some (endF o i (k : Int)) := by simp [endsRow, h]
theorem endsRow_nil (R : Rn) (i : Nat) : endsRow R [] i = List.replicate (evA R i).length (-1) := by
  apply List.ext_getElem?
  intro k
  by_cases h : k < (evA R i).length
  · rw [endsRow_get h, List.getElem?_replicate, if_pos h]; rfl
  · rw [List.getElem?_eq_none (by rw [endsRow_len]; omega), List.getElem?_eq_none (by simp; omega)]
theorem endsRow_other (R : Rn) {o : List En} {e : En} (h : e.w ≠ 5) (i : Nat) : endsRow R (o ++ [e]) i = endsRow R o i := by
  unfold endsRow
  refine List.map_congr_left (fun k _ => ?_)
  rw [endF_one]; unfold endG; rw [if_neg (fun q => h q.1)]
theorem endsRow_over (R : Rn) {o : List En} {e : En} (h : e.w = 5) {k x : Nat} (hk : e.k = (k : Int)) (hx : e.a = (x : Int)) (i : Nat) : endsRow R (o ++ [e]) i = if i = k then (endsRow R o i).set x e.m else endsRow R o i := by
  apply List.ext_getElem?
  intro j
  by_cases hj : j < (evA R i).length
  · rw [endsRow_get hj, endF_one]
    unfold endG
    by_cases hik : i = k
    · subst hik
      rw [if_pos rfl, List.getElem?_set]
      by_cases hxj : x = j
      · subst hxj
        rw [if_pos ⟨h, hk, hx⟩, if_pos rfl, if_pos (by rw [endsRow_len]; exact hj)]
      · rw [if_neg (fun q => hxj (by have := q.2.2; omega)), if_neg hxj, endsRow_get hj]
    · rw [if_neg (fun q => hik (by have := q.2.1; omega)), if_neg hik, endsRow_get hj]
  · rw [List.getElem?_eq_none (by rw [endsRow_len]; omega)]
    split
    · rw [List.getElem?_eq_none (by rw [List.length_set, endsRow_len]; omega)]
    · rw [List.getElem?_eq_none (by rw [endsRow_len]; omega)]
end Go.Proofs.Ytmahagcghpoekaa
namespace Go.Proofs.Ytmahagcghpoekaa
open Go.RowKit
set_option linter.unusedSimpArgs false
set_option linter.unusedVariables false
/-- how many entries are so -/
def cntE (p : En → Bool) : List En → Int
  | [] => 0
  | e :: es => (if p e = true then 1 else 0) + cntE p es
theorem cntE_app (p : En → Bool) : ∀ (a b : List En), cntE p (a ++ b) = cntE p a + cntE p b
  | [], b => by simp [cntE]
  | e :: a, b => by rw [List.cons_append, cntE, cntE, cntE_app p a b]; omega
theorem cntE_none (p : En → Bool) : ∀ (a : List En), (∀ e ∈ a, p e = false) → cntE p a = 0
  | [], _ => rfl
  | e :: a, h => by rw [cntE, h e (by simp), cntE_none p a (fun x hx => h x (by simp [hx]))]; rfl
theorem cntE_bd (p : En → Bool) : ∀ (a : List En), 0 ≤ cntE p a ∧ cntE p a ≤ a.length
  | [] => by simp [cntE]
  | e :: a => by
    have := cntE_bd p a
    rw [cntE, List.length_cons]
    split <;> omega
theorem cntE_or {p q r : En → Bool} : ∀ (a : List En), (∀ e ∈ a, (r e = true ↔ p e = true ∨ q e = true) ∧ ¬ (p e = true ∧ q e = true)) → cntE r a = cntE p a + cntE q a
  | [], _ => rfl
  | e :: a, h => by
    have h1 := h e (by simp)
    rw [cntE, cntE, cntE, cntE_or a (fun x hx => h x (by simp [hx]))]
    by_cases hp : p e = true
    · have hq : ¬ q e = true := fun q' => h1.2 ⟨hp, q'⟩
      rw [if_pos hp, if_neg hq, if_pos (h1.1.2 (.inl hp))]; omega
    · by_cases hq : q e = true
      · rw [if_neg hp, if_pos hq, if_pos (h1.1.2 (.inr hq))]; omega
      · rw [if_neg hp, if_neg hq, if_neg (fun r' => (h1.1.1 r').elim hp hq)]; omega
def isW (w : Int) (e : En) : Bool := decide (e.w = w)
def isWk (i : Nat) (e : En) : Bool := decide (e.w = 4) && decide (e.k = (i : Int))
def isBusy (e : En) : Bool := decide (e.w = 3) || decide (e.w = 4)
/-- ticks of work of each task -/
def wkRow (n : Nat) (o : List En) : List Int := (List.range n).map (fun (i : Nat) => cntE (isWk i) o)
theorem wkRow_len (n : Nat) (o : List En) : (wkRow n o).length = n := by simp [wkRow]
theorem wkRow_get {n i : Nat} {o : List En} (h : i < n) : (wkRow n o)[i]? = some (cntE (isWk i) o) := by simp [wkRow, h]
theorem wkRow_nil (n : Nat) : wkRow n [] = List.replicate n 0 := by
  apply List.ext_getElem?
  intro k
  by_cases h : k < n
  · rw [wkRow_get h, List.getElem?_replicate, if_pos h]; rfl
  · rw [List.getElem?_eq_none (by rw [wkRow_len]; omega), List.getElem?_eq_none (by simp; omega)]
theorem wkRow_other {n : Nat} {o : List En} {e : En} (h : e.w ≠ 4) : wkRow n (o ++ [e]) = wkRow n o := by
  unfold wkRow
  refine List.map_congr_left (fun k _ => ?_)
  rw [cntE_app, cntE_none _ [e] (fun x hx => by simp at hx; subst hx; unfold isWk; rw [decide_eq_false h]; rfl)]; omega
theorem wkRow_work {n k : Nat} {o : List En} {e : En} (h : e.w = 4) (hk : e.k = (k : Int)) (hn : k < n) : wkRow n (o ++ [e]) = (wkRow n o).set k (cntE (isWk k) o + 1) := by
  apply List.ext_getElem?
  intro j
  by_cases hj : j < n
  · rw [wkRow_get hj, List.getElem?_set, cntE_app]
    by_cases e1 : k = j
    · subst e1
      rw [if_pos rfl, if_pos (by rw [wkRow_len]; exact hj)]
      have : cntE (isWk k) [e] = 1 := by unfold cntE isWk; rw [h, hk]; simp [cntE]
      rw [this]
    · rw [if_neg e1, wkRow_get hj]
      have : cntE (isWk j) [e] = 0 := cntE_none _ _ (fun x hx => by
        simp at hx; subst hx
        unfold isWk
        rw [hk]
        have : ¬ ((k : Int) = (j : Int)) := by omega
        simp [this])
      rw [this]; simp
  · rw [List.getElem?_eq_none (by rw [wkRow_len]; omega), List.getElem?_eq_none (by rw [List.length_set, wkRow_len]; omega)]
/-- sums of rows -/
def sumI : List Int → Int
  | [] => 0
  | x :: xs => x + sumI xs
theorem sumI_app : ∀ (a b : List Int), sumI (a ++ b) = sumI a + sumI b
  | [], b => by simp [sumI]
  | x :: a, b => by rw [List.cons_append, sumI, sumI, sumI_app a b]; omega
theorem sumI_set : ∀ (xs : List Int) (k : Nat) (x : Int), xs[k]? = some x → sumI (xs.set k (x + 1)) = sumI xs + 1
  | [], k, x, h => by simp at h
  | y :: ys, 0, x, h => by simp at h; subst h; simp [sumI]; omega
  | y :: ys, k + 1, x, h => by
    rw [List.set_cons_succ, sumI, sumI, sumI_set ys k x (by simpa using h)]; omega
theorem sumI_zeros : ∀ n : Nat, sumI (List.replicate n 0) = 0
  | 0 => rfl
  | n + 1 => by rw [List.replicate_succ, sumI, sumI_zeros n]; rfl
theorem wkRow_sum {n : Nat} : ∀ (b a : List En), (∀ e ∈ b, e.w = 4 → ∃ i : Nat, e.k = (i : Int) ∧ i < n) → sumI (wkRow n (a ++ b)) = sumI (wkRow n a) + cntE (isW 4) b
  | [], a, _ => by simp [cntE]
  | e :: b, a, h => by
    have ih := wkRow_sum b (a ++ [e]) (fun x hx => h x (by simp [hx]))
    rw [List.append_assoc, List.singleton_append] at ih
    rw [ih, cntE]
    by_cases hw : e.w = 4
    · obtain ⟨i, hi, hin⟩ := h e (by simp) hw
      rw [wkRow_work hw hi hin, sumI_set _ _ _ (wkRow_get hin), if_pos (by unfold isW; simp [hw])]; omega
    · rw [wkRow_other hw, if_neg (by unfold isW; simp [hw])]; omega
/-- the collector's ticks -/
def gcN (R : Rn) : Nat → Int
  | 0 => 0
  | t + 1 => gcN R t + (if (t : Int) % R.fr < R.sl then 1 else 0)
theorem relA_newW (t : Int) (ls : List (List P2)) (i : Nat) (s : Ms) : ∃ l, (relA t i ls s).o = s.o ++ l ∧ ∀ e ∈ l, e.w ≠ 3 ∧ e.w ≠ 4 := by
  obtain ⟨l, h1, h2⟩ := relA_newE t ls i s
  exact ⟨l, h1, fun e he => by rw [(h2 e he).2]; decide⟩
theorem sigA_newW (t : Int) : ∀ (gs : List P2) (s : Ms), ∃ l, (sigA t gs s).o = s.o ++ l ∧ ∀ e ∈ l, e.w ≠ 3 ∧ e.w ≠ 4
  | [], s => ⟨[], by simp [sigA], fun e he => by simp at he⟩
  | g :: gs, s => by
    obtain ⟨l, h1, h2⟩ := sigA_newW t gs (sigS t g s)
    rw [sigA, h1]
    unfold sigS
    split
    · refine ⟨⟨t, g.2.toNat, 2, 0, 0⟩ :: l, by simp [sig1], fun e he => ?_⟩
      rcases List.mem_cons.1 he with rfl | he
      · exact ⟨by simp, by simp⟩
      · exact h2 e he
    · exact ⟨l, rfl, h2⟩
theorem endA_newW (L : List Ta) (t : Int) : ∀ (f i : Nat) (s : Ms), ∃ l, (endA L t f i s).o = s.o ++ l ∧ ∀ e ∈ l, e.w ≠ 3 ∧ e.w ≠ 4
  | 0, i, s => ⟨[], by simp [endA], fun e he => by simp at he⟩
  | f + 1, i, s => by
    obtain ⟨l, h1, h2⟩ := endA_newW L t f (i + 1) (endS L t i s)
    rw [endA, h1]
    unfold endS
    split
    · refine ⟨⟨t, i, 5, s.hd i, 1⟩ :: l, by simp [fin1], fun e he => ?_⟩
      rcases List.mem_cons.1 he with rfl | he
      · exact ⟨by simp, by simp⟩
      · exact h2 e he
    · exact ⟨l, rfl, h2⟩
theorem arrA_newW (R : Rn) (t : Int) (s : Ms) : ∃ l, (arrA R t s).o = s.o ++ l ∧ ∀ e ∈ l, e.w ≠ 3 ∧ e.w ≠ 4 := by
  obtain ⟨l1, h1, g1⟩ := relA_newW t R.ev 0 s
  obtain ⟨l2, h2, g2⟩ := sigA_newW t R.sg (relA t 0 R.ev s)
  obtain ⟨l3, h3, g3⟩ := endA_newW R.L t R.L.length 0 (sigA t R.sg (relA t 0 R.ev s))
  refine ⟨l1 ++ (l2 ++ l3), by unfold arrA; rw [h3, h2, h1]; simp, fun e he => ?_⟩
  rcases List.mem_append.1 he with he | he
  · exact g1 e he
  · rcases List.mem_append.1 he with he | he
    · exact g2 e he
    · exact g3 e he
/-- a tick's entries: those of the arrivals, then the collector's alone, or nothing, or work and what follows -/
theorem tick_new (R : Rn) (t : Int) (s : Ms) : ∃ l, (tckA R t s).o = s.o ++ l ∧
    ((t % R.fr < R.sl ∧ ∃ l1, l = l1 ++ [⟨t, -1, 3, 0, 0⟩] ∧ ∀ e ∈ l1, e.w ≠ 3 ∧ e.w ≠ 4) ∨
     (¬ t % R.fr < R.sl ∧ (∀ e ∈ l, e.w ≠ 3) ∧ ((∀ e ∈ l, e.w ≠ 4) ∨ ∃ l1 e4 l2, l = l1 ++ (e4 :: l2) ∧ e4.w = 4 ∧ e4.m = t ∧ (∀ e ∈ l1, e.w ≠ 4) ∧ (∀ e ∈ l2, e.w ≠ 4)))) := by
  obtain ⟨l, h1, h2⟩ := arrA_newW R t s
  unfold tckA tckB
  by_cases hg : t % R.fr < R.sl
  · rw [if_pos hg]
    exact ⟨l ++ [⟨t, -1, 3, 0, 0⟩], by unfold Ms.wr; simp only []; rw [h1, List.append_assoc], .inl ⟨hg, l, rfl, h2⟩⟩
  · rw [if_neg hg]
    by_cases hc : 0 ≤ chM R.L (arrA R t s)
    · rw [if_pos hc, wkA_cases]
      obtain ⟨y, hy⟩ : ∃ y, (chM R.L (arrA R t s)).toNat = y := ⟨_, rfl⟩
      rw [hy]
      have key : ∀ l2 : List En, (∀ e ∈ l2, e.w ≠ 3 ∧ e.w ≠ 4) → (∀ e ∈ l ++ (⟨t, y, 4, ((arrA R t s).ja y).p, (arrA R t s).hd y⟩ :: l2), e.w ≠ 3) := fun l2 g e he => by
        rcases List.mem_append.1 he with he | he
        · exact (h2 e he).1
        · rcases List.mem_cons.1 he with rfl | he
          · simp
          · exact (g e he).1
      split
      · have g : ∀ e ∈ [(⟨t + 1, y, 5, (wk1 R t y (arrA R t s)).hd y, 0⟩ : En)], e.w ≠ 3 ∧ e.w ≠ 4 := fun e he => by simp at he; subst he; simp
        exact ⟨l ++ (⟨t, y, 4, ((arrA R t s).ja y).p, (arrA R t s).hd y⟩ :: [⟨t + 1, y, 5, (wk1 R t y (arrA R t s)).hd y, 0⟩]), by unfold fin1; unfold wk1; simp only []; rw [h1]; simp, .inr ⟨hg, key _ g, .inr ⟨l, _, _, rfl, rfl, rfl, fun e he => (h2 e he).2, fun e he => (g e he).2⟩⟩⟩
      · split
        · have g : ∀ e ∈ [(⟨t + 1, y, 6, (arrA R t s).hd y, 0⟩ : En)], e.w ≠ 3 ∧ e.w ≠ 4 := fun e he => by simp at he; subst he; simp
          exact ⟨l ++ (⟨t, y, 4, ((arrA R t s).ja y).p, (arrA R t s).hd y⟩ :: [⟨t + 1, y, 6, (arrA R t s).hd y, 0⟩]), by unfold wk2; simp only []; rw [h1]; simp, .inr ⟨hg, key _ g, .inr ⟨l, _, _, rfl, rfl, rfl, fun e he => (h2 e he).2, fun e he => (g e he).2⟩⟩⟩
        · exact ⟨l ++ (⟨t, y, 4, ((arrA R t s).ja y).p, (arrA R t s).hd y⟩ :: []), by unfold wk1; simp only []; rw [h1]; simp, .inr ⟨hg, key _ (fun e he => by simp at he), .inr ⟨l, _, _, rfl, rfl, rfl, fun e he => (h2 e he).2, fun e he => by simp at he⟩⟩⟩
    · rw [if_neg hc]
      exact ⟨l, h1, .inr ⟨hg, fun e he => (h2 e he).1, .inl (fun e he => (h2 e he).2)⟩⟩
theorem cnt3 (R : Rn) : ∀ k : Nat, cntE (isW 3) (plM R k).o = gcN R k
  | 0 => rfl
  | k + 1 => by
    obtain ⟨l, h1, h2⟩ := tick_new R k (plM R k)
    rw [plM, h1, cntE_app, cnt3 R k, gcN]
    rcases h2 with ⟨hg, l1, rfl, h3⟩ | ⟨hg, h3, _⟩
    · rw [if_pos hg, cntE_app, cntE_none _ l1 (fun e he => by unfold isW; exact decide_eq_false (h3 e he).1)]
      rfl
    · rw [if_neg hg, cntE_none _ l (fun e he => by unfold isW; exact decide_eq_false (h3 e he))]
/-- idle ticks -/
def idleN (R : Rn) (t : Nat) : Int := t - cntE isBusy (plM R t).o
theorem all_ticks {R : Rn} (hr : RnOk R) (t : Nat) : idleN R t + sumI (wkRow R.L.length (plM R t).o) + gcN R t = t := by
  obtain ⟨_, _, h⟩ := plM_ei hr t
  have h1 := wkRow_sum (n := R.L.length) (plM R t).o [] (fun e he hw => by obtain ⟨i, _, _, hi, _, _, hl, _⟩ := h.ok4 e he hw; exact ⟨i, hi, hl⟩)
  rw [List.nil_append, wkRow_nil, sumI_zeros] at h1
  have h2 := cntE_or (p := isW 3) (q := isW 4) (r := isBusy) (plM R t).o (fun e _ => by unfold isW isBusy; simp; omega)
  unfold idleN
  rw [h1, h2, cnt3]; omega
/-- the longest pause, as the program takes it from the entries -/
abbrev PZ := Int × Int × Int
def pzS (s : PZ) (e : En) : PZ := if e.w = 3 then (max s.1 ((if e.m = s.2.2 + 1 then s.2.1 else 0) + 1), (if e.m = s.2.2 + 1 then s.2.1 else 0) + 1, e.m) else s
def pzF (o : List En) : PZ := o.foldl pzS (0, 0, -1)
theorem pz_skip : ∀ (l : List En) (s : PZ), (∀ e ∈ l, e.w ≠ 3) → l.foldl pzS s = s
  | [], _, _ => rfl
  | e :: l, s, h => by
    rw [List.foldl_cons]
    have : pzS s e = s := by unfold pzS; rw [if_neg (h e (by simp))]
    rw [this]
    exact pz_skip l s (fun x hx => h x (by simp [hx]))
/-- as the reference counts -/
def pzR (R : Rn) : Nat → Int × Int
  | 0 => (0, 0)
  | t + 1 => if (t : Int) % R.fr < R.sl then (max (pzR R t).1 ((pzR R t).2 + 1), (pzR R t).2 + 1) else (max (pzR R t).1 0, 0)
theorem pzR_pos (R : Rn) : ∀ t, 0 ≤ (pzR R t).1 ∧ 0 ≤ (pzR R t).2
  | 0 => by simp [pzR]
  | t + 1 => by
    have := pzR_pos R t
    rw [pzR]
    split <;> simp only [] <;> omega
theorem pz_same (R : Rn) : ∀ t : Nat, (pzF (plM R t).o).1 = (pzR R t).1 ∧ (pzF (plM R t).o).2.2 < t ∧ (if (pzF (plM R t).o).2.2 + 1 = t then (pzF (plM R t).o).2.1 = (pzR R t).2 else (pzR R t).2 = 0)
  | 0 => by
    have : pzF (plM R 0).o = (0, 0, -1) := rfl
    rw [this]
    simp [pzR]
  | t + 1 => by
    obtain ⟨h1, h2, h3⟩ := pz_same R t
    obtain ⟨l, e1, e2⟩ := tick_new R t (plM R t)
    have hz := pzR_pos R t
    have e0 : pzF (plM R (t + 1)).o = l.foldl pzS (pzF (plM R t).o) := by rw [plM, e1]; unfold pzF; rw [List.foldl_append]
    rw [e0, pzR]
    obtain ⟨s, hs⟩ : ∃ s, pzF (plM R t).o = s := ⟨_, rfl⟩
    rw [hs] at h1 h2 h3 ⊢
    obtain ⟨m, n, la⟩ := s
    simp only [] at h1 h2 h3
    rcases e2 with ⟨hg, l1, rfl, g⟩ | ⟨hg, g, _⟩
    · rw [if_pos hg, List.foldl_append, pz_skip l1 _ (fun e he => (g e he).1)]
      have : List.foldl pzS (m, n, la) [⟨t, -1, 3, 0, 0⟩] = (max m ((if (t : Int) = la + 1 then n else 0) + 1), (if (t : Int) = la + 1 then n else 0) + 1, (t : Int)) := rfl
      rw [this]
      have en : (if (t : Int) = la + 1 then n else 0) = (pzR R t).2 := by
        by_cases q : la + 1 = (t : Int)
        · rw [if_pos q] at h3; rw [if_pos q.symm, h3]
        · rw [if_neg q] at h3; rw [if_neg (fun x => q x.symm), h3]
      rw [en]
      refine ⟨by simp only []; rw [h1], by simp only []; omega, ?_⟩
      simp only []
      rw [if_pos (by omega)]
      trivial
    · rw [if_neg hg, pz_skip l _ g]
      refine ⟨by simp only []; omega, by simp only []; omega, ?_⟩
      simp only []
      rw [if_neg (by omega)]
      trivial
theorem pzR_le {R : Rn} (hf : 1 ≤ R.fr) (hs : 0 ≤ R.sl ∧ R.sl < R.fr) : ∀ t : Nat, (pzR R t).1 ≤ R.sl ∧ (pzR R t).2 ≤ (t : Int) % R.fr
  | 0 => by simp [pzR]; omega
  | t + 1 => by
    obtain ⟨h1, h2⟩ := pzR_le hf hs t
    have hz := pzR_pos R t
    have m0 := Int.emod_nonneg (t : Int) (show R.fr ≠ 0 by omega)
    have m1 := Int.emod_nonneg ((t + 1 : Nat) : Int) (show R.fr ≠ 0 by omega)
    rw [pzR]
    split
    · rename_i hg
      have e : ((t + 1 : Nat) : Int) % R.fr = (t : Int) % R.fr + 1 := by
        rw [show ((t + 1 : Nat) : Int) = (t : Int) + 1 by omega, Int.add_emod, Int.emod_eq_of_lt (a := 1) (by omega) (by omega), Int.emod_eq_of_lt (by omega) (by omega)]
      rw [e]
      simp only []; omega
    · simp only []; omega
/-- how often a job was preempted: so far, the last entry of work -/
abbrev PS := Int × En
def preS (X : Nat → List Int) (s : PS) (e : En) : PS :=
  if e.w = 4 then (if 0 ≤ s.2.k ∧ (s.2.k ≠ e.k ∨ s.2.b ≠ e.b) ∧ ((((X s.2.k.toNat)[s.2.b.toNat]?).getD 0) < 0 ∨ e.m < (((X s.2.k.toNat)[s.2.b.toNat]?).getD 0)) then s.1 + 1 else s.1, e) else s
def preF (X : Nat → List Int) (o : List En) : PS := o.foldl (preS X) (0, ⟨0, -1, 0, 0, 0⟩)
theorem preS_bd (X : Nat → List Int) : ∀ (o : List En) (s : PS), s.1 ≤ (o.foldl (preS X) s).1 ∧ (o.foldl (preS X) s).1 ≤ s.1 + o.length
  | [], s => by simp
  | e :: o, s => by
    have h := preS_bd X o (preS X s e)
    have : s.1 ≤ (preS X s e).1 ∧ (preS X s e).1 ≤ s.1 + 1 := by
      unfold preS
      split
      · simp only []
        split <;> omega
      · omega
    rw [List.foldl_cons, List.length_cons]; omega
/-- work behind one while its job is there: b tells who is behind -/
def blkE (b : Int → Bool) (f e : Int) (x : En) : Bool := decide (x.w = 4) && (decide (f ≤ x.m) && ((decide (e < 0) || decide (x.m < e)) && b x.k))
end Go.Proofs.Ytmahagcghpoekaa
namespace Go.Proofs.Ytmahagcghpoekaa
open Go.RowKit
theorem Rd.next2 {w a n} {xs : List P2} (h : Rd w a n 2 (xs.map enc2)) (k : Nat) (hk : k < n) : ∃ (x : P2) (b off : Nat), a = some ⟨b, off, none⟩ ∧ b < w.heap.size ∧ w.cell? ⟨b, off + k * 2, none⟩ = some (.int .i64 x.1) ∧ w.cell? ⟨b, off + k * 2 + 1, none⟩ = some (.int .i64 x.2) ∧ Hid (xs.drop k = x :: xs.drop (k + 1)) := by
  obtain ⟨hx, b, off, e, hb, h1, h2⟩ := h.two k hk
  exact ⟨xs[k], b, off, e, hb, h1, h2, List.drop_eq_getElem_cons hx⟩
theorem Rd.next1 {w a n} {xs : List Int} (h : Rd w a n 1 (xs.map enc1)) (k : Nat) (hk : k < n) : ∃ (x : Int) (b off : Nat), a = some ⟨b, off, none⟩ ∧ b < w.heap.size ∧ w.cell? ⟨b, off + k, none⟩ = some (.int .i64 x) ∧ Hid (xs.drop k = x :: xs.drop (k + 1)) := by
  obtain ⟨hx, b, off, e, hb, h1⟩ := h.one k hk
  exact ⟨xs[k], b, off, e, hb, h1, List.drop_eq_getElem_cons hx⟩
theorem Rd.nextV {w a n} {α : Type} {val : α → Value} {xs : List α} (h : Rd w a n 1 (xs.map fun x => [val x])) (k : Nat) (hk : k < n) : ∃ (x : α) (b off : Nat), a = some ⟨b, off, none⟩ ∧ b < w.heap.size ∧ w.cell? ⟨b, off + k, none⟩ = some (val x) ∧ Hid (xs.drop k = x :: xs.drop (k + 1)) := by
  have hl : k < xs.length := by have := h.len; simp at this; omega
  obtain ⟨b, off, rfl, hlt, hc⟩ := h.at_ (by omega)
  have h0 := hc k (by simpa using hl) 0 (by omega)
  simp at h0
  exact ⟨xs[k], b, off, rfl, hlt, h0, List.drop_eq_getElem_cons hl⟩
theorem later_rd {w w1 : World} {x : After w1} {a n k xs} (h : Rd w a n k xs) (hb : Below w.heap.size w w1) : Rd (World.later w1 x) a n k xs := (h.ext hb).ext x.below
theorem drop_end {α : Type} {xs : List α} {n k : Nat} (h : xs.length = n) (hk : n ≤ k) : xs.drop k = [] := List.drop_of_length_le (by omega)
/-- append(out, l...): whatever l, nil too -/
theorem wpList_pushAll {P : Program} {ops : Array Oper} {rest : List Oper} {o : Oper} {a : Act} {Q : Exit → Act → World → Prop} {w : World} (hgd : o.guard = none) (s x : Operand) (t : TypeId)
    (ho : o.op = .call { callee := .builtin .append, args := #[s, x], argTypes := #[t, t] }) {e k bytes B n m c : Nat} (E : Elt P t e k bytes) {v : Value} {xs : List Value} {l : Option Addr} {α : Type} {enc : α → List Value} {ys : List α}
    (he : ∀ y, (enc y).length = k) (h1 : ∀ y, ∀ u ∈ enc y, u.oneCell' = true)
    (hs : a.eval s = v) (hown : w.ownsRow B e k v n xs) (hx : a.eval x = .slice l m c) (hR : Rd w l m k (ys.map enc)) (hnil : m = 0 → (l = none ∧ c = 0) ∨ ∃ ad, l = some ad)
    (hn : n + m ≤ 100000000) (hby : bytes ≤ 1000) (hB : B ≤ w.heap.size)
    (h : ∀ v' w', w'.ownsRow B e k v' (n + m) (xs ++ ys.flatMap enc) → (∃ a' c', v' = .slice a' (n + m) c') → Below B w w' → wpList P ops Q rest (a.put o.dst v') w') :
    wpList P ops Q (o :: rest) a w := by
  obtain ⟨i, z, h2, h3, h4, h5, h6⟩ := E.hi
  have hlen : ys.length = m := hR.length
  have fin : ∀ v' w', w'.ownsRow B e k v' (n + m) (xs ++ ys.flatMap enc) → w.grownBy w' v.ownBlock → wpList P ops Q rest (a.put o.dst v') w' := by
    intro v' w' hown' hg
    have hb : Below B w w' := (Below.refl B w).grown hg hB (fun j hj => (hown.lt j hj).1)
    refine h v' w' hown' ?_ hb
    rcases hown'.2 with ⟨rfl, h8⟩ | ⟨g, cap, cur, rfl, h9⟩
    · exact ⟨none, 0, by rw [h8]⟩
    · exact ⟨_, _, rfl⟩
  have go : ∀ ad, l = some ad → wpList P ops Q (o :: rest) a w := by
    rintro ad rfl
    refine wpList_append_own w hgd s x t ho B e i z k bytes E.ht h2 h3 h4 h5 h6 E.hk v n xs hs hown ad m c (ys.flatMap enc) hx (by rw [flat_len he, hlen]) ?_ ?_ (by unfold maxLen; omega) ?_ hB (fun v' w' q1 q2 _ => fin v' w' q1 q2)
    · intro j u hj
      have hj' : j < m * k := by
        have := (List.getElem?_eq_some_iff.1 hj).1
        rwa [flat_len he, hlen] at this
      have hk := E.hk
      have hm0 : 0 < m := by
        rcases Nat.eq_zero_or_pos m with h0 | h0
        · rw [h0] at hj'; omega
        · exact h0
      obtain ⟨b, off, e0, hb, hc⟩ := hR.at_ hm0
      obtain rfl : ad = ⟨b, off, none⟩ := by simpa using e0
      have hq : j / k < ys.length := by rw [hlen]; exact (Nat.div_lt_iff_lt_mul hk).2 hj'
      have hr := Nat.mod_lt j hk
      have hjj : j / k * k + j % k = j := by rw [Nat.mul_comm]; exact Nat.div_add_mod j k
      have g1 := hc (j / k) (by simpa using hq) (j % k) hr
      have g2 := flat_get he ys (j / k) (j % k) hq hr
      rw [hjj, hj] at g2
      have e : (⟨b, off, none⟩ : Addr).add j = ⟨b, off + j, none⟩ := by unfold Addr.add; split <;> simp_all
      rw [e]
      rw [show off + j / k * k + j % k = off + j by omega] at g1
      rw [g1, g2]; simp
    · intro u hu
      obtain ⟨y, _, hy⟩ := List.mem_flatMap.1 hu
      exact h1 y u hy
    · have : (n + m) * bytes ≤ 100000000 * 1000 := Nat.mul_le_mul hn hby
      omega
  by_cases h0 : m = 0
  · rcases hnil h0 with ⟨rfl, rfl⟩ | ⟨ad, hl⟩
    · subst h0
      obtain rfl : ys = [] := List.length_eq_zero_iff.1 hlen
      refine wpList_append_own_none hgd s x t ho B e i k E.ht h2 v n xs hs hown hx (h v w (by simpa using hown) ?_ (Below.refl B w))
      rcases hown.2 with ⟨rfl, h8⟩ | ⟨g, cap, cur, rfl, h9⟩
      · exact ⟨none, 0, by rw [h8]⟩
      · exact ⟨_, _, rfl⟩
    · exact go ad hl
  · obtain ⟨b, off, e0, _⟩ := hR.at_ (by omega)
    exact go _ e0
/-- make([]T, 0, n) -/
theorem wpList_mk0 {P : Program} {ops : Array Oper} {rest : List Oper} {o : Oper} {a : Act} {Q : Exit → Act → World → Prop} {w : World} (hg : o.guard = none) (l c : Operand) (t : TypeId) (hop : o.op = Op.makeSlice t l c)
    {e k bytes B : Nat} (E : Elt P t e k bytes) {kl kc : IntKind} {C : Int} (n : Nat) (hl : a.eval l = .int kl 0) (hc : a.eval c = .int kc C) (hC : C = (n : Int)) (hn : n ≤ 100000000) (hby : bytes ≤ 1000) (hB : B ≤ w.heap.size)
    (hK : ∀ w', w'.ownsRow B e k (.slice (some ⟨w.heap.size, 0, none⟩) 0 n) 0 [] → Below B w w' → wpList P ops Q rest (a.put o.dst (.slice (some ⟨w.heap.size, 0, none⟩) 0 n)) w') : wpList P ops Q (o :: rest) a w := by
  obtain ⟨i, z, h2, h3, h4, h5, h6⟩ := E.hi
  refine wpList_make_own w hg l c t hop B e i z k E.ht h2 h3 h4 kl kc C n hl hc hC ?_ (by unfold maxLen; omega) hB fun w' q1 q2 => hK w' q1 ((Below.refl B w).grown q2 hB (by simp))
  have : i.bytes * n ≤ 1000 * 100000000 := Nat.mul_le_mul (by omega) hn
  omega
end Go.Proofs.Ytmahagcghpoekaa
namespace Go.Proofs.Ytmahagcghpoekaa
open Go.RowKit
set_option linter.unusedSimpArgs false
set_option linter.unusedVariables false
def idxGo {α : Type} (p : α → Bool) : Nat → List α → Int
  | _, [] => -1
  | k, x :: xs => if p x then k else idxGo p (k + 1) xs
theorem idxGo_any {α : Type} (p : α → Bool) : ∀ (xs : List α) (k : Nat), decide (0 ≤ idxGo p k xs) = xs.any p
  | [], k => by simp [idxGo]
  | x :: xs, k => by
    have := idxGo_any p xs (k + 1)
    cases h : p x
    · simp [idxGo, h, this]
    · simp [idxGo, h]
/-- what is asked of a predicate handed over as a function value: it can be called, and at every element of the list, in every later world, it gives p -/
structure PredIn (g : Nat) (lb : Array Value) {α : Type} (val : α → Value) (p : α → Bool) (xs : List α) (w : World) : Prop where
  eg : ∀ args w, (callFunc g args).run Try.prog w = .ok (.enter g args) w
  gives : ∀ (x : α), x ∈ xs → ∀ (w' : World), Below w.heap.size w w' → Calls Try.prog g (#[val x] ++ lb) w' fun e w'' => e = .returned (.bool (p x)) ∧ Below w'.heap.size w' w''
theorem Rd.nextK {w a n k} {α : Type} {enc : α → List Value} {xs : List α} (h : Rd w a n k (xs.map enc)) (i : Nat) (hi : i < n) : ∃ (x : α) (b off : Nat), a = some ⟨b, off, none⟩ ∧ b < w.heap.size ∧ (∀ j, j < k → w.cell? ⟨b, off + i * k + j, none⟩ = (enc x)[j]?) ∧ x ∈ xs ∧ xs[i]? = some x ∧ Hid (xs.drop i = x :: xs.drop (i + 1)) := by
  have hl : i < xs.length := by rw [h.length]; exact hi
  obtain ⟨b, off, rfl, hlt, hc⟩ := h.at_ (by omega)
  refine ⟨xs[i], b, off, rfl, hlt, fun j hj => ?_, List.getElem_mem hl, by simp, List.drop_eq_getElem_cons hl⟩
  have := hc i (by simpa using hl) j hj
  simpa using this
end Go.Proofs.Ytmahagcghpoekaa
namespace Go.Proofs.Ytmahagcghpoekaa
open Go.RowKit
set_option linter.unusedSimpArgs false
set_option linter.unusedVariables false
/-- the cells that are appended -/
def News (w : World) (l : Option Addr) (m c : Nat) (news : List Value) : Prop := (l = none ∧ m = 0 ∧ c = 0) ∨ ∃ ad, l = some ad ∧ ∀ j u, news[j]? = some u → w.cell? (ad.add j) = some u
theorem News.rd {w : World} {l : Option Addr} {m c k : Nat} {α : Type} {enc : α → List Value} {ys : List α} (he : ∀ y, (enc y).length = k) (hk : 0 < k) (hR : Rd w l m k (ys.map enc)) (hnil : m = 0 → (l = none ∧ c = 0) ∨ ∃ ad, l = some ad) : News w l m c (ys.flatMap enc) := by
  have hlen : ys.length = m := hR.length
  have go : ∀ ad, l = some ad → News w l m c (ys.flatMap enc) := by
    rintro ad rfl
    refine .inr ⟨ad, rfl, fun j u hj => ?_⟩
    have hj' : j < m * k := by
      have := (List.getElem?_eq_some_iff.1 hj).1
      rwa [flat_len he, hlen] at this
    have hm0 : 0 < m := by
      rcases Nat.eq_zero_or_pos m with h0 | h0
      · rw [h0] at hj'; omega
      · exact h0
    obtain ⟨b, off, e0, hb, hc⟩ := hR.at_ hm0
    obtain rfl : ad = ⟨b, off, none⟩ := by simpa using e0
    have hq : j / k < ys.length := by rw [hlen]; exact (Nat.div_lt_iff_lt_mul hk).2 hj'
    have hr := Nat.mod_lt j hk
    have hjj : j / k * k + j % k = j := by rw [Nat.mul_comm]; exact Nat.div_add_mod j k
    have g1 := hc (j / k) (by simpa using hq) (j % k) hr
    have g2 := flat_get he ys (j / k) (j % k) hq hr
    rw [hjj, hj] at g2
    have e : (⟨b, off, none⟩ : Addr).add j = ⟨b, off + j, none⟩ := by unfold Addr.add; split <;> simp_all
    rw [e]
    rw [show off + j / k * k + j % k = off + j by omega] at g1
    rw [g1, g2]; simp
  by_cases h0 : m = 0
  · rcases hnil h0 with ⟨rfl, rfl⟩ | ⟨ad, hl⟩
    · exact .inl ⟨rfl, h0, rfl⟩
    · exact go ad hl
  · obtain ⟨b, off, e0, _⟩ := hR.at_ (by omega)
    exact go _ e0
theorem run_app {P : Program} {w : World} {t ty e k bytes B n m c : Nat} (E : Elt P t e k bytes) {v : Value} {xs news : List Value} {l : Option Addr} (hown : w.ownsRow B e k v n xs)
    (hl : news.length = m * k) (hnews : News w l m c news) (h1 : ∀ u ∈ news, u.oneCell' = true) (hn : n + m ≤ 100000000) (hby : bytes ≤ 1000) (hB : B ≤ w.heap.size) :
    ∃ v' w', (Builtin.append_ #[t, t] ty #[v, .slice l m c]).run P w = .ok v' w' ∧ w'.ownsRow B e k v' (n + m) (xs ++ news) ∧ w.grownBy w' v.ownBlock ∧ (∃ a' c', v' = .slice a' (n + m) c') := by
  obtain ⟨i, z, h2, h3, h4, h5, h6⟩ := E.hi
  rcases hnews with ⟨rfl, rfl, rfl⟩ | ⟨ad, rfl, hc⟩
  · obtain rfl : news = [] := by simpa using hl
    refine ⟨v, w, run_append_owned_none (P := P) (w := w) B t ty e i k E.ht h2 v n xs hown, by simpa using hown, World.grownBy.refl _ _, ?_⟩
    rcases hown.2 with ⟨rfl, h8⟩ | ⟨g, cap, cur, rfl, h9⟩
    · exact ⟨none, 0, by rw [h8]⟩
    · exact ⟨_, _, rfl⟩
  · obtain ⟨v', w', hr, q1, q2, _, _⟩ := run_append_own_at (P := P) w B t ty e i z k bytes E.ht h2 h3 h4 h5 h6 E.hk v n xs hown ad m c news hl hc h1 (by unfold maxLen; omega) (by have : (n + m) * bytes ≤ 100000000 * 1000 := Nat.mul_le_mul hn hby; omega) hB
    refine ⟨v', w', hr, q1, q2, ?_⟩
    rcases q1.2 with ⟨rfl, h8⟩ | ⟨g, cap, cur, rfl, h9⟩
    · exact ⟨none, 0, by rw [h8]⟩
    · exact ⟨_, _, rfl⟩
theorem step_app {P : Program} {ops : Array Oper} {o : Oper} {a : Act} {w : World} {K : Act → World → Prop} {Q : Exit → Act → World → Prop} {EE : Prop} (hgd : o.guard = none) (s x : Operand) (t : TypeId)
    (ho : o.op = .call { callee := .builtin .append, args := #[s, x], argTypes := #[t, t] }) {e k bytes B n m c : Nat} (E : Elt P t e k bytes) {v : Value} {xs news : List Value} {l : Option Addr}
    (hs : a.eval s = v) (hown : w.ownsRow B e k v n xs) (hx : a.eval x = .slice l m c) (hl : news.length = m * k) (hnews : News w l m c news) (h1 : ∀ u ∈ news, u.oneCell' = true) (hn : n + m ≤ 100000000) (hby : bytes ≤ 1000) (hB : B ≤ w.heap.size)
    (h : ∀ a' c' w', w'.ownsRow B e k (.slice a' (n + m) c') (n + m) (xs ++ news) → w.grownBy w' v.ownBlock → K (a.put o.dst (.slice a' (n + m) c')) w') :
    if Region.wanted o (yielded ops a.tmps) = true then Oper.wp P o a w K Q else EE := by
  have hw : Region.wanted o (yielded ops a.tmps) = true := by simp [Region.wanted, hgd]
  rw [if_pos hw]
  obtain ⟨v', w', hr, q1, q2, a', c', rfl⟩ := run_app (P := P) (ty := o.type) E hown hl hnews h1 hn hby hB
  unfold Oper.wp execOp
  simp only [ho, resolve, invoke, builtin, Sem.run_bind, Sem.run_pure, Result.andThen_ok, List.map_toArray, List.map_cons, List.map_nil, hs, hx, hr]
  exact h _ _ w' q1 q2
theorem grown_below {w w' : World} {B : Nat} {v : Value} {e k n : Nat} {xs : List Value} (hown : w.ownsRow B e k v n xs) (hg : w.grownBy w' v.ownBlock) (hB : B ≤ w.heap.size) : Below B w w' := (Below.refl B w).grown hg hB (fun j hj => (hown.lt j hj).1)
/-- rows of another type stay -/
theorem owns_kept {w w' : World} {B B' e e' k k' n n' : Nat} {v v' : Value} {xs xs' : List Value} (h : w.ownsRow B e k v n xs) (hown : w.ownsRow B' e' k' v' n' xs') (hne : e ≠ e') (hg : w.grownBy w' v'.ownBlock) : w'.ownsRow B e k v n xs := by
  refine h.kept hg ?_
  rcases h.2 with ⟨rfl, _⟩ | ⟨g, cap, cur, rfl, _, hh, _⟩
  · exact .inl rfl
  · right
    rcases hown.2 with ⟨rfl, _⟩ | ⟨g', cap', cur', rfl, _, hh', _⟩
    · simp [Value.ownBlock]
    · simp only [Value.ownBlock, ne_eq, Option.some.injEq]
      rintro rfl
      rw [hh] at hh'
      simp at hh'
      exact hne hh'.2
end Go.Proofs.Ytmahagcghpoekaa
namespace Go.Proofs.Ytmahagcghpoekaa
open Go.RowKit
set_option linter.unusedSimpArgs false
set_option linter.unusedVariables false
theorem E1 : Elt Try.prog 29 3 1 8 := Elt.mk' (z := .int .i64 0) Try.underlying29 (by kernel_rfl) rfl (by decide)
theorem enc1_len (x : Int) : (enc1 x).length = 1 := rfl
theorem enc1_one (x : Int) : ∀ u ∈ enc1 x, u.oneCell' = true := by intro u hu; simp [enc1] at hu; rcases hu with rfl; rfl
def lenOf : Value → Nat
  | .slice _ n _ => n
  | _ => 0
def OutI (B : Nat) (w : World) (xs : List Int) (e : Ending) (w' : World) : Prop :=
  ∃ a n c, e = .returned (.slice a n c) ∧ w'.ownsRow B 3 1 (.slice a n c) n (xs.flatMap enc1) ∧ Below B w w'
theorem ownsI_rd {B : Nat} {w : World} {xs : List Int} {a : Option Addr} {n c : Nat} (h : w.ownsRow B 3 1 (.slice a n c) n (xs.flatMap enc1)) : Rd w a n 1 (xs.map enc1) := Rd.of_owns enc1_len (by decide) h
theorem ownsI_snoc {B : Nat} {w : World} {xs : List Int} {x : Int} {v : Value} {n : Nat} (h : w.ownsRow B 3 1 v n (xs.flatMap enc1 ++ [.int .i64 x])) : w.ownsRow B 3 1 v n ((xs ++ [x]).flatMap enc1) := by
  rw [List.flatMap_append]; exact h
/-- a list made by the call, and an error number -/
def OutIE (B : Nat) (w : World) (xs : List Int) (er : Int) (e : Ending) (w' : World) : Prop :=
  ∃ a n c, e = .returned (.tuple #[.slice a n c, .int .i64 er]) ∧ w'.ownsRow B 3 1 (.slice a n c) n (xs.flatMap enc1) ∧ Below B w w'
theorem OutIE.none {B : Nat} {w w' : World} {er : Int} (hb : Below B w w') : OutIE B w [] er (.returned (.tuple #[.slice none 0 0, .int .i64 er])) w' := ⟨_, _, _, rfl, World.ownsRow_nil _ _ _ _, hb⟩
theorem owns_one (w : World) (x : Value) (T : TypeId) : (w.alloc (.cells #[x] T)).ownsRow w.heap.size T 1 (.slice (some ⟨w.heap.size, 0, none⟩) 1 1) 1 [x] :=
  ⟨rfl, .inr ⟨w.heap.size, 1, #[x], rfl, Nat.le_refl _, by show (w.heap.push _)[w.heap.size]? = _; simp, Nat.le_refl _, by decide, rfl, rfl⟩⟩
theorem owns_nil {w : World} {B e k n c : Nat} {a : Option Addr} {xs : List Value} (h : w.ownsRow B e k (.slice a n c) n xs) : n = 0 → (a = none ∧ c = 0) ∨ ∃ ad, a = some ad := by
  intro _
  rcases h.2 with ⟨hv, _⟩ | ⟨g, cap, cur, hv, _⟩
  · simp at hv; exact .inl ⟨hv.1, hv.2.2⟩
  · simp at hv; exact .inr ⟨_, hv.1⟩
theorem flat_enc1 (xs : List Int) : xs.flatMap enc1 = xs.map (Value.int .i64) := by
  induction xs with
  | nil => rfl
  | cons x xs ih => simp [enc1, ih]
/-- make([]int, n) -/
theorem wpList_mkI {ops : Array Oper} {rest : List Oper} {o : Oper} {a : Act} {Q : Exit → Act → World → Prop} {w : World} (hg : o.guard = none) (l c : Operand) (hop : o.op = Op.makeSlice 29 l c)
    {B : Nat} {kl kc : IntKind} {C D : Int} (n : Nat) (hl : a.eval l = .int kl D) (hc : a.eval c = .int kc C) (hD : D = (n : Int)) (hC : C = (n : Int)) (hn : n ≤ 100000000) (hB : B ≤ w.heap.size)
    (hK : ∀ w', w'.ownsRow B 3 1 (.slice (some ⟨w.heap.size, 0, none⟩) n n) n ((List.replicate n (0 : Int)).flatMap enc1) → Below B w w' → w.heap.size < w'.heap.size → wpList Try.prog ops Q rest (a.put o.dst (.slice (some ⟨w.heap.size, 0, none⟩) n n)) w') : wpList Try.prog ops Q (o :: rest) a w := by
  obtain ⟨i, h1, h2, h3, h4⟩ := info_parts (show (Try.prog.info? 3).map (fun i => (i.zero, i.size, i.bytes)) = some (some (.int .i64 0), 1, 8) by kernel_rfl)
  refine wpList_make_full w hg l c 29 hop B 3 i (.int .i64 0) 1 Try.underlying29 h1 h2 h3 kl kc D C n hl hc hD hC (by rw [h4]; omega) (by unfold maxLen; omega) hB fun w' q1 q2 => hK w' ?_ ((Below.refl B w).grown q2 hB (by simp)) ?_
  · rw [flat_enc1, List.map_replicate]
    have : (madeCells (Value.int IntKind.i64 0).cells (n * 1)).toList = List.replicate n (Value.int .i64 0) := by rw [Nat.mul_one]; exact toList_madeCells_one _ n
    rw [← this]; exact q1
  · rcases q1.2 with ⟨h, _⟩ | ⟨g, cap, cur, h, _, hh, _⟩
    · simp at h
    · simp at h; rw [h.1]; exact (Array.getElem?_eq_some_iff.1 hh).1
theorem ownsI_at {w : World} {B q n c : Nat} {xs : List Int} (h : w.ownsRow B 3 1 (.slice (some ⟨q, 0, none⟩) n c) n (xs.flatMap enc1)) (j : Nat) (hj : j < n) : ∃ x, xs[j]? = some x ∧ w.cell? ⟨q, j, none⟩ = some (.int .i64 x) ∧ w.frozen? ⟨q, j, none⟩ = false ∧ q < w.heap.size := by
  have hl : xs.length = n := (ownsI_rd h).length
  refine ⟨xs[j], by simp, ?_, h.frozenAt j, ?_⟩
  · rw [h.cellAt j (by omega), flat_enc1]; simp
  · rcases h.2 with ⟨h', _⟩ | ⟨g', cap', cur, h', _, hg, _⟩
    · simp at h'
    · simp at h'; rw [h'.1]; exact (Array.getElem?_eq_some_iff.1 hg).1
theorem ownsI_set {w : World} {B q n c : Nat} {xs : List Int} (h : w.ownsRow B 3 1 (.slice (some ⟨q, 0, none⟩) n c) n (xs.flatMap enc1)) (j : Nat) (x : Int) : (w.setCell ⟨q, j, none⟩ (.int .i64 x)).ownsRow B 3 1 (.slice (some ⟨q, 0, none⟩) n c) n ((xs.set j x).flatMap enc1) := by
  have := (h.stored j (.int .i64 x)).1
  rw [flat_enc1] at this ⊢
  rw [List.map_set]; exact this
theorem owns_far {w : World} {B e k n q j : Nat} {v : Value} {xs : List Value} (h : w.ownsRow B e k v n xs) (hq : q < B) (u : Value) : (w.setCell ⟨q, j, none⟩ u).ownsRow B e k v n xs := by
  refine ⟨h.1, h.2.imp id ?_⟩
  rintro ⟨g, cap, cur, hv, hg, hh, r⟩
  refine ⟨g, cap, cur, hv, hg, ?_, r⟩
  rw [heap_setCell_other w ⟨q, j, none⟩ g u (by simp only []; omega)]; exact hh
theorem get_of_drop {α : Type} {l r : List α} {j : Nat} {x : α} (h : l.drop j = x :: r) : l[j]? = some x := by
  have : (l.drop j)[0]? = some x := by rw [h]; rfl
  rw [List.getElem?_drop] at this; exact this
theorem take_of_drop {α : Type} {l r : List α} {j : Nat} {x : α} (h : l.drop j = x :: r) : l.take (j + 1) = l.take j ++ [x] := by
  rw [List.take_add_one, get_of_drop h]; rfl
theorem Rd.idx {w a n} {xs : List Int} (h : Rd w a n 1 (xs.map enc1)) (k : Nat) (hk : k < n) : ∃ (x : Int) (b off : Nat), a = some ⟨b, off, none⟩ ∧ b < w.heap.size ∧ w.cell? ⟨b, off + k, none⟩ = some (.int .i64 x) ∧ xs[k]? = some x := by
  obtain ⟨x, b, off, h1, h2, h3, HD⟩ := h.next1 k hk
  exact ⟨x, b, off, h1, h2, h3, get_of_drop HD.out⟩
def OutN (B n : Nat) (T k : Nat) (w : World) (xs : List Value) (e : Ending) (w' : World) : Prop :=
  ∃ a c, e = .returned (.slice a n c) ∧ w'.ownsRow B T k (.slice a n c) n xs ∧ Below B w w'
theorem owns_addr {w : World} {B e k n c : Nat} {a : Option Addr} {xs : List Value} (h : w.ownsRow B e k (.slice a n c) n xs) (hn : 0 < n) : ∃ g, a = some ⟨g, 0, none⟩ ∧ B ≤ g ∧ g < w.heap.size := by
  rcases h.2 with ⟨_, h8⟩ | ⟨g, cap, cur, hv, hB, hg, _⟩
  · omega
  · simp at hv; exact ⟨g, hv.1, hB, (Array.getElem?_eq_some_iff.1 hg).1⟩
end Go.Proofs.Ytmahagcghpoekaa
namespace Go.Proofs.Ytmahagcghpoekaa
open Go.RowKit
set_option linter.unusedSimpArgs false
set_option linter.unusedVariables false
def mulRen : Go.Shelf.Ren := ⟨fun | 212 => 96 | 263 => 109 | 264 => 110 | n => n, fun | 46 => 140 | 51 => 154 | 53 => 157 | 146 => 155 | 148 => 158 | n => n, fun n => n⟩
theorem mulLay : Go.Proofs.Lays.n212 Try.prog mulRen := {
  mixed := by kernel_rfl
  f212 := Try.func96.trans (congrArg some (by kernel_rfl))
  f263 := Try.func109.trans (congrArg some (by kernel_rfl))
  f264 := Try.func110.trans (congrArg some (by kernel_rfl))
  t46 := Try.underlying140
  a46 := Try.isAgg140
  z46 := Try.sizeOf140
  v46 := Try.zeroValue140
  t51 := Try.underlying154
  a51 := Try.isAgg154
  z51 := Try.sizeOf154
  v51 := Try.zeroValue154
  t53 := Try.underlying157
  a53 := Try.isAgg157
  z53 := Try.sizeOf157
  v53 := Try.zeroValue157
  t146 := Try.underlying155
  a146 := Try.isAgg155
  z146 := Try.sizeOf155
  v146 := Try.zeroValue155
  t148 := Try.underlying158
  a148 := Try.isAgg158
  z148 := Try.sizeOf158
  v148 := Try.zeroValue158 }
theorem mul_one (n : Nat) (w : World) (hn : n ≤ 1000) : Calls Try.prog 96 #[.int .u64 1, .int .u64 n] w fun e w' => e = .returned (.tuple #[.int .u64 0, .int .u64 n]) ∧ w = w' := by
  refine (Go.Proofs.Any.bits_Mul mulLay 1 n (by omega) (by omega) w).mono ?_
  rintro e w' ⟨rfl, rfl⟩
  refine ⟨?_, rfl⟩
  rw [Nat.one_mul, Nat.div_eq_of_lt (by omega), Nat.mod_eq_of_lt (by omega)]; rfl
theorem run_copyI {w : World} {g off dLen dCap : Nat} {ad : Addr} {sLen sCap : Nat} {cur cs : List Value} {t : TypeId} (hg : w.heap[g]? = some (.cells cur.toArray t (0, 0))) (hn : cs.length = Nat.min sLen dLen)
    (hsrc : ∀ j v, cs[j]? = some v → w.cell? (ad.add j) = some v) (hfit : off + cs.length ≤ cur.length) (h1 : ∀ v ∈ cs, v.oneCell' = true) :
    ∃ w', (Builtin.copy_ #[29, 29] 3 #[.slice (some ⟨g, off, none⟩) dLen dCap, .slice (some ad) sLen sCap]).run Try.prog w = .ok (goInt cs.length) w' ∧ w'.heap[g]? = some (.cells (splice cur off cs).toArray t (0, 0)) ∧ (∀ B, B ≤ g → Below B w w') := by
  refine ⟨_, run_copy_row (P := Try.prog) w 29 29 3 3 g off dLen dCap ad sLen sCap cur.toArray t cs Try.underlying29 (by kernel_rfl) hg hn hsrc (by simpa using hfit) h1, ?_, fun B hB => below_setRow (Below.refl B w) hB _⟩
  simpa [splice] using setRow_heap w g _ _ t _ hg
theorem rep_splice (v z : Value) (j m n : Nat) (h : j + m ≤ n) : splice (List.replicate j v ++ List.replicate (n - j) z) j (List.replicate m v) = List.replicate (j + m) v ++ List.replicate (n - (j + m)) z := by
  unfold splice
  rw [List.length_replicate, List.take_append_of_le_length (by simp), List.take_of_length_le (by simp), List.drop_append, List.drop_of_length_le (by simp), List.nil_append, List.length_replicate, List.drop_replicate, ← List.append_assoc, List.replicate_append_replicate]
  congr 2
  omega
theorem rep_get (v z : Value) {j n i : Nat} (h : i < j) : (List.replicate j v ++ List.replicate (n - j) z)[i]? = some v := by
  rw [List.getElem?_append_left (by simpa using h), List.getElem?_replicate, if_pos h]
set_option maxRecDepth 10000 in
set_option maxHeartbeats 2000000 in
theorem repeat_any (b n c : Nat) (w : World) (hn : n ≤ 1000) (hb : w.cell? ⟨b, 0, none⟩ = some (.int .i64 (-1))) :
    Calls Try.prog 67 #[.slice (some ⟨b, 0, none⟩) 1 c, .int .i64 n] w fun e w' => ∃ g : Nat, e = .returned (.slice (some ⟨g, 0, none⟩) n n) ∧ w'.ownsRow w.heap.size 3 1 (.slice (some ⟨g, 0, none⟩) n n) n ((List.replicate n (-1 : Int)).flatMap enc1) ∧ Below w.heap.size w w' := by
  have wu : IntKind.u64.wrap (n : Int) = (n : Int) := by rw [IntKind.wrap_u64]; omega
  have wi : IntKind.i64.wrap (n : Int) = (n : Int) := IntWalk.i64_in _ (by omega)
  have HM := Lib.hid (mul_one n w hn)
  have hbl := World.block_lt_of_cell? w _ hb
  simp only [] at hbl
  have hnn : ¬ (n : Int) < 0 := by omega
  have hnb : ¬ (9223372036854775807 : Int) < (n : Int) := by omega
  go_enter Try.func67, Try.ntmps67
  go_upto_region 7 with (first
    | (go_at_call 96; (with_reducible refine HM.out.mono ?_); rintro e w1 ⟨rfl, rfl⟩)
    | (at_make; refine wpList_mkI rfl _ _ rfl n rfl rfl rfl rfl (by omega) (Nat.le_refl _) ?_; intro w2 hown2 hb2 hz2; have HO2 := Lib.hid hown2; have HB2 := Lib.hid hb2; clear hown2 hb2))
  have hg2 : w2.heap[w.heap.size]? = some (.cells (List.replicate 0 (Value.int .i64 (-1)) ++ List.replicate (n - 0) (Value.int .i64 0)).toArray 3 (0, 0)) := by
    rcases HO2.out.2 with ⟨h, _⟩ | ⟨g, cap, cur, hv, _, hg, _, _, hcs, hct⟩
    · simp at h
    · simp at hv
      obtain ⟨rfl, rfl⟩ := hv
      rw [hg, flat_enc1, List.map_replicate] at *
      have : cur.toList = List.replicate n (Value.int .i64 0) := by
        rw [← hct, List.take_of_length_le (by simp [hcs])]
      have e : cur = (List.replicate n (Value.int .i64 0)).toArray := by rw [← this]
      rw [e]; simp
  have hb2 := (HB2.out.cell (p := ⟨b, 0, none⟩) hbl).trans hb
  have HG2 := Lib.hid hg2; have HCB := Lib.hid hb2
  obtain ⟨m1, hm1⟩ : ∃ x, x = min 1 n := ⟨_, rfl⟩
  obtain ⟨C1, hC1⟩ : ∃ x, x = List.replicate m1 (Value.int .i64 (-1)) := ⟨_, rfl⟩
  have hcl : C1.length = Nat.min 1 n := by rw [hC1, List.length_replicate]; exact hm1
  have HC1 := Lib.hid hC1
  clear hg2 hb2 hC1
  have hfit1 : 0 + C1.length ≤ (List.replicate 0 (Value.int .i64 (-1)) ++ List.replicate (n - 0) (Value.int .i64 0)).length := by
    have e : C1.length = m1 := by rw [hcl]; exact hm1.symm
    rw [e]; simp; omega
  have hone1 : ∀ v ∈ C1, v.oneCell' = true := fun v hv => by rw [HC1.out] at hv; rw [List.eq_of_mem_replicate hv]; rfl
  have hsrc1 : ∀ j v, C1[j]? = some v → w2.cell? ((⟨b, 0, none⟩ : Addr).add j) = some v := fun j v hj => by
    rw [HC1.out, List.getElem?_replicate] at hj
    split at hj
    · have : j = 0 := by omega
      subst this
      simp at hj; subst hj
      exact HCB.out
    · simp at hj
  have hpos1 : 0 < C1.length → some (⟨w.heap.size, 0, none⟩ : Addr) = some ⟨w.heap.size, 0, none⟩ ∧ ∃ ad, some (⟨b, 0, none⟩ : Addr) = some ad ∧ ∀ j v, C1[j]? = some v → w2.cell? (ad.add j) = some v := fun _ => ⟨rfl, _, rfl, hsrc1⟩
  have HPOS := Lib.hid hpos1; have HFIT := Lib.hid hfit1; have HONE := Lib.hid hone1; have HCL := Lib.hid hcl
  clear hpos1 hfit1 hone1 hsrc1 hcl
  go_wp2_with (with_reducible refine wpList_copy_splice rfl (.tmp 31) (.tmp 32) 29 29 rfl 3 Try.underlying29 (by kernel_rfl) (some ⟨w.heap.size, 0, none⟩) (some ⟨b, 0, none⟩) n n 1 c rfl rfl w.heap.size 0 (List.replicate 0 (Value.int .i64 (-1)) ++ List.replicate (n - 0) (Value.int .i64 0)) 3 HG2.out C1 HCL.out HPOS.out HFIT.out HONE.out w.heap.size w HB2.out (Nat.le_refl _) ?_; intro w3 hg3 hb3; have HB3 := Lib.hid hb3; have HG3 := hg3; clear hb3 hg3)
  have hg4 : w3.heap[w.heap.size]? = some (.cells (List.replicate m1 (Value.int .i64 (-1)) ++ List.replicate (n - m1) (Value.int .i64 0)).toArray 3 (0, 0)) := by
    have := HG3.out
    rw [HC1.out, rep_splice _ _ 0 m1 n (by omega), Nat.zero_add] at this
    exact this
  have HG4 := Lib.hid hg4
  rw [show C1.length = m1 by rw [HCL.out]; exact hm1.symm]
  have hm1b : (0 < n → 0 < m1) ∧ m1 ≤ n := by omega
  clear hg4 HG3 HG2 hm1
  go_loopw [8] (fun v wr => ∃ j : Nat, j ≤ n ∧ (0 < n → 0 < j) ∧ v = .int .i64 j ∧ wr.heap[w.heap.size]? = some (.cells (List.replicate j (Value.int .i64 (-1)) ++ List.replicate (n - j) (Value.int .i64 0)).toArray 3 (0, 0)) ∧ Below w.heap.size w wr) (fun v _ => n - (intOf v).toNat)
  case atStart => exact ⟨m1, by omega, by omega, rfl, HG4.out, HB3.out⟩
  case round =>
    obtain ⟨j, hj, hj0, rfl, hg, hB⟩ := hrel
    have HG := Lib.hid hg; have HB := Lib.hid hB
    clear HG4 HB3 hg hB
    by_cases hlt : j < n
    · have hj1 : 0 < j := hj0 (by omega)
      have hs1 : ∀ w', (Instr.slice 29 (.slice (some ⟨w.heap.size, 0, none⟩) n n) (some (.int .i64 (j : Int))) none none).run Try.prog w' = .ok (.slice (some ⟨w.heap.size, j, none⟩) (n - j) (n - j)) w' := fun w' => by
        rw [run_slice_l (P := Try.prog) w' 29 (some ⟨w.heap.size, 0, none⟩) n n (by kernel_rfl) .i64 (j : Int) (by omega) (by omega)]
        rw [show (Go.sizeOf (Try.prog.elem 29)).run Try.prog w' = .ok 1 w' by kernel_rfl]
        have : ¬ n = j := by omega
        have hjz : ¬ j = 0 := by omega
        simp [Result.andThen, sliced, this, hjz, Addr.add]
      have hs2 : ∀ w', (Instr.slice 29 (.slice (some ⟨w.heap.size, 0, none⟩) n n) none (some (.int .i64 (j : Int))) none).run Try.prog w' = .ok (.slice (some ⟨w.heap.size, 0, none⟩) j n) w' := fun w' => by
        have hne : ¬ n = 0 := by omega
        rw [run_slice_h (P := Try.prog) w' 29 (some ⟨w.heap.size, 0, none⟩) n n (by kernel_rfl) .i64 (j : Int) (by omega) (by omega)]
        rw [show (Go.sizeOf (Try.prog.elem 29)).run Try.prog w' = .ok 1 w' by kernel_rfl]
        simp [Result.andThen, sliced, hne, Addr.add]
      obtain ⟨m, hm⟩ : ∃ x, x = min j (n - j) := ⟨_, rfl⟩
      obtain ⟨C, hC⟩ : ∃ x, x = List.replicate m (Value.int .i64 (-1)) := ⟨_, rfl⟩
      have hcl : C.length = Nat.min j (n - j) := by rw [hC, List.length_replicate]; exact hm
      have hcl2 : C.length = m := by rw [hC, List.length_replicate]
      have HC := Lib.hid hC
      have wa : IntKind.i64.wrap ((j : Int) + (m : Int)) = ((j + m : Nat) : Int) := by rw [IntWalk.i64_in _ (by omega)]; omega
      have hfit : j + C.length ≤ (List.replicate j (Value.int .i64 (-1)) ++ List.replicate (n - j) (Value.int .i64 0)).length := by rw [hcl2]; simp; omega
      have hone : ∀ v ∈ C, v.oneCell' = true := fun v hv => by rw [HC.out] at hv; rw [List.eq_of_mem_replicate hv]; rfl
      have hsrc : ∀ (wx : World), wx.heap[w.heap.size]? = some (.cells (List.replicate j (Value.int .i64 (-1)) ++ List.replicate (n - j) (Value.int .i64 0)).toArray 3 (0, 0)) → ∀ i v, C[i]? = some v → wx.cell? ((⟨w.heap.size, 0, none⟩ : Addr).add i) = some v := fun wx hx i v hi => by
        rw [HC.out, List.getElem?_replicate] at hi
        split at hi
        · simp at hi; subst hi
          have hil : i < j := by omega
          have ea : (⟨w.heap.size, 0, none⟩ : Addr).add i = ⟨w.heap.size, i, none⟩ := by
            unfold Addr.add
            split
            · rename_i e; subst e; rfl
            · simp
          rw [ea]
          simp only [World.cell?, hx]
          simp only [Option.isSome_none, Bool.false_eq_true, if_false, List.getElem?_toArray]
          rw [List.getElem?_append_left (by simpa using hil), List.getElem?_replicate, if_pos hil]
        · simp at hi
      have HSRC := Lib.hid hsrc
      have hmb : m ≤ j ∧ m ≤ n - j ∧ 0 < m := by omega
      clear hC hsrc
      obtain ⟨w6, hcp, hg6, hb6⟩ := run_copyI (w := wr.drew) HG.out hcl (HSRC.out _ HG.out) hfit hone
      rw [hcl2] at hcp
      have hcp' : (Builtin.copy_ #[29, 29] 3 #[.slice (some ⟨w.heap.size, j, none⟩) (n - j) (n - j), .slice (some ⟨w.heap.size, 0, none⟩) j n]).run Try.prog wr.drew = .ok (.int .i64 (m : Int)) w6 := hcp
      have HG6 := Lib.hid hg6; have HB6 := Lib.hid (HB.out.trans (((Below.refl w.heap.size wr).drew).trans (hb6 w.heap.size (Nat.le_refl _))))
      clear hg6 hb6 hcp hcl hm
      go_upto_region 9 with fail
      go_region_law fail
      all_goals
        go_simp
        go_roundw
        case rel => exact ⟨.int .i64 ((j : Int) + (m : Int)), _, _, _, _, _, _, _, _, _, _, _, _, _, ⟨j + m, by omega, by omega, by simp, by have := HG6.out; rw [HC.out, rep_splice _ _ j m n (by omega)] at this; exact this, HB6.out⟩, rfl⟩
        case measure => simp [intOf]; omega
    · have hjn : j = n := by omega
      subst hjn
      go_wp2
      go_ret
      refine ⟨w.heap.size, rfl, ⟨by simp [flat_enc1], .inr ⟨w.heap.size, j, _, rfl, Nat.le_refl _, HG.out, Nat.le_refl _, by unfold maxLen; omega, by simp, ?_⟩⟩, HB.out⟩
      rw [flat_enc1, List.map_replicate]
      simp
end Go.Proofs.Ytmahagcghpoekaa
