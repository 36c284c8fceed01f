/- Bounds on a run's machine. No condition: plain lemmas. -/
import Derived.Test.YtlhnhmimhpcoaaaScOrd
namespace Go.Proofs.Ytlhnhmimhpcoaaa
open Go.RowKit
set_option linter.unusedSimpArgs false
set_option linter.unusedVariables false
theorem QR.endA {R : Rn} {t : Int} (hr : RnOk R) : ∀ (f i : Nat) {s : Ms} {at_ : List Nat}, MOk R s → QR R t s at_ → i + f = R.L.length → ∃ at', QR R t (endA R.L t f i s) at'
  | 0, _, s, at_, _, h, _ => ⟨at_, h⟩
  | f + 1, i, s, at_, hm, h, e => by
    rw [Go.Proofs.Ytlhnhmimhpcoaaa.endA]
    unfold Go.Proofs.Ytlhnhmimhpcoaaa.endS
    split
    · rename_i hc
      have hi : i < at_.length := by rw [h.len]; omega
      exact QR.endA hr f (i + 1) (hm.fin hr t 1 (by omega)) (h.fin hm (List.getElem?_eq_getElem hi) hc.1 t 1) (by omega)
    · exact QR.endA hr f (i + 1) hm h (by omega)
theorem sigA_q (t : Int) : ∀ (gs : List P2) (s : Ms), (sigA t gs s).q = s.q
  | [], s => rfl
  | g :: gs, s => by rw [sigA, sigA_q t gs, sigS_spec.1]
theorem QR.arrA {R : Rn} {t : Int} {s : Ms} {at_ : List Nat} (hr : RnOk R) (hm : MOk R s) (h : QR R (t - 1) s at_) : ∃ at', QR R t (arrA R t s) at' :=
  QR.endA hr _ _ (MOk.sigA t _ (hm.relA hr t) hr.sg) ((h.rel hr hm).of (sigA_q _ _ _)) (by omega)
theorem QR.wkA {R : Rn} {t u : Int} {s : Ms} {at_ : List Nat} {i : Nat} (hm : MOk R s) (h : QR R t s at_) (hi : i < R.L.length) (hq : s.qa i ≠ []) : ∃ at', QR R t (wkA R u i s) at' := by
  unfold Go.Proofs.Ytlhnhmimhpcoaaa.wkA
  split
  · have hil : i < at_.length := by rw [h.len]; exact hi
    have := h.fin hm (List.getElem?_eq_getElem hil) hq (u + 1) 0
    exact ⟨_, this.of rfl⟩
  · split
    · exact ⟨at_, h.of rfl⟩
    · exact ⟨at_, h.of rfl⟩
theorem QR.tckB {R : Rn} {t : Int} {s : Ms} {at_ : List Nat} (hr : RnOk R) (hm : MOk R s) (h : QR R t s at_) : ∃ at', QR R t (tckB R t s) at' := by
  unfold Go.Proofs.Ytlhnhmimhpcoaaa.tckB
  split
  · exact ⟨at_, h.of rfl⟩
  · split
    · rename_i hc
      obtain ⟨h1, h2, h3, h4⟩ := chM_spec R.L s
      exact h.wkA hm (by omega) (h4 hc)
    · exact ⟨at_, h⟩
theorem plM_qr {R : Rn} (hr : RnOk R) : ∀ k : Nat, ∃ at_, QR R ((k : Int) - 1) (plM R k) at_
  | 0 => ⟨List.replicate R.L.length 0, ⟨by simp, fun i a ha => by
    have hq : (plM R 0).qa i = [] := by
      unfold plM ms0 Ms.qa; simp only [List.getElem?_replicate]; split <;> rfl
    have h0 : a = 0 := by
      rw [List.getElem?_replicate] at ha
      split at ha
      · simpa using ha.symm
      · simp at ha
    subst h0
    have : outE (evA R i) (((0 : Nat) : Int) - 1) = [] := by
      refine outE_none (fun e he => ?_) (by omega)
      unfold evA at he
      cases hev : R.ev[i]? with
      | none => rw [hev] at he; simp at he
      | some l =>
        rw [hev] at he
        have := (hr.el l (List.mem_of_getElem? hev)).2 e he
        omega
    rw [hq, this]; exact ⟨rfl, Nat.le_refl _⟩⟩⟩
  | k + 1 => by
    obtain ⟨at_, h⟩ := plM_qr hr k
    have hm := plM_ok hr k
    obtain ⟨a1, h1⟩ := h.arrA hr hm
    obtain ⟨a2, h2⟩ := h1.tckB hr (hm.arrA hr _)
    refine ⟨a2, ?_⟩
    rw [show (((k + 1 : Nat) : Int) - 1) = (k : Int) by omega]
    exact h2
theorem QR.small {R : Rn} {t : Int} {s : Ms} {at_ : List Nat} (hr : RnOk R) (hm : MOk R s) (h : QR R t s at_) (x : Nat) : (s.qa x).length ≤ 40 := by
  by_cases hx : x < R.L.length
  · have hxl : x < at_.length := by rw [h.len]; exact hx
    obtain ⟨e, _⟩ := h.q x _ (List.getElem?_eq_getElem hxl)
    rw [e, List.length_drop]
    have h1 : (outE (evA R x) t).length ≤ (ordE (evA R x)).length := List.length_filter_le _ _
    rw [ordE_len] at h1
    have h2 : (evA R x).length ≤ 40 := by
      unfold evA
      cases hev : R.ev[x]? with
      | none => simp
      | some l => exact (hr.el l (List.mem_of_getElem? hev)).1
    omega
  · have : s.qa x = [] := by unfold Ms.qa; rw [List.getElem?_eq_none (by rw [hm.ql]; omega)]; rfl
    rw [this]; simp
theorem rel_small {R : Rn} (hr : RnOk R) (k : Nat) (x : Nat) : ((relA (k : Int) 0 R.ev (plM R k)).qa x).length ≤ 40 := by
  obtain ⟨at_, h⟩ := plM_qr hr k
  have hm := plM_ok hr k
  exact QR.small hr (hm.relA hr _) (h.rel hr hm) x
theorem arr_small {R : Rn} (hr : RnOk R) (k : Nat) (x : Nat) : ((arrA R (k : Int) (plM R k)).qa x).length ≤ 40 := by
  obtain ⟨at_, h⟩ := plM_qr hr k
  have hm := plM_ok hr k
  obtain ⟨a1, h1⟩ := h.arrA hr hm
  exact QR.small hr (hm.arrA hr _) h1 x
/-- the lengths of what is written -/
theorem relK_len (t : Int) : ∀ (es : List P2) (k : Nat), (relK t k es).length ≤ es.length
  | [], k => Nat.le_refl _
  | e :: es, k => by
    have := relK_len t es (k + 1)
    rw [relK, List.length_append, List.length_cons]
    split <;> simp <;> omega
theorem relE_o (t : Int) (i : Nat) : ∀ (es : List P2) (k : Nat) (s : Ms), (relE t i k es s).o.length ≤ s.o.length + es.length
  | [], k, s => by simp [relE]
  | e :: es, k, s => by
    rw [relE]
    have := relE_o t i es (k + 1) (if e.1 + e.2 = t then rel1 t i k s else s)
    refine Nat.le_trans this ?_
    rw [List.length_cons]
    split
    · simp [rel1]; omega
    · omega
theorem relA_o (t : Int) : ∀ (ls : List (List P2)) (i : Nat) (s : Ms), (∀ l ∈ ls, l.length ≤ 40) → (relA t i ls s).o.length ≤ s.o.length + 40 * ls.length
  | [], i, s, _ => by simp [relA]
  | l :: ls, i, s, h => by
    rw [relA]
    have h1 := relA_o t ls (i + 1) (relE t i 0 l s) (fun x hx => h x (by simp [hx]))
    have h2 := relE_o t i l 0 s
    have h3 := h l (by simp)
    rw [List.length_cons]; omega
theorem sigA_o (t : Int) : ∀ (gs : List P2) (s : Ms), (sigA t gs s).o.length ≤ s.o.length + gs.length
  | [], s => by simp [sigA]
  | g :: gs, s => by
    rw [sigA]
    have h1 := sigA_o t gs (sigS t g s)
    have h2 : (sigS t g s).o.length ≤ s.o.length + 1 := by unfold sigS; split <;> simp [sig1]
    rw [List.length_cons]; omega
theorem endA_o (L : List Ta) (t : Int) : ∀ (f i : Nat) (s : Ms), (endA L t f i s).o.length ≤ s.o.length + f
  | 0, _, s => by simp [endA]
  | f + 1, i, s => by
    rw [endA]
    have h1 := endA_o L t f (i + 1) (endS L t i s)
    have h2 : (endS L t i s).o.length ≤ s.o.length + 1 := by unfold endS; split <;> simp [fin1]
    omega
theorem arrA_o {R : Rn} (hr : RnOk R) (t : Int) (s : Ms) : (arrA R t s).o.length ≤ s.o.length + 250 := by
  unfold arrA
  have h1 := endA_o R.L t R.L.length 0 (sigA t R.sg (relA t 0 R.ev s))
  have h2 := sigA_o t R.sg (relA t 0 R.ev s)
  have h3 := relA_o t R.ev 0 s (fun l hl => (hr.el l hl).1)
  have h4 := hr.r.len
  have h5 := hr.ev
  have h6 := hr.sl
  omega
theorem wkA_o (R : Rn) (t : Int) (i : Nat) (s : Ms) : (wkA R t i s).o.length ≤ s.o.length + 2 := by
  unfold wkA; split
  · simp [fin1]
  · split <;> simp
theorem tckA_o {R : Rn} (hr : RnOk R) (t : Int) (s : Ms) : (tckA R t s).o.length ≤ s.o.length + 252 := by
  unfold tckA tckB
  have h1 := arrA_o hr t s
  split
  · simp [Ms.wr]; omega
  · split
    · have := wkA_o R t (chM R.L (arrA R t s)).toNat (arrA R t s); omega
    · omega
theorem plM_o {R : Rn} (hr : RnOk R) : ∀ k : Nat, (plM R k).o.length ≤ 252 * k
  | 0 => by simp [plM, ms0]
  | k + 1 => by
    have h1 := plM_o hr k
    have h2 := tckA_o hr (k : Int) (plM R k)
    rw [plM]; omega
/-- the ticks of a job -/
theorem relA_ja {R : Rn} (hr : RnOk R) {t : Int} {s : Ms} (hm : MOk R s) (i : Nat) : (relA t 0 R.ev s).ja i = s.ja i := by
  obtain ⟨_, h2, _⟩ := relA_spec t R.ev 0 s (by rw [hm.ql, hr.ev]; omega)
  unfold Ms.ja; rw [h2]
theorem sigS_d {R : Rn} {t : Int} {g : P2} {s : Ms} (hm : MOk R s) (hg : 0 ≤ g.2 ∧ g.2 < R.L.length) (i : Nat) : ((sigS t g s).ja i).d = (s.ja i).d := by
  unfold sigS; split
  · unfold sig1
    rw [ja_set (by rw [hm.jl]; omega)]
    split
    · rename_i e; subst e; rfl
    · rfl
  · rfl
theorem sigA_d {R : Rn} {t : Int} : ∀ (gs : List P2) {s : Ms}, MOk R s → (∀ g ∈ gs, 0 ≤ g.2 ∧ g.2 < R.L.length) → ∀ i, ((sigA t gs s).ja i).d = (s.ja i).d
  | [], s, _, _, i => rfl
  | g :: gs, s, hm, hg, i => by
    rw [sigA, sigA_d gs (hm.sigS t (hg g (by simp))) (fun x hx => hg x (by simp [hx])) i, sigS_d hm (hg g (by simp))]
theorem endA_d {R : Rn} (hr : RnOk R) {t : Int} : ∀ (f i : Nat) {s : Ms}, MOk R s → i + f = R.L.length → ∀ x, ((endA R.L t f i s).ja x).d ≤ (s.ja x).d
  | 0, _, _, _, _, x => Nat.le_refl _
  | f + 1, i, s, hm, e, x => by
    rw [endA]
    have h1 := endA_d (t := t) hr f (i + 1) (hm.endS hr t (by omega : i < R.L.length)) (by omega) x
    refine Nat.le_trans h1 ?_
    unfold endS; split
    · rw [fin_ja (by rw [hm.jl]; omega)]
      split
      · exact Nat.zero_le _
      · exact Nat.le_refl _
    · exact Nat.le_refl _
theorem arrA_d {R : Rn} (hr : RnOk R) {t : Int} {s : Ms} (hm : MOk R s) (x : Nat) : ((arrA R t s).ja x).d ≤ (s.ja x).d := by
  unfold arrA
  have h1 := endA_d hr (t := t) R.L.length 0 (MOk.sigA t R.sg (hm.relA hr t) hr.sg) (by omega) x
  rw [sigA_d R.sg (hm.relA hr t) hr.sg x, relA_ja hr hm] at h1
  exact h1
theorem jbN_d (L : List Ta) (i : Nat) (j : Jb) : (jbN L i j).d = j.d + 1 := by unfold jbN; split <;> rfl
theorem wkA_d {R : Rn} {t : Int} {i : Nat} {s : Ms} (hm : MOk R s) (hi : i < R.L.length) (x : Nat) : ((wkA R t i s).ja x).d ≤ (s.ja x).d + 1 := by
  have hl : i < s.j.length := by rw [hm.jl]; exact hi
  unfold wkA; split
  · rw [fin_ja (by simpa using hl)]
    split
    · exact Nat.zero_le _
    · rw [ja_set hl]; rename_i e; rw [if_neg e]; omega
  · split
    · rw [ja_set hl]
      split
      · rename_i e; subst e; show (jbN R.L x (s.ja x)).d ≤ _; rw [jbN_d]; omega
      · omega
    · rw [ja_set hl]
      split
      · rename_i e; subst e; rw [jbN_d]; omega
      · omega
theorem plM_d {R : Rn} (hr : RnOk R) : ∀ (k x : Nat), ((plM R k).ja x).d ≤ k
  | 0, x => by
    have : (plM R 0).ja x = Jb.zero := by unfold plM ms0 Ms.ja; simp only [List.getElem?_replicate]; split <;> rfl
    rw [this]; exact Nat.le_refl 0
  | k + 1, x => by
    have hm := plM_ok hr k
    have h1 := plM_d hr k x
    have h2 := arrA_d hr (t := (k : Int)) hm x
    have hma := hm.arrA hr (k : Int)
    rw [plM, tckA, tckB]
    split
    · show ((arrA R (k : Int) (plM R k)).ja x).d ≤ _; omega
    · split
      · rename_i hc
        obtain ⟨_, g2, _, _⟩ := chM_spec R.L (arrA R (k : Int) (plM R k))
        have := wkA_d (t := (k : Int)) hma (by omega : (chM R.L (arrA R (k : Int) (plM R k))).toNat < R.L.length) x
        omega
      · omega
theorem arr_d {R : Rn} (hr : RnOk R) (k x : Nat) : ((arrA R (k : Int) (plM R k)).ja x).d ≤ k := Nat.le_trans (arrA_d hr (plM_ok hr k) x) (plM_d hr k x)
end Go.Proofs.Ytlhnhmimhpcoaaa
