/- A run of tasks, in plain Lean: the machine of the scheduler, what holds of it, who is chosen. No condition: plain lemmas. -/
import Derived.Test.YtlhnhmimhpcoaaaTkPure
namespace Go.Proofs.Ytlhnhmimhpcoaaa
open Go.RowKit
set_option linter.unusedSimpArgs false
set_option linter.unusedVariables false
/-- a job: its piece, the ticks of it, all its ticks, whether it has been told to end -/
structure Jb where
  p : Nat
  t : Nat
  d : Nat
  s : Bool
deriving DecidableEq
def Jb.zero : Jb := ⟨0, 0, 0, false⟩
/-- an entry -/
structure En where
  m : Int
  k : Int
  w : Int
  a : Int
  b : Int
deriving DecidableEq, Inhabited
/-- a run -/
structure Rn where
  L : List Ta
  fr : Int
  sl : Int
  ev : List (List P2)
  bu : List Int
  sg : List P2
/-- the machine: of each task the events that wait, the job; what has been written -/
structure Ms where
  q : List (List Int)
  j : List Jb
  o : List En
def Ms.qa (s : Ms) (i : Nat) : List Int := (s.q[i]?).getD []
def Ms.ja (s : Ms) (i : Nat) : Jb := (s.j[i]?).getD Jb.zero
def Ms.hd (s : Ms) (i : Nat) : Int := (s.qa i).headD 0
def pcA (L : List Ta) (i p : Nat) : P2 := (((taAt L i).pcs)[p]?).getD default
def lkA (L : List Ta) (i p : Nat) : Int := (pcA L i p).2
def tkA (L : List Ta) (i p : Nat) : Int := (pcA L i p).1
/-- within a piece with a lock -/
def insB (L : List Ta) (s : Ms) (i : Nat) : Bool := decide (0 < (s.ja i).t) && decide (0 ≤ lkA L i (s.ja i).p)
def toI (L : List Ta) (s : Ms) (i : Nat) : Int := if insB L s i = true then ceilG L (lkA L i (s.ja i).p) else i
def ownI (L : List Ta) (s : Ms) (i : Nat) : Nat := if toI L s i = (i : Int) then 1 else 0
def keyI (L : List Ta) (s : Ms) (i : Nat) : Nat := 2 * cnt L (toI L s i) + ownI L s i
def Ms.wr (s : Ms) (e : En) : Ms := { s with o := s.o ++ [e] }
def rel1 (t : Int) (i : Nat) (k : Nat) (s : Ms) : Ms := { s with q := s.q.set i (s.qa i ++ [(k : Int)]), o := s.o ++ [⟨t, i, 1, k, 0⟩] }
def relE (t : Int) (i : Nat) : Nat → List P2 → Ms → Ms
  | _, [], s => s
  | k, e :: es, s => relE t i (k + 1) es (if e.1 + e.2 = t then rel1 t i k s else s)
def relA (t : Int) : Nat → List (List P2) → Ms → Ms
  | _, [], s => s
  | i, l :: ls, s => relA t (i + 1) ls (relE t i 0 l s)
def sig1 (t : Int) (i : Nat) (s : Ms) : Ms := { s with j := s.j.set i { s.ja i with s := true }, o := s.o ++ [⟨t, i, 2, 0, 0⟩] }
def sigS (t : Int) (g : P2) (s : Ms) : Ms := if g.1 = t ∧ s.qa g.2.toNat ≠ [] then sig1 t g.2.toNat s else s
def sigA (t : Int) : List P2 → Ms → Ms
  | [], s => s
  | g :: gs, s => sigA t gs (sigS t g s)
def fin1 (m : Int) (i : Nat) (how : Int) (s : Ms) : Ms := { q := s.q.set i (s.qa i).tail, j := s.j.set i Jb.zero, o := s.o ++ [⟨m, i, 5, s.hd i, how⟩] }
def endS (L : List Ta) (t : Int) (i : Nat) (s : Ms) : Ms := if s.qa i ≠ [] ∧ (s.ja i).s = true ∧ insB L s i = false then fin1 t i 1 s else s
def endA (L : List Ta) (t : Int) : Nat → Nat → Ms → Ms
  | 0, _, s => s
  | f + 1, i, s => endA L t f (i + 1) (endS L t i s)
def arrA (R : Rn) (t : Int) (s : Ms) : Ms := endA R.L t R.L.length 0 (sigA t R.sg (relA t 0 R.ev s))
/-- who is chosen -/
def chF (L : List Ta) (s : Ms) : Nat → Nat → Int → Int
  | 0, _, b => b
  | f + 1, i, b => chF L s f (i + 1) (if s.qa i ≠ [] ∧ (b < 0 ∨ keyI L s i < keyI L s b.toNat) then i else b)
def chM (L : List Ta) (s : Ms) : Int := chF L s L.length 0 (-1)
/-- the job behind a tick -/
def jbN (L : List Ta) (i : Nat) (j : Jb) : Jb := if ((j.t : Nat) : Int) + 1 = tkA L i j.p then ⟨j.p + 1, 0, j.d + 1, j.s⟩ else ⟨j.p, j.t + 1, j.d + 1, j.s⟩
def wkA (R : Rn) (t : Int) (i : Nat) (s : Ms) : Ms :=
  if (jbN R.L i (s.ja i)).p = (taAt R.L i).pcs.length then fin1 (t + 1) i 0 { s with o := s.o ++ [⟨t, i, 4, (s.ja i).p, s.hd i⟩], j := s.j.set i (jbN R.L i (s.ja i)) }
  else if (((jbN R.L i (s.ja i)).d : Nat) : Int) = (R.bu[i]?).getD 0 then { s with j := s.j.set i { jbN R.L i (s.ja i) with s := true }, o := s.o ++ [⟨t, i, 4, (s.ja i).p, s.hd i⟩] ++ [⟨t + 1, i, 6, s.hd i, 0⟩] }
  else { s with j := s.j.set i (jbN R.L i (s.ja i)), o := s.o ++ [⟨t, i, 4, (s.ja i).p, s.hd i⟩] }
def tckB (R : Rn) (t : Int) (s : Ms) : Ms := if t % R.fr < R.sl then s.wr ⟨t, -1, 3, 0, 0⟩ else if 0 ≤ chM R.L s then wkA R t (chM R.L s).toNat s else s
def tckA (R : Rn) (t : Int) (s : Ms) : Ms := tckB R t (arrA R t s)
def ms0 (n : Nat) : Ms := ⟨List.replicate n [], List.replicate n Jb.zero, []⟩
def plM (R : Rn) : Nat → Ms
  | 0 => ms0 R.L.length
  | t + 1 => tckA R t (plM R t)
/-- a run that may be -/
structure RnOk (R : Rn) : Prop where
  r : Right R.L
  f : 1 ≤ R.fr
  ev : R.ev.length = R.L.length
  bu : R.bu.length = R.L.length
  el : ∀ l ∈ R.ev, l.length ≤ 40 ∧ ∀ e ∈ l, (0 ≤ e.1 ∧ e.1 ≤ 1000000) ∧ (0 ≤ e.2 ∧ e.2 ≤ 1000000)
  sl : R.sg.length ≤ 40
  sg : ∀ g ∈ R.sg, 0 ≤ g.2 ∧ g.2 < R.L.length
  b0 : ∀ b ∈ R.bu, 0 ≤ b ∧ b ≤ 1000
/-- what holds of the machine -/
structure MOk (R : Rn) (s : Ms) : Prop where
  ql : s.q.length = R.L.length
  jl : s.j.length = R.L.length
  pc : ∀ i, i < R.L.length → (s.ja i).p < (taAt R.L i).pcs.length
  tk : ∀ i, i < R.L.length → ((s.ja i).t : Int) < tkA R.L i (s.ja i).p
  rd : ∀ i, i < R.L.length → s.qa i = [] → s.ja i = Jb.zero
  ce : ∀ a b, a < R.L.length → b < R.L.length → a ≠ b → insB R.L s a = true → insB R.L s b = true → cnt R.L a < cnt R.L (toI R.L s b) ∨ cnt R.L b < cnt R.L (toI R.L s a)
theorem qa_set {s : Ms} {i k : Nat} {x : List Int} {q : List (List Int)} {o : List En} {j : List Jb} (h : i < s.q.length) : Ms.qa ⟨s.q.set i x, j, o⟩ k = if k = i then x else s.qa k := by
  unfold Ms.qa
  simp only [List.getElem?_set]
  by_cases e : k = i
  · subst e; simp [h]
  · rw [if_neg (fun q => e q.symm), if_neg e]
theorem ja_set {s : Ms} {i k : Nat} {x : Jb} {q : List (List Int)} {o : List En} (h : i < s.j.length) : Ms.ja ⟨q, s.j.set i x, o⟩ k = if k = i then x else s.ja k := by
  unfold Ms.ja
  simp only [List.getElem?_set]
  by_cases e : k = i
  · subst e; simp [h]
  · rw [if_neg (fun q => e q.symm), if_neg e]
theorem insB_iff {L : List Ta} {s : Ms} {i : Nat} : insB L s i = true ↔ 0 < (s.ja i).t ∧ 0 ≤ lkA L i (s.ja i).p := by unfold insB; simp
theorem insB_eq {L : List Ta} {s s' : Ms} {i : Nat} (h : s.ja i = s'.ja i) : insB L s i = insB L s' i := by unfold insB; rw [h]
theorem toI_eq {L : List Ta} {s s' : Ms} {i : Nat} (h : s.ja i = s'.ja i) : toI L s i = toI L s' i := by unfold toI; rw [insB_eq h, h]
theorem keyI_eq {L : List Ta} {s s' : Ms} {i : Nat} (h : s.ja i = s'.ja i) : keyI L s i = keyI L s' i := by unfold keyI ownI; rw [toI_eq h]
theorem ins_zero {L : List Ta} {s : Ms} {i : Nat} (h : s.ja i = Jb.zero) : insB L s i = false := by unfold insB; rw [h]; rfl
theorem toI_no {L : List Ta} {s : Ms} {i : Nat} (h : insB L s i = false) : toI L s i = i := by unfold toI; rw [h]; rfl
theorem pc_uses {L : List Ta} {i p : Nat} (h : p < (taAt L i).pcs.length) : uses L i (lkA L i p) := by
  refine ⟨(taAt L i).pcs[p], List.getElem_mem h, ?_⟩
  unfold lkA pcA; rw [List.getElem?_eq_getElem h]; rfl
theorem ceil_le {L : List Ta} {lock : Int} {i : Nat} (hi : i < L.length) (h : uses L i lock) : (0 ≤ ceilG L lock ∧ ceilG L lock < L.length) ∧ cnt L (ceilG L lock) ≤ cnt L i := by
  have hc := isCeil L lock
  have h0 : 0 ≤ ceilG L lock := by
    by_cases h0 : ceilG L lock < 0
    · exact absurd h (hc.none_ h0 i hi)
    · omega
  have hh := hc.hi
  refine ⟨⟨h0, hh⟩, ?_⟩
  by_cases e : (i : Int) = ceilG L lock
  · rw [e]; exact Nat.le_refl _
  · exact Nat.le_of_lt ((cnt_ahead h0 hh (by omega) (by omega)).2 ((hc.some_ h0).2 i hi h e))
theorem MOk.to_ {R : Rn} {s : Ms} (h : MOk R s) {i : Nat} (hi : i < R.L.length) : (0 ≤ toI R.L s i ∧ toI R.L s i < R.L.length) ∧ cnt R.L (toI R.L s i) ≤ cnt R.L i := by
  unfold toI
  split
  · exact ceil_le hi (pc_uses (h.pc i hi))
  · exact ⟨by omega, Nat.le_refl _⟩
theorem cnt_inj {L : List Ta} {x y : Int} (h0 : 0 ≤ x) (h1 : x < L.length) (h2 : 0 ≤ y) (h3 : y < L.length) (h : cnt L x = cnt L y) : x = y := by
  have a := rank_at h0 h1
  have b := rank_at h2 h3
  rw [h, b] at a; simpa using a.symm
/-- how the reference compares -/
theorem MOk.cmp {R : Rn} {s : Ms} (h : MOk R s) {i b : Nat} (hi : i < R.L.length) (hb : b < R.L.length) (hne : i ≠ b) :
    keyI R.L s i < keyI R.L s b ↔ cnt R.L (toI R.L s i) < cnt R.L (toI R.L s b) ∨ (cnt R.L (toI R.L s i) = cnt R.L (toI R.L s b) ∧ insB R.L s i = true) := by
  have hti := h.to_ hi
  have htb := h.to_ hb
  unfold keyI ownI
  constructor
  · intro k
    by_cases e : cnt R.L (toI R.L s i) < cnt R.L (toI R.L s b)
    · exact .inl e
    · right
      have h1 : toI R.L s i ≠ (i : Int) := by
        intro q
        rw [if_pos q] at k
        split at k <;> omega
      refine ⟨by split at k <;> split at k <;> omega, ?_⟩
      cases hc : insB R.L s i
      · exact absurd (toI_no hc) h1
      · rfl
  · rintro (k | ⟨k, hc⟩)
    · split <;> split <;> omega
    · have e := cnt_inj hti.1.1 hti.1.2 htb.1.1 htb.1.2 k
      have hcb : insB R.L s b = false := by
        cases hcb : insB R.L s b
        · rfl
        · rcases h.ce i b hi hb hne hc hcb with q | q <;> omega
      have hb' := toI_no hcb
      have : toI R.L s i ≠ (i : Int) := by rw [e, hb']; omega
      rw [if_neg this, if_pos hb']; omega
/-- the reference's choice -/
def chR (L : List Ta) (s : Ms) : Nat → Nat → Int → Int → Int
  | 0, _, b, _ => b
  | f + 1, i, b, r => if s.qa i = [] then chR L s f (i + 1) b r
    else if b < 0 ∨ (cnt L (toI L s i) : Int) < r ∨ ((cnt L (toI L s i) : Int) = r ∧ insB L s i = true) then chR L s f (i + 1) i (cnt L (toI L s i)) else chR L s f (i + 1) b r
theorem chR_eq {R : Rn} {s : Ms} (h : MOk R s) : ∀ (f i : Nat) (b r : Int), i + f = R.L.length → b < i → (b < 0 ∨ (r = (cnt R.L (toI R.L s b.toNat) : Int))) → chR R.L s f i b r = chF R.L s f i b
  | 0, _, _, _, _, _, _ => rfl
  | f + 1, i, b, r, hf, hb, hr => by
    rw [chR, chF]
    by_cases hq : s.qa i = []
    · rw [if_pos hq, if_neg (fun q => q.1 hq)]
      exact chR_eq h f (i + 1) b r (by omega) (by omega) hr
    · rw [if_neg hq]
      have hc : (b < 0 ∨ (cnt R.L (toI R.L s i) : Int) < r ∨ ((cnt R.L (toI R.L s i) : Int) = r ∧ insB R.L s i = true)) ↔ (s.qa i ≠ [] ∧ (b < 0 ∨ keyI R.L s i < keyI R.L s b.toNat)) := by
        by_cases hb0 : b < 0
        · simp [hb0, hq]
        · have e := hr.resolve_left hb0
          have := h.cmp (i := i) (b := b.toNat) (by omega) (by omega) (by omega)
          rw [this, e]
          constructor
          · rintro (k | k | ⟨k, c⟩)
            · omega
            · exact ⟨hq, .inr (.inl (by omega))⟩
            · exact ⟨hq, .inr (.inr ⟨by omega, c⟩)⟩
          · rintro ⟨_, k | k | ⟨k, c⟩⟩
            · omega
            · exact .inr (.inl (by omega))
            · exact .inr (.inr ⟨by omega, c⟩)
      by_cases hk : s.qa i ≠ [] ∧ (b < 0 ∨ keyI R.L s i < keyI R.L s b.toNat)
      · rw [if_pos hk, if_pos (hc.2 hk)]
        exact chR_eq h f (i + 1) i _ (by omega) (by omega) (.inr (by rw [Int.toNat_natCast]))
      · rw [if_neg hk, if_neg (fun q => hk (hc.1 q))]
        exact chR_eq h f (i + 1) b r (by omega) (by omega) hr
/-- the choice is a first one -/
theorem chF_spec {L : List Ta} {s : Ms} : ∀ (f i : Nat) (b : Int), -1 ≤ b → b < i → (∀ k : Nat, k < i → s.qa k ≠ [] → 0 ≤ b ∧ keyI L s b.toNat ≤ keyI L s k) → (0 ≤ b → s.qa b.toNat ≠ []) →
    -1 ≤ chF L s f i b ∧ chF L s f i b < (i + f : Nat) ∧ (∀ k : Nat, k < i + f → s.qa k ≠ [] → 0 ≤ chF L s f i b ∧ keyI L s (chF L s f i b).toNat ≤ keyI L s k) ∧ (0 ≤ chF L s f i b → s.qa (chF L s f i b).toNat ≠ [])
  | 0, i, b, h1, h2, h3, h4 => ⟨h1, by simpa [chF] using h2, by simpa [chF] using h3, h4⟩
  | f + 1, i, b, h1, h2, h3, h4 => by
    rw [chF, show i + (f + 1) = i + 1 + f by omega]
    by_cases hk : s.qa i ≠ [] ∧ (b < 0 ∨ keyI L s i < keyI L s b.toNat)
    · rw [if_pos hk]
      refine chF_spec f (i + 1) i (by omega) (by omega) (fun k hki hq => ⟨by omega, ?_⟩) (fun _ => by rw [Int.toNat_natCast]; exact hk.1)
      rw [Int.toNat_natCast]
      rcases Nat.lt_succ_iff_lt_or_eq.1 hki with hki | rfl
      · have := h3 k hki hq
        rcases hk.2 with q | q
        · omega
        · omega
      · exact Nat.le_refl _
    · rw [if_neg hk]
      refine chF_spec f (i + 1) b h1 (by omega) (fun k hki hq => ?_) h4
      rcases Nat.lt_succ_iff_lt_or_eq.1 hki with hki | rfl
      · exact h3 k hki hq
      · have : ¬ (b < 0 ∨ keyI L s k < keyI L s b.toNat) := fun q => hk ⟨hq, q⟩
        omega
theorem chM_spec (L : List Ta) (s : Ms) : -1 ≤ chM L s ∧ chM L s < L.length ∧ (∀ k : Nat, k < L.length → s.qa k ≠ [] → 0 ≤ chM L s ∧ keyI L s (chM L s).toNat ≤ keyI L s k) ∧ (0 ≤ chM L s → s.qa (chM L s).toNat ≠ []) := by
  have := chF_spec (L := L) (s := s) L.length 0 (-1) (by omega) (by omega) (fun k hk => by omega) (fun h => by omega)
  unfold chM
  simpa using this
end Go.Proofs.Ytlhnhmimhpcoaaa
