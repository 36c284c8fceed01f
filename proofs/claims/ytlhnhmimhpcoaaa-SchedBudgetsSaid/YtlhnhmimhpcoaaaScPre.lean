/- Entries only grow; signals that nobody hears. No condition: plain lemmas. -/
import Derived.Test.YtlhnhmimhpcoaaaScVal2
namespace Go.Proofs.Ytlhnhmimhpcoaaa
open Go.RowKit
set_option linter.unusedSimpArgs false
set_option linter.unusedVariables false
theorem relE_pre (t : Int) (i : Nat) : ∀ (es : List P2) (k : Nat) (s : Ms), s.o <+: (relE t i k es s).o
  | [], _, s => List.prefix_rfl
  | e :: es, k, s => by
    rw [relE]
    refine List.IsPrefix.trans ?_ (relE_pre t i es (k + 1) _)
    split
    · exact List.prefix_append _ _
    · exact List.prefix_rfl
theorem relA_pre (t : Int) : ∀ (ls : List (List P2)) (i : Nat) (s : Ms), s.o <+: (relA t i ls s).o
  | [], _, s => List.prefix_rfl
  | l :: ls, i, s => (relE_pre t i l 0 s).trans (relA_pre t ls (i + 1) _)
theorem sigS_pre (t : Int) (g : P2) (s : Ms) : s.o <+: (sigS t g s).o := by
  unfold sigS; split
  · exact List.prefix_append _ _
  · exact List.prefix_rfl
theorem sigA_pre (t : Int) : ∀ (gs : List P2) (s : Ms), s.o <+: (sigA t gs s).o
  | [], s => List.prefix_rfl
  | g :: gs, s => (sigS_pre t g s).trans (sigA_pre t gs _)
theorem endS_pre (L : List Ta) (t : Int) (i : Nat) (s : Ms) : s.o <+: (endS L t i s).o := by
  unfold endS; split
  · exact List.prefix_append _ _
  · exact List.prefix_rfl
theorem endA_pre (L : List Ta) (t : Int) : ∀ (f i : Nat) (s : Ms), s.o <+: (endA L t f i s).o
  | 0, _, s => List.prefix_rfl
  | f + 1, i, s => (endS_pre L t i s).trans (endA_pre L t f (i + 1) _)
theorem wkA_pre (R : Rn) (t : Int) (i : Nat) (s : Ms) : s.o <+: (wkA R t i s).o := by
  unfold wkA; split
  · exact (List.prefix_append _ _).trans (List.prefix_append _ _)
  · split
    · rw [List.append_assoc]; exact List.prefix_append _ _
    · exact List.prefix_append _ _
theorem tckB_pre (R : Rn) (t : Int) (s : Ms) : s.o <+: (tckB R t s).o := by
  unfold tckB; split
  · exact List.prefix_append _ _
  · split
    · exact wkA_pre _ _ _ _
    · exact List.prefix_rfl
theorem arrA_pre (R : Rn) (t : Int) (s : Ms) : s.o <+: (arrA R t s).o := (relA_pre t R.ev 0 s).trans ((sigA_pre t R.sg _).trans (endA_pre R.L t _ _ _))
theorem tckA_pre (R : Rn) (t : Int) (s : Ms) : s.o <+: (tckA R t s).o := (arrA_pre R t s).trans (tckB_pre R t _)
theorem plM_pre (R : Rn) : ∀ (d k : Nat), (plM R k).o <+: (plM R (k + d)).o
  | 0, _ => List.prefix_rfl
  | d + 1, k => (plM_pre R d k).trans (tckA_pre R _ _)
/-- whether a signal has been heard -/
def hrd (es : List En) (g : P2) : Bool := es.any (fun e => decide (e.w = 2) && decide (e.m = g.1) && decide (e.k = g.2))
def sgR (R : Rn) (es : List En) : Rn := { R with sg := R.sg.filter (hrd es) }
theorem sigA_filter (es : List En) (t : Int) : ∀ (gs : List P2) (s : Ms), (∀ g ∈ gs, 0 ≤ g.2) → (∀ e ∈ (sigA t gs s).o, e ∈ es) → sigA t (gs.filter (hrd es)) s = sigA t gs s
  | [], s, _, _ => rfl
  | g :: gs, s, h0, he => by
    have ih := sigA_filter es t gs (sigS t g s) (fun x hx => h0 x (by simp [hx])) he
    rw [List.filter_cons]
    cases hh : hrd es g
    · rw [if_neg (by simp), sigA]
      have e : sigS t g s = s := by
        unfold sigS
        split
        · rename_i hc
          exfalso
          have hm : (⟨t, (g.2.toNat : Int), 2, 0, 0⟩ : En) ∈ es := he _ ((sigA_pre t gs (sigS t g s)).subset (by
            unfold sigS; rw [if_pos hc]; simp [sig1]))
          have hg := h0 g (by simp)
          have : hrd es g = true := by
            unfold hrd
            rw [List.any_eq_true]
            exact ⟨_, hm, by simp [hc.1]; omega⟩
          rw [hh] at this; cases this
        · rfl
      rw [e] at ih ⊢
      exact ih
    · rw [if_pos rfl, sigA, sigA, ih]
theorem sgR_pl {R : Rn} (T : Nat) (h0 : ∀ g ∈ R.sg, 0 ≤ g.2) : ∀ k : Nat, k ≤ T → plM (sgR R (plM R T).o) k = plM R k
  | 0, _ => rfl
  | k + 1, hk => by
    have ih := sgR_pl T h0 k (by omega)
    rw [plM, plM, ih]
    have e : arrA (sgR R (plM R T).o) (k : Int) (plM R k) = arrA R k (plM R k) := by
      unfold arrA
      show endA R.L k R.L.length 0 (sigA k (R.sg.filter (hrd (plM R T).o)) (relA k 0 R.ev (plM R k))) = _
      rw [sigA_filter (plM R T).o k R.sg _ h0 (fun x hx => ?_)]
      have h1 : (sigA (k : Int) R.sg (relA k 0 R.ev (plM R k))).o <+: (plM R (k + 1)).o := by
        rw [plM]
        exact (endA_pre R.L k R.L.length 0 _).trans (tckB_pre R k _)
      have h2 := plM_pre R (T - (k + 1)) (k + 1)
      rw [show k + 1 + (T - (k + 1)) = T by omega] at h2
      exact (h1.trans h2).subset hx
    unfold tckA
    rw [e]
    rfl
theorem sgR_ok {R : Rn} (es : List En) (h : runB R = true) : runB (sgR R es) = true := by
  unfold runB at h ⊢
  simp only [Bool.and_eq_true, decide_eq_true_eq, List.all_eq_true] at h ⊢
  obtain ⟨h1, h2, h3, h4, h5, h6, h7, h8⟩ := h
  exact ⟨h1, h2, h3, h4, Nat.le_trans (List.length_filter_le _ _) h5, h6, h7, fun g hg => h8 g (List.mem_filter.1 hg).1⟩
theorem sgR_sim {R : Rn} {t : Int} {es : List En} (h : simR R t = (es, 0)) : simR (sgR R es) t = (es, 0) := by
  unfold simR at h ⊢
  by_cases hB : (runB R && inB t 0 2000) = true
  · rw [if_pos hB] at h
    rw [Bool.and_eq_true] at hB
    obtain rfl : (plM R t.toNat).o = es := by simpa using h
    rw [sgR_ok _ hB.1, hB.2, if_pos (show (true && true) = true from rfl), sgR_pl t.toNat (fun g hg => ((run_ok hB.1).1.sg g hg).1) _ (Nat.le_refl _)]
  · rw [if_neg hB] at h
    simp at h
theorem sim_bad {R : Rn} {t : Int} {es : List En} {e : Int} (h : simR R t = (es, e)) : (e = 0 ∧ (runB R && inB t 0 2000) = true) ∨ (e = 1 ∧ es = [] ∧ (runB R && inB t 0 2000) = false) := by
  unfold simR at h
  by_cases hB : (runB R && inB t 0 2000) = true
  · rw [if_pos hB] at h
    simp at h
    exact .inl ⟨h.2.symm, hB⟩
  · rw [if_neg hB] at h
    simp at h
    exact .inr ⟨h.2.symm, h.1, by simpa using hB⟩
end Go.Proofs.Ytlhnhmimhpcoaaa
