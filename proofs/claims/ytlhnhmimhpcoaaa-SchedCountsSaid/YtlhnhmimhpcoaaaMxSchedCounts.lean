/- What is counted of a run: work, idle ticks, pauses. No condition: plain lemmas. The contracts of Idle and Pause of the program. The conditions: the run reads as named. The contracts of Worked, of both sides, and of the reference's Idle and Pause. The conditions: the run reads as named. The contract of Preempted of the program. The conditions: the run reads as named. The contracts of the reference's Idle, Worked and Pause. The conditions: the run reads as named. The contract of the reference's Preempted. The conditions: the run reads as named. The walk of SchedCounts: it returns true. The conditions: the run reads as named. -/
import Derived.Test.YtlhnhmimhpcoaaaMg13
import Derived.Test.YtlhnhmimhpcoaaaMg12
import Derived.BigRegion
namespace Go.Proofs.Ytlhnhmimhpcoaaa
open Go.RowKit
set_option linter.unusedSimpArgs false
set_option linter.unusedVariables false
/-- how many entries are so -/
def cntE (p : En → Bool) : List En → Int
  | [] => 0
  | e :: es => (if p e = true then 1 else 0) + cntE p es
theorem cntE_app (p : En → Bool) : ∀ (a b : List En), cntE p (a ++ b) = cntE p a + cntE p b
  | [], b => by simp [cntE]
  | e :: a, b => by rw [List.cons_append, cntE, cntE, cntE_app p a b]; omega
theorem cntE_none (p : En → Bool) : ∀ (a : List En), (∀ e ∈ a, p e = false) → cntE p a = 0
  | [], _ => rfl
  | e :: a, h => by rw [cntE, h e (by simp), cntE_none p a (fun x hx => h x (by simp [hx]))]; rfl
theorem cntE_bd (p : En → Bool) : ∀ (a : List En), 0 ≤ cntE p a ∧ cntE p a ≤ a.length
  | [] => by simp [cntE]
  | e :: a => by
    have := cntE_bd p a
    rw [cntE, List.length_cons]
    split <;> omega
theorem cntE_or {p q r : En → Bool} : ∀ (a : List En), (∀ e ∈ a, (r e = true ↔ p e = true ∨ q e = true) ∧ ¬ (p e = true ∧ q e = true)) → cntE r a = cntE p a + cntE q a
  | [], _ => rfl
  | e :: a, h => by
    have h1 := h e (by simp)
    rw [cntE, cntE, cntE, cntE_or a (fun x hx => h x (by simp [hx]))]
    by_cases hp : p e = true
    · have hq : ¬ q e = true := fun q' => h1.2 ⟨hp, q'⟩
      rw [if_pos hp, if_neg hq, if_pos (h1.1.2 (.inl hp))]; omega
    · by_cases hq : q e = true
      · rw [if_neg hp, if_pos hq, if_pos (h1.1.2 (.inr hq))]; omega
      · rw [if_neg hp, if_neg hq, if_neg (fun r' => (h1.1.1 r').elim hp hq)]; omega
def isW (w : Int) (e : En) : Bool := decide (e.w = w)
def isWk (i : Nat) (e : En) : Bool := decide (e.w = 4) && decide (e.k = (i : Int))
def isBusy (e : En) : Bool := decide (e.w = 3) || decide (e.w = 4)
/-- ticks of work of each task -/
def wkRow (n : Nat) (o : List En) : List Int := (List.range n).map (fun (i : Nat) => cntE (isWk i) o)
theorem wkRow_len (n : Nat) (o : List En) : (wkRow n o).length = n := by simp [wkRow]
theorem wkRow_get {n i : Nat} {o : List En} (h : i < n) : (wkRow n o)[i]? = some (cntE (isWk i) o) := by simp [wkRow, h]
theorem wkRow_nil (n : Nat) : wkRow n [] = List.replicate n 0 := by
  apply List.ext_getElem?
  intro k
  by_cases h : k < n
  · rw [wkRow_get h, List.getElem?_replicate, if_pos h]; rfl
  · rw [List.getElem?_eq_none (by rw [wkRow_len]; omega), List.getElem?_eq_none (by simp; omega)]
theorem wkRow_other {n : Nat} {o : List En} {e : En} (h : e.w ≠ 4) : wkRow n (o ++ [e]) = wkRow n o := by
  unfold wkRow
  refine List.map_congr_left (fun k _ => ?_)
  rw [cntE_app, cntE_none _ [e] (fun x hx => by simp at hx; subst hx; unfold isWk; rw [decide_eq_false h]; rfl)]; omega
theorem wkRow_work {n k : Nat} {o : List En} {e : En} (h : e.w = 4) (hk : e.k = (k : Int)) (hn : k < n) : wkRow n (o ++ [e]) = (wkRow n o).set k (cntE (isWk k) o + 1) := by
  apply List.ext_getElem?
  intro j
  by_cases hj : j < n
  · rw [wkRow_get hj, List.getElem?_set, cntE_app]
    by_cases e1 : k = j
    · subst e1
      rw [if_pos rfl, if_pos (by rw [wkRow_len]; exact hj)]
      have : cntE (isWk k) [e] = 1 := by unfold cntE isWk; rw [h, hk]; simp [cntE]
      rw [this]
    · rw [if_neg e1, wkRow_get hj]
      have : cntE (isWk j) [e] = 0 := cntE_none _ _ (fun x hx => by
        simp at hx; subst hx
        unfold isWk
        rw [hk]
        have : ¬ ((k : Int) = (j : Int)) := by omega
        simp [this])
      rw [this]; simp
  · rw [List.getElem?_eq_none (by rw [wkRow_len]; omega), List.getElem?_eq_none (by rw [List.length_set, wkRow_len]; omega)]
/-- sums of rows -/
def sumI : List Int → Int
  | [] => 0
  | x :: xs => x + sumI xs
theorem sumI_app : ∀ (a b : List Int), sumI (a ++ b) = sumI a + sumI b
  | [], b => by simp [sumI]
  | x :: a, b => by rw [List.cons_append, sumI, sumI, sumI_app a b]; omega
theorem sumI_set : ∀ (xs : List Int) (k : Nat) (x : Int), xs[k]? = some x → sumI (xs.set k (x + 1)) = sumI xs + 1
  | [], k, x, h => by simp at h
  | y :: ys, 0, x, h => by simp at h; subst h; simp [sumI]; omega
  | y :: ys, k + 1, x, h => by
    rw [List.set_cons_succ, sumI, sumI, sumI_set ys k x (by simpa using h)]; omega
theorem sumI_zeros : ∀ n : Nat, sumI (List.replicate n 0) = 0
  | 0 => rfl
  | n + 1 => by rw [List.replicate_succ, sumI, sumI_zeros n]; rfl
theorem wkRow_sum {n : Nat} : ∀ (b a : List En), (∀ e ∈ b, e.w = 4 → ∃ i : Nat, e.k = (i : Int) ∧ i < n) → sumI (wkRow n (a ++ b)) = sumI (wkRow n a) + cntE (isW 4) b
  | [], a, _ => by simp [cntE]
  | e :: b, a, h => by
    have ih := wkRow_sum b (a ++ [e]) (fun x hx => h x (by simp [hx]))
    rw [List.append_assoc, List.singleton_append] at ih
    rw [ih, cntE]
    by_cases hw : e.w = 4
    · obtain ⟨i, hi, hin⟩ := h e (by simp) hw
      rw [wkRow_work hw hi hin, sumI_set _ _ _ (wkRow_get hin), if_pos (by unfold isW; simp [hw])]; omega
    · rw [wkRow_other hw, if_neg (by unfold isW; simp [hw])]; omega
/-- the collector's ticks -/
def gcN (R : Rn) : Nat → Int
  | 0 => 0
  | t + 1 => gcN R t + (if (t : Int) % R.fr < R.sl then 1 else 0)
theorem relA_newW (t : Int) (ls : List (List P2)) (i : Nat) (s : Ms) : ∃ l, (relA t i ls s).o = s.o ++ l ∧ ∀ e ∈ l, e.w ≠ 3 ∧ e.w ≠ 4 := by
  obtain ⟨l, h1, h2⟩ := relA_newE t ls i s
  exact ⟨l, h1, fun e he => by rw [(h2 e he).2]; decide⟩
theorem sigA_newW (t : Int) : ∀ (gs : List P2) (s : Ms), ∃ l, (sigA t gs s).o = s.o ++ l ∧ ∀ e ∈ l, e.w ≠ 3 ∧ e.w ≠ 4
  | [], s => ⟨[], by simp [sigA], fun e he => by simp at he⟩
  | g :: gs, s => by
    obtain ⟨l, h1, h2⟩ := sigA_newW t gs (sigS t g s)
    rw [sigA, h1]
    unfold sigS
    split
    · refine ⟨⟨t, g.2.toNat, 2, 0, 0⟩ :: l, by simp [sig1], fun e he => ?_⟩
      rcases List.mem_cons.1 he with rfl | he
      · exact ⟨by simp, by simp⟩
      · exact h2 e he
    · exact ⟨l, rfl, h2⟩
theorem endA_newW (L : List Ta) (t : Int) : ∀ (f i : Nat) (s : Ms), ∃ l, (endA L t f i s).o = s.o ++ l ∧ ∀ e ∈ l, e.w ≠ 3 ∧ e.w ≠ 4
  | 0, i, s => ⟨[], by simp [endA], fun e he => by simp at he⟩
  | f + 1, i, s => by
    obtain ⟨l, h1, h2⟩ := endA_newW L t f (i + 1) (endS L t i s)
    rw [endA, h1]
    unfold endS
    split
    · refine ⟨⟨t, i, 5, s.hd i, 1⟩ :: l, by simp [fin1], fun e he => ?_⟩
      rcases List.mem_cons.1 he with rfl | he
      · exact ⟨by simp, by simp⟩
      · exact h2 e he
    · exact ⟨l, rfl, h2⟩
theorem arrA_newW (R : Rn) (t : Int) (s : Ms) : ∃ l, (arrA R t s).o = s.o ++ l ∧ ∀ e ∈ l, e.w ≠ 3 ∧ e.w ≠ 4 := by
  obtain ⟨l1, h1, g1⟩ := relA_newW t R.ev 0 s
  obtain ⟨l2, h2, g2⟩ := sigA_newW t R.sg (relA t 0 R.ev s)
  obtain ⟨l3, h3, g3⟩ := endA_newW R.L t R.L.length 0 (sigA t R.sg (relA t 0 R.ev s))
  refine ⟨l1 ++ (l2 ++ l3), by unfold arrA; rw [h3, h2, h1]; simp, fun e he => ?_⟩
  rcases List.mem_append.1 he with he | he
  · exact g1 e he
  · rcases List.mem_append.1 he with he | he
    · exact g2 e he
    · exact g3 e he
/-- a tick's entries: those of the arrivals, then the collector's alone, or nothing, or work and what follows -/
theorem tick_new (R : Rn) (t : Int) (s : Ms) : ∃ l, (tckA R t s).o = s.o ++ l ∧
    ((t % R.fr < R.sl ∧ ∃ l1, l = l1 ++ [⟨t, -1, 3, 0, 0⟩] ∧ ∀ e ∈ l1, e.w ≠ 3 ∧ e.w ≠ 4) ∨
     (¬ t % R.fr < R.sl ∧ (∀ e ∈ l, e.w ≠ 3) ∧ ((∀ e ∈ l, e.w ≠ 4) ∨ ∃ l1 e4 l2, l = l1 ++ (e4 :: l2) ∧ e4.w = 4 ∧ e4.m = t ∧ (∀ e ∈ l1, e.w ≠ 4) ∧ (∀ e ∈ l2, e.w ≠ 4)))) := by
  obtain ⟨l, h1, h2⟩ := arrA_newW R t s
  unfold tckA tckB
  by_cases hg : t % R.fr < R.sl
  · rw [if_pos hg]
    exact ⟨l ++ [⟨t, -1, 3, 0, 0⟩], by unfold Ms.wr; simp only []; rw [h1, List.append_assoc], .inl ⟨hg, l, rfl, h2⟩⟩
  · rw [if_neg hg]
    by_cases hc : 0 ≤ chM R.L (arrA R t s)
    · rw [if_pos hc, wkA_cases]
      obtain ⟨y, hy⟩ : ∃ y, (chM R.L (arrA R t s)).toNat = y := ⟨_, rfl⟩
      rw [hy]
      have key : ∀ l2 : List En, (∀ e ∈ l2, e.w ≠ 3 ∧ e.w ≠ 4) → (∀ e ∈ l ++ (⟨t, y, 4, ((arrA R t s).ja y).p, (arrA R t s).hd y⟩ :: l2), e.w ≠ 3) := fun l2 g e he => by
        rcases List.mem_append.1 he with he | he
        · exact (h2 e he).1
        · rcases List.mem_cons.1 he with rfl | he
          · simp
          · exact (g e he).1
      split
      · have g : ∀ e ∈ [(⟨t + 1, y, 5, (wk1 R t y (arrA R t s)).hd y, 0⟩ : En)], e.w ≠ 3 ∧ e.w ≠ 4 := fun e he => by simp at he; subst he; simp
        exact ⟨l ++ (⟨t, y, 4, ((arrA R t s).ja y).p, (arrA R t s).hd y⟩ :: [⟨t + 1, y, 5, (wk1 R t y (arrA R t s)).hd y, 0⟩]), by unfold fin1; unfold wk1; simp only []; rw [h1]; simp, .inr ⟨hg, key _ g, .inr ⟨l, _, _, rfl, rfl, rfl, fun e he => (h2 e he).2, fun e he => (g e he).2⟩⟩⟩
      · split
        · have g : ∀ e ∈ [(⟨t + 1, y, 6, (arrA R t s).hd y, 0⟩ : En)], e.w ≠ 3 ∧ e.w ≠ 4 := fun e he => by simp at he; subst he; simp
          exact ⟨l ++ (⟨t, y, 4, ((arrA R t s).ja y).p, (arrA R t s).hd y⟩ :: [⟨t + 1, y, 6, (arrA R t s).hd y, 0⟩]), by unfold wk2; simp only []; rw [h1]; simp, .inr ⟨hg, key _ g, .inr ⟨l, _, _, rfl, rfl, rfl, fun e he => (h2 e he).2, fun e he => (g e he).2⟩⟩⟩
        · exact ⟨l ++ (⟨t, y, 4, ((arrA R t s).ja y).p, (arrA R t s).hd y⟩ :: []), by unfold wk1; simp only []; rw [h1]; simp, .inr ⟨hg, key _ (fun e he => by simp at he), .inr ⟨l, _, _, rfl, rfl, rfl, fun e he => (h2 e he).2, fun e he => by simp at he⟩⟩⟩
    · rw [if_neg hc]
      exact ⟨l, h1, .inr ⟨hg, fun e he => (h2 e he).1, .inl (fun e he => (h2 e he).2)⟩⟩
theorem cnt3 (R : Rn) : ∀ k : Nat, cntE (isW 3) (plM R k).o = gcN R k
  | 0 => rfl
  | k + 1 => by
    obtain ⟨l, h1, h2⟩ := tick_new R k (plM R k)
    rw [plM, h1, cntE_app, cnt3 R k, gcN]
    rcases h2 with ⟨hg, l1, rfl, h3⟩ | ⟨hg, h3, _⟩
    · rw [if_pos hg, cntE_app, cntE_none _ l1 (fun e he => by unfold isW; exact decide_eq_false (h3 e he).1)]
      rfl
    · rw [if_neg hg, cntE_none _ l (fun e he => by unfold isW; exact decide_eq_false (h3 e he))]
/-- idle ticks -/
def idleN (R : Rn) (t : Nat) : Int := t - cntE isBusy (plM R t).o
theorem all_ticks {R : Rn} (hr : RnOk R) (t : Nat) : idleN R t + sumI (wkRow R.L.length (plM R t).o) + gcN R t = t := by
  obtain ⟨_, _, h⟩ := plM_ei hr t
  have h1 := wkRow_sum (n := R.L.length) (plM R t).o [] (fun e he hw => by obtain ⟨i, _, _, hi, _, _, hl, _⟩ := h.ok4 e he hw; exact ⟨i, hi, hl⟩)
  rw [List.nil_append, wkRow_nil, sumI_zeros] at h1
  have h2 := cntE_or (p := isW 3) (q := isW 4) (r := isBusy) (plM R t).o (fun e _ => by unfold isW isBusy; simp; omega)
  unfold idleN
  rw [h1, h2, cnt3]; omega
/-- the longest pause, as the program takes it from the entries -/
abbrev PZ := Int × Int × Int
def pzS (s : PZ) (e : En) : PZ := if e.w = 3 then (max s.1 ((if e.m = s.2.2 + 1 then s.2.1 else 0) + 1), (if e.m = s.2.2 + 1 then s.2.1 else 0) + 1, e.m) else s
def pzF (o : List En) : PZ := o.foldl pzS (0, 0, -1)
theorem pz_skip : ∀ (l : List En) (s : PZ), (∀ e ∈ l, e.w ≠ 3) → l.foldl pzS s = s
  | [], _, _ => rfl
  | e :: l, s, h => by
    rw [List.foldl_cons]
    have : pzS s e = s := by unfold pzS; rw [if_neg (h e (by simp))]
    rw [this]
    exact pz_skip l s (fun x hx => h x (by simp [hx]))
/-- as the reference counts -/
def pzR (R : Rn) : Nat → Int × Int
  | 0 => (0, 0)
  | t + 1 => if (t : Int) % R.fr < R.sl then (max (pzR R t).1 ((pzR R t).2 + 1), (pzR R t).2 + 1) else (max (pzR R t).1 0, 0)
theorem pzR_pos (R : Rn) : ∀ t, 0 ≤ (pzR R t).1 ∧ 0 ≤ (pzR R t).2
  | 0 => by simp [pzR]
  | t + 1 => by
    have := pzR_pos R t
    rw [pzR]
    split <;> simp only [] <;> omega
theorem pz_same (R : Rn) : ∀ t : Nat, (pzF (plM R t).o).1 = (pzR R t).1 ∧ (pzF (plM R t).o).2.2 < t ∧ (if (pzF (plM R t).o).2.2 + 1 = t then (pzF (plM R t).o).2.1 = (pzR R t).2 else (pzR R t).2 = 0)
  | 0 => by
    have : pzF (plM R 0).o = (0, 0, -1) := rfl
    rw [this]
    simp [pzR]
  | t + 1 => by
    obtain ⟨h1, h2, h3⟩ := pz_same R t
    obtain ⟨l, e1, e2⟩ := tick_new R t (plM R t)
    have hz := pzR_pos R t
    have e0 : pzF (plM R (t + 1)).o = l.foldl pzS (pzF (plM R t).o) := by rw [plM, e1]; unfold pzF; rw [List.foldl_append]
    rw [e0, pzR]
    obtain ⟨s, hs⟩ : ∃ s, pzF (plM R t).o = s := ⟨_, rfl⟩
    rw [hs] at h1 h2 h3 ⊢
    obtain ⟨m, n, la⟩ := s
    simp only [] at h1 h2 h3
    rcases e2 with ⟨hg, l1, rfl, g⟩ | ⟨hg, g, _⟩
    · rw [if_pos hg, List.foldl_append, pz_skip l1 _ (fun e he => (g e he).1)]
      have : List.foldl pzS (m, n, la) [⟨t, -1, 3, 0, 0⟩] = (max m ((if (t : Int) = la + 1 then n else 0) + 1), (if (t : Int) = la + 1 then n else 0) + 1, (t : Int)) := rfl
      rw [this]
      have en : (if (t : Int) = la + 1 then n else 0) = (pzR R t).2 := by
        by_cases q : la + 1 = (t : Int)
        · rw [if_pos q] at h3; rw [if_pos q.symm, h3]
        · rw [if_neg q] at h3; rw [if_neg (fun x => q x.symm), h3]
      rw [en]
      refine ⟨by simp only []; rw [h1], by simp only []; omega, ?_⟩
      simp only []
      rw [if_pos (by omega)]
      trivial
    · rw [if_neg hg, pz_skip l _ g]
      refine ⟨by simp only []; omega, by simp only []; omega, ?_⟩
      simp only []
      rw [if_neg (by omega)]
      trivial
theorem pzR_le {R : Rn} (hf : 1 ≤ R.fr) (hs : 0 ≤ R.sl ∧ R.sl < R.fr) : ∀ t : Nat, (pzR R t).1 ≤ R.sl ∧ (pzR R t).2 ≤ (t : Int) % R.fr
  | 0 => by simp [pzR]; omega
  | t + 1 => by
    obtain ⟨h1, h2⟩ := pzR_le hf hs t
    have hz := pzR_pos R t
    have m0 := Int.emod_nonneg (t : Int) (show R.fr ≠ 0 by omega)
    have m1 := Int.emod_nonneg ((t + 1 : Nat) : Int) (show R.fr ≠ 0 by omega)
    rw [pzR]
    split
    · rename_i hg
      have e : ((t + 1 : Nat) : Int) % R.fr = (t : Int) % R.fr + 1 := by
        rw [show ((t + 1 : Nat) : Int) = (t : Int) + 1 by omega, Int.add_emod, Int.emod_eq_of_lt (a := 1) (by omega) (by omega), Int.emod_eq_of_lt (by omega) (by omega)]
      rw [e]
      simp only []; omega
    · simp only []; omega
/-- how often a job was preempted: so far, the last entry of work -/
abbrev PS := Int × En
def preS (X : Nat → List Int) (s : PS) (e : En) : PS :=
  if e.w = 4 then (if 0 ≤ s.2.k ∧ (s.2.k ≠ e.k ∨ s.2.b ≠ e.b) ∧ ((((X s.2.k.toNat)[s.2.b.toNat]?).getD 0) < 0 ∨ e.m < (((X s.2.k.toNat)[s.2.b.toNat]?).getD 0)) then s.1 + 1 else s.1, e) else s
def preF (X : Nat → List Int) (o : List En) : PS := o.foldl (preS X) (0, ⟨0, -1, 0, 0, 0⟩)
theorem preS_bd (X : Nat → List Int) : ∀ (o : List En) (s : PS), s.1 ≤ (o.foldl (preS X) s).1 ∧ (o.foldl (preS X) s).1 ≤ s.1 + o.length
  | [], s => by simp
  | e :: o, s => by
    have h := preS_bd X o (preS X s e)
    have : s.1 ≤ (preS X s e).1 ∧ (preS X s e).1 ≤ s.1 + 1 := by
      unfold preS
      split
      · simp only []
        split <;> omega
      · omega
    rw [List.foldl_cons, List.length_cons]; omega
/-- work behind one while its job is there: b tells who is behind -/
def blkE (b : Int → Bool) (f e : Int) (x : En) : Bool := decide (x.w = 4) && (decide (f ≤ x.m) && ((decide (e < 0) || decide (x.m < e)) && b x.k))
end Go.Proofs.Ytlhnhmimhpcoaaa
namespace Go.Proofs.Ytlhnhmimhpcoaaa
open Go.RowKit
set_option linter.unusedSimpArgs false
set_option linter.unusedVariables false
def idleR (R : Rn) (t : Int) : Int × Int := if (runB R && inB t 0 2000) = true then (idleN R t.toNat, 0) else (0, 1)
def pauseR (R : Rn) (t : Int) : Int × Int := if (runB R && inB t 0 2000) = true then ((pzR R t.toNat).1, 0) else (0, 1)
theorem cnt_take {p : En → Bool} {o : List En} {k : Nat} {x : En} (h : o[k]? = some x) : cntE p (o.take (k + 1)) = cntE p (o.take k) + (if p x = true then 1 else 0) := by
  rw [take_one h, cntE_app]; simp [cntE]
theorem cnt_take_bd (p : En → Bool) (o : List En) (k : Nat) : 0 ≤ cntE p (o.take k) ∧ cntE p (o.take k) ≤ o.length := by
  have := cntE_bd p (o.take k)
  rw [List.length_take] at this; omega
set_option maxRecDepth 100000 in
set_option maxHeartbeats 4000000 in
theorem Idle_any (H : RunH) (R : Rn) (t : Int) (w : World) (hR : ReadRun w H R) : Calls Try.prog 39 #[runV H R.fr R.sl, .int .i64 t] w fun e w' => e = rII (idleR R t).1 (idleR R t).2 ∧ Below w.heap.size w w' := by
  obtain ⟨B, hB⟩ : ∃ B, (runB R && inB t 0 2000) = B := ⟨_, rfl⟩
  unfold idleR
  rw [hB]
  have HI := Lib.hid (fun w1 (hb : Below w.heap.size w w1) => is_any H R t w1 (hR.ext hb) hB)
  cases B
  · obtain ⟨fr, hfr⟩ : ∃ x, R.fr = x := ⟨_, rfl⟩
    obtain ⟨sl_, hsl⟩ : ∃ x, R.sl = x := ⟨_, rfl⟩
    rw [hfr, hsl] at HI ⊢
    obtain ⟨tA, tN, tC, eA, eN, eC, bA, bN, bC, sA, sN, sC⟩ := H
    unfold runV at HI ⊢
    simp only [] at HI ⊢
    clear hR hB hfr hsl
    go_enter Try.func39, Try.ntmps39
    go_wp2_with (go_at_call 45; (with_reducible refine (HI.out _ (by (repeat' (first | (with_reducible exact Below.refl _ _) | (with_reducible assumption) | (with_reducible refine Below.alloc ?_ ?_ _) | (with_reducible refine Below.drew ?_) | (with_reducible refine Below.draws ?_ _) | (with_reducible refine Below.setCell ?_ ?_ _) | (refine Below.then ?_ (by with_reducible assumption)) | go_size)))).mono ?_); rintro e w1 ⟨rfl, hb1⟩; have B1 : Hid (Below w.heap.size w w1) := Lib.hid (Below.trans (by (repeat' (first | (with_reducible exact Below.refl _ _) | (with_reducible assumption) | (with_reducible refine Below.alloc ?_ ?_ _) | (with_reducible refine Below.drew ?_) | (with_reducible refine Below.draws ?_ _) | (with_reducible refine Below.setCell ?_ ?_ _) | (refine Below.then ?_ (by with_reducible assumption)) | go_size))) (hb1.mono (by simp))); have z1 : w.heap.size < w1.heap.size := Nat.lt_of_lt_of_le (by simp) hb1.size; have c1_0 := (hb1.cell (p := ⟨w.heap.size, 0, none⟩) (by simp)).trans (by simp [go_sem]; rfl); have c1_1 := (hb1.cell (p := ⟨w.heap.size, 1, none⟩) (by simp)).trans (by simp [go_sem]; rfl); have c1_2 := (hb1.cell (p := ⟨w.heap.size, 2, none⟩) (by simp)).trans (by simp [go_sem]; rfl); have c1_3 := (hb1.cell (p := ⟨w.heap.size, 3, none⟩) (by simp)).trans (by simp [go_sem]; rfl); have c1_4 := (hb1.cell (p := ⟨w.heap.size, 4, none⟩) (by simp)).trans (by simp [go_sem]; rfl); have c1_5 := (hb1.cell (p := ⟨w.heap.size, 5, none⟩) (by simp)).trans (by simp [go_sem]; rfl); clear hb1)
    go_ret2
    exact ⟨rfl, B1.out⟩
  · rw [Bool.and_eq_true, inB_iff] at hB
    obtain ⟨tn, rfl⟩ := Int.eq_ofNat_of_zero_le hB.2.1
    rw [if_pos rfl, Int.toNat_natCast]
    unfold idleN
    have hol := plM_olen (run_ok hB.1).1 (show tn ≤ 2000 by omega)
    have htn : tn ≤ 2000 := by omega
    have HP := Lib.hid (fun w1 (hb : Below w.heap.size w w1) => play_any H R tn w1 (hR.ext hb).rd (run_ok hB.1).1 (by omega))
    obtain ⟨o, ho⟩ : ∃ x, (plM R tn).o = x := ⟨_, rfl⟩
    rw [ho] at HP hol ⊢
    obtain ⟨Z, hZ⟩ : ∃ Z, (tn : Int) - cntE isBusy o = Z := ⟨_, rfl⟩
    rw [hZ]
    have HZ := Lib.hid hZ
    obtain ⟨fr, hfr⟩ : ∃ x, R.fr = x := ⟨_, rfl⟩
    obtain ⟨sl_, hsl⟩ : ∃ x, R.sl = x := ⟨_, rfl⟩
    rw [hfr, hsl] at HI HP ⊢
    obtain ⟨tA, tN, tC, eA, eN, eC, bA, bN, bC, sA, sN, sC⟩ := H
    unfold runV at HI ⊢
    simp only [] at HI HP ⊢
    clear hR hB hfr hsl ho hZ
    go_enter Try.func39, Try.ntmps39
    go_wp2_with (first | (go_at_call 45; (with_reducible refine (HI.out _ (by (repeat' (first | (with_reducible exact Below.refl _ _) | (with_reducible assumption) | (with_reducible refine Below.alloc ?_ ?_ _) | (with_reducible refine Below.drew ?_) | (with_reducible refine Below.draws ?_ _) | (with_reducible refine Below.setCell ?_ ?_ _) | (refine Below.then ?_ (by with_reducible assumption)) | go_size)))).mono ?_); rintro e w1 ⟨rfl, hb1⟩; have B1 : Hid (Below w.heap.size w w1) := Lib.hid (Below.trans (by (repeat' (first | (with_reducible exact Below.refl _ _) | (with_reducible assumption) | (with_reducible refine Below.alloc ?_ ?_ _) | (with_reducible refine Below.drew ?_) | (with_reducible refine Below.draws ?_ _) | (with_reducible refine Below.setCell ?_ ?_ _) | (refine Below.then ?_ (by with_reducible assumption)) | go_size))) (hb1.mono (by simp))); have z1 : w.heap.size < w1.heap.size := Nat.lt_of_lt_of_le (by simp) hb1.size; have c1_0 := (hb1.cell (p := ⟨w.heap.size, 0, none⟩) (by simp)).trans (by simp [go_sem]; rfl); have c1_1 := (hb1.cell (p := ⟨w.heap.size, 1, none⟩) (by simp)).trans (by simp [go_sem]; rfl); have c1_2 := (hb1.cell (p := ⟨w.heap.size, 2, none⟩) (by simp)).trans (by simp [go_sem]; rfl); have c1_3 := (hb1.cell (p := ⟨w.heap.size, 3, none⟩) (by simp)).trans (by simp [go_sem]; rfl); have c1_4 := (hb1.cell (p := ⟨w.heap.size, 4, none⟩) (by simp)).trans (by simp [go_sem]; rfl); have c1_5 := (hb1.cell (p := ⟨w.heap.size, 5, none⟩) (by simp)).trans (by simp [go_sem]; rfl); clear hb1) | (go_at_call 46; (with_reducible refine (HP.out _ B1.out).mono ?_); rintro e w2 ⟨a2, n2, c2', rfl, h2, hb2⟩; have HO2 := Lib.hid (Rd.of_owns encE_len (by decide) h2); clear h2; have B2 := Lib.hid (Below.then B1.out hb2); have z2 : w.heap.size < w2.heap.size := Nat.lt_of_lt_of_le z1 hb2.size; have c2_0 := (hb2.cell (p := ⟨w.heap.size, 0, none⟩) z1).trans c1_0; have c2_1 := (hb2.cell (p := ⟨w.heap.size, 1, none⟩) z1).trans c1_1; have c2_2 := (hb2.cell (p := ⟨w.heap.size, 2, none⟩) z1).trans c1_2; have c2_3 := (hb2.cell (p := ⟨w.heap.size, 3, none⟩) z1).trans c1_3; have c2_4 := (hb2.cell (p := ⟨w.heap.size, 4, none⟩) z1).trans c1_4; have c2_5 := (hb2.cell (p := ⟨w.heap.size, 5, none⟩) z1).trans c1_5; clear hb2 c1_0 c1_1 c1_2 c1_3 c1_4 c1_5))
    have hn2 : n2 ≤ 504000 := by rw [← HO2.out.length]; exact hol
    go_loopw [1, 16] (fun v1 v16 wr => ∃ k : Nat, k ≤ n2 ∧ v1 = .int .i64 ((tn : Int) - cntE isBusy (o.take k)) ∧ v16 = .int .i64 k ∧ Below w2.heap.size w2 wr) (fun _ v _ => n2 - (intOf v).toNat)
    case atStart => exact ⟨0, Nat.zero_le _, by simp [cntE], rfl, Below.refl _ _⟩
    case round =>
      obtain ⟨k, hk, rfl, rfl, hB⟩ := hrel
      have HB := Lib.hid hB
      have hbd := cnt_take_bd isBusy o k
      by_cases hkn : k < n2
      · obtain ⟨x, b1, o1, rfl, hb1, hx, q0, q1, q2, q3, q4⟩ := (HO2.out.ext hB).en_at k hkn
        have htk := cnt_take (p := isBusy) hx
        obtain ⟨C, hC⟩ : ∃ C, cntE isBusy (o.take k) = C := ⟨_, rfl⟩
        rw [hC] at htk hbd ⊢
        have wr1 : IntKind.i64.wrap ((tn : Int) - C - 1) = (tn : Int) - C - 1 := IntWalk.i64_in _ (by omega)
        obtain ⟨m1, k1, w1', a1, c1⟩ := x
        simp only [] at q0 q1 q2 q3 q4
        by_cases h4 : w1' = 4
        · subst h4
          have e : (tn : Int) - C - 1 = (tn : Int) - cntE isBusy (o.take (k + 1)) := by rw [htk, if_pos (by simp [isBusy])]; omega
          have HE := Lib.hid e
          clear hB hx htk hC hbd e
          go_wp2
          go_roundw
          case rel => exact ⟨k + 1, hkn, by first | rfl | (rw [← HE.out]), by go_num, Below.then HB.out (by (repeat' (first | (with_reducible exact Below.refl _ _) | (with_reducible assumption) | (with_reducible refine Below.alloc ?_ ?_ _) | (with_reducible refine Below.drew ?_) | (with_reducible refine Below.draws ?_ _) | (with_reducible refine Below.setCell ?_ ?_ _) | (refine Below.then ?_ (by with_reducible assumption)) | go_size)))⟩
          case measure => simp [intOf]; omega
        · have h4' : (w1' == 4) = false := by simpa using h4
          by_cases h3 : w1' = 3
          · subst h3
            have e : (tn : Int) - C - 1 = (tn : Int) - cntE isBusy (o.take (k + 1)) := by rw [htk, if_pos (by simp [isBusy])]; omega
            have HE := Lib.hid e
            clear hB hx htk hC hbd e
            go_wp2
            go_roundw
            case rel => exact ⟨k + 1, hkn, by first | rfl | (rw [← HE.out]), by go_num, Below.then HB.out (by (repeat' (first | (with_reducible exact Below.refl _ _) | (with_reducible assumption) | (with_reducible refine Below.alloc ?_ ?_ _) | (with_reducible refine Below.drew ?_) | (with_reducible refine Below.draws ?_ _) | (with_reducible refine Below.setCell ?_ ?_ _) | (refine Below.then ?_ (by with_reducible assumption)) | go_size)))⟩
            case measure => simp [intOf]; omega
          · have h3' : (w1' == 3) = false := by simpa using h3
            have e : cntE isBusy (o.take (k + 1)) = C := by rw [htk, if_neg (by simp [isBusy, h3, h4])]; omega
            have HE := Lib.hid e
            clear hB hx htk hC hbd e
            go_wp2
            go_roundw
            case rel => exact ⟨k + 1, hkn, by rw [HE.out], by go_num, Below.then HB.out (by (repeat' (first | (with_reducible exact Below.refl _ _) | (with_reducible assumption) | (with_reducible refine Below.alloc ?_ ?_ _) | (with_reducible refine Below.drew ?_) | (with_reducible refine Below.draws ?_ _) | (with_reducible refine Below.setCell ?_ ?_ _) | (refine Below.then ?_ (by with_reducible assumption)) | go_size)))⟩
            case measure => simp [intOf]; omega
      · have e : (tn : Int) - cntE isBusy (o.take k) = Z := by rw [List.take_of_length_le (by rw [HO2.out.length]; omega), HZ.out]
        rw [e]
        clear hB hbd e
        go_wp2
        go_ret2
        exact ⟨rfl, B2.out.trans (HB.out.mono B2.out.size)⟩
theorem pzF_take {o : List En} {k : Nat} {x : En} (h : o[k]? = some x) : pzF (o.take (k + 1)) = pzS (pzF (o.take k)) x := by
  rw [take_one h]; unfold pzF; rw [List.foldl_append]; rfl
/-- bounds along the entries -/
theorem pz_bd {M : Int} : ∀ (l : List En) (s : PZ), (∀ e ∈ l, 0 ≤ e.m ∧ e.m ≤ M) → (0 ≤ s.1 ∧ 0 ≤ s.2.1 ∧ -1 ≤ s.2.2 ∧ s.2.2 ≤ M) → 0 ≤ M → s.1 ≤ s.1 + l.length ∧ 0 ≤ (l.foldl pzS s).1 ∧ 0 ≤ (l.foldl pzS s).2.1 ∧ (l.foldl pzS s).2.1 ≤ s.2.1 + l.length ∧ -1 ≤ (l.foldl pzS s).2.2 ∧ (l.foldl pzS s).2.2 ≤ M
  | [], s, _, h, _ => by simp; omega
  | e :: l, s, he, h, hM => by
    have h1 := he e (by simp)
    have ih := pz_bd (M := M) l (pzS s e) (fun x hx => he x (by simp [hx])) (by
      unfold pzS
      split
      · simp only []
        split <;> omega
      · exact h) hM
    have h2 : (pzS s e).2.1 ≤ s.2.1 + 1 := by
      unfold pzS
      split
      · simp only []
        split <;> omega
      · omega
    rw [List.foldl_cons, List.length_cons]
    refine ⟨by omega, ih.2.1, ih.2.2.1, by have := ih.2.2.2.1; omega, ih.2.2.2.2⟩
set_option maxRecDepth 100000 in
set_option maxHeartbeats 4000000 in
theorem Pause_any (H : RunH) (R : Rn) (t : Int) (w : World) (hR : ReadRun w H R) : Calls Try.prog 41 #[runV H R.fr R.sl, .int .i64 t] w fun e w' => e = rII (pauseR R t).1 (pauseR R t).2 ∧ Below w.heap.size w w' := by
  obtain ⟨B, hB⟩ : ∃ B, (runB R && inB t 0 2000) = B := ⟨_, rfl⟩
  unfold pauseR
  rw [hB]
  have HI := Lib.hid (fun w1 (hb : Below w.heap.size w w1) => is_any H R t w1 (hR.ext hb) hB)
  cases B
  · obtain ⟨fr, hfr⟩ : ∃ x, R.fr = x := ⟨_, rfl⟩
    obtain ⟨sl_, hsl⟩ : ∃ x, R.sl = x := ⟨_, rfl⟩
    rw [hfr, hsl] at HI ⊢
    obtain ⟨tA, tN, tC, eA, eN, eC, bA, bN, bC, sA, sN, sC⟩ := H
    unfold runV at HI ⊢
    simp only [] at HI ⊢
    clear hR hB hfr hsl
    go_enter Try.func41, Try.ntmps41
    go_wp2_with (go_at_call 45; (with_reducible refine (HI.out _ (by (repeat' (first | (with_reducible exact Below.refl _ _) | (with_reducible assumption) | (with_reducible refine Below.alloc ?_ ?_ _) | (with_reducible refine Below.drew ?_) | (with_reducible refine Below.draws ?_ _) | (with_reducible refine Below.setCell ?_ ?_ _) | (refine Below.then ?_ (by with_reducible assumption)) | go_size)))).mono ?_); rintro e w1 ⟨rfl, hb1⟩; have B1 : Hid (Below w.heap.size w w1) := Lib.hid (Below.trans (by (repeat' (first | (with_reducible exact Below.refl _ _) | (with_reducible assumption) | (with_reducible refine Below.alloc ?_ ?_ _) | (with_reducible refine Below.drew ?_) | (with_reducible refine Below.draws ?_ _) | (with_reducible refine Below.setCell ?_ ?_ _) | (refine Below.then ?_ (by with_reducible assumption)) | go_size))) (hb1.mono (by simp))); have z1 : w.heap.size < w1.heap.size := Nat.lt_of_lt_of_le (by simp) hb1.size; have c1_0 := (hb1.cell (p := ⟨w.heap.size, 0, none⟩) (by simp)).trans (by simp [go_sem]; rfl); have c1_1 := (hb1.cell (p := ⟨w.heap.size, 1, none⟩) (by simp)).trans (by simp [go_sem]; rfl); have c1_2 := (hb1.cell (p := ⟨w.heap.size, 2, none⟩) (by simp)).trans (by simp [go_sem]; rfl); have c1_3 := (hb1.cell (p := ⟨w.heap.size, 3, none⟩) (by simp)).trans (by simp [go_sem]; rfl); have c1_4 := (hb1.cell (p := ⟨w.heap.size, 4, none⟩) (by simp)).trans (by simp [go_sem]; rfl); have c1_5 := (hb1.cell (p := ⟨w.heap.size, 5, none⟩) (by simp)).trans (by simp [go_sem]; rfl); clear hb1)
    go_ret2
    exact ⟨rfl, B1.out⟩
  · rw [Bool.and_eq_true, inB_iff] at hB
    obtain ⟨tn, rfl⟩ := Int.eq_ofNat_of_zero_le hB.2.1
    rw [if_pos rfl, Int.toNat_natCast]
    rw [← (pz_same R tn).1]
    have hr := (run_ok hB.1).1
    have htn : tn ≤ 2000 := by omega
    have hol := plM_olen hr htn
    have hom : ∀ e ∈ (plM R tn).o, 0 ≤ e.m ∧ e.m ≤ 2000 := fun e he => by obtain ⟨_, _, h⟩ := plM_ei hr tn; have := h.okm e he; omega
    have HP := Lib.hid (fun w1 (hb : Below w.heap.size w w1) => play_any H R tn w1 (hR.ext hb).rd hr (by omega))
    obtain ⟨o, ho⟩ : ∃ x, (plM R tn).o = x := ⟨_, rfl⟩
    rw [ho] at HP hol hom ⊢
    have HOM := Lib.hid hom
    obtain ⟨Z, hZ⟩ : ∃ Z, pzF o = Z := ⟨_, rfl⟩
    rw [hZ]
    have HZ := Lib.hid hZ
    obtain ⟨fr, hfr⟩ : ∃ x, R.fr = x := ⟨_, rfl⟩
    obtain ⟨sl_, hsl⟩ : ∃ x, R.sl = x := ⟨_, rfl⟩
    rw [hfr, hsl] at HI HP ⊢
    obtain ⟨tA, tN, tC, eA, eN, eC, bA, bN, bC, sA, sN, sC⟩ := H
    unfold runV at HI ⊢
    simp only [] at HI HP ⊢
    clear hR hB hfr hsl ho hZ hr hom
    go_enter Try.func41, Try.ntmps41
    go_wp2_with (first | (go_at_call 45; (with_reducible refine (HI.out _ (by (repeat' (first | (with_reducible exact Below.refl _ _) | (with_reducible assumption) | (with_reducible refine Below.alloc ?_ ?_ _) | (with_reducible refine Below.drew ?_) | (with_reducible refine Below.draws ?_ _) | (with_reducible refine Below.setCell ?_ ?_ _) | (refine Below.then ?_ (by with_reducible assumption)) | go_size)))).mono ?_); rintro e w1 ⟨rfl, hb1⟩; have B1 : Hid (Below w.heap.size w w1) := Lib.hid (Below.trans (by (repeat' (first | (with_reducible exact Below.refl _ _) | (with_reducible assumption) | (with_reducible refine Below.alloc ?_ ?_ _) | (with_reducible refine Below.drew ?_) | (with_reducible refine Below.draws ?_ _) | (with_reducible refine Below.setCell ?_ ?_ _) | (refine Below.then ?_ (by with_reducible assumption)) | go_size))) (hb1.mono (by simp))); have z1 : w.heap.size < w1.heap.size := Nat.lt_of_lt_of_le (by simp) hb1.size; have c1_0 := (hb1.cell (p := ⟨w.heap.size, 0, none⟩) (by simp)).trans (by simp [go_sem]; rfl); have c1_1 := (hb1.cell (p := ⟨w.heap.size, 1, none⟩) (by simp)).trans (by simp [go_sem]; rfl); have c1_2 := (hb1.cell (p := ⟨w.heap.size, 2, none⟩) (by simp)).trans (by simp [go_sem]; rfl); have c1_3 := (hb1.cell (p := ⟨w.heap.size, 3, none⟩) (by simp)).trans (by simp [go_sem]; rfl); have c1_4 := (hb1.cell (p := ⟨w.heap.size, 4, none⟩) (by simp)).trans (by simp [go_sem]; rfl); have c1_5 := (hb1.cell (p := ⟨w.heap.size, 5, none⟩) (by simp)).trans (by simp [go_sem]; rfl); clear hb1) | (go_at_call 46; (with_reducible refine (HP.out _ B1.out).mono ?_); rintro e w2 ⟨a2, n2, c2', rfl, h2, hb2⟩; have HO2 := Lib.hid (Rd.of_owns encE_len (by decide) h2); clear h2; have B2 := Lib.hid (Below.then B1.out hb2); have z2 : w.heap.size < w2.heap.size := Nat.lt_of_lt_of_le z1 hb2.size; have c2_0 := (hb2.cell (p := ⟨w.heap.size, 0, none⟩) z1).trans c1_0; have c2_1 := (hb2.cell (p := ⟨w.heap.size, 1, none⟩) z1).trans c1_1; have c2_2 := (hb2.cell (p := ⟨w.heap.size, 2, none⟩) z1).trans c1_2; have c2_3 := (hb2.cell (p := ⟨w.heap.size, 3, none⟩) z1).trans c1_3; have c2_4 := (hb2.cell (p := ⟨w.heap.size, 4, none⟩) z1).trans c1_4; have c2_5 := (hb2.cell (p := ⟨w.heap.size, 5, none⟩) z1).trans c1_5; clear hb2 c1_0 c1_1 c1_2 c1_3 c1_4 c1_5))
    have hn2 : n2 ≤ 504000 := by rw [← HO2.out.length]; exact hol
    go_loopw [6, 7, 8, 19] (fun v6 v7 v8 v19 wr => ∃ k : Nat, k ≤ n2 ∧ v6 = .int .i64 (pzF (o.take k)).1 ∧ v7 = .int .i64 (pzF (o.take k)).2.1 ∧ v8 = .int .i64 (pzF (o.take k)).2.2 ∧ v19 = .int .i64 k ∧ Below w2.heap.size w2 wr) (fun _ _ _ v _ => n2 - (intOf v).toNat)
    case atStart => exact ⟨0, Nat.zero_le _, rfl, rfl, rfl, rfl, Below.refl _ _⟩
    case round =>
      obtain ⟨k, hk, rfl, rfl, rfl, rfl, hB⟩ := hrel
      have HB := Lib.hid hB
      have hbd := pz_bd (M := 2000) (o.take k) (0, 0, -1) (fun e he => HOM.out e (List.mem_of_mem_take he)) (by simp) (by omega)
      rw [show List.foldl pzS (0, 0, -1) (o.take k) = pzF (o.take k) from rfl, List.length_take] at hbd
      by_cases hkn : k < n2
      · obtain ⟨x, b1, o1, rfl, hb1, hx, q0, q1, q2, q3, q4⟩ := (HO2.out.ext hB).en_at k hkn
        have htk := pzF_take hx
        have hxm := HOM.out x (List.mem_of_getElem? hx)
        obtain ⟨⟨P, Nw, La⟩, hC⟩ : ∃ C, pzF (o.take k) = C := ⟨_, rfl⟩
        rw [hC] at htk hbd ⊢
        simp only [] at hbd ⊢
        obtain ⟨m1, k1, w1', a1, c1⟩ := x
        simp only [] at q0 q1 q2 q3 q4 hxm
        have wr1 : IntKind.i64.wrap (La + 1) = La + 1 := IntWalk.i64_in _ (by omega)
        have wr2 : IntKind.i64.wrap (Nw + 1) = Nw + 1 := IntWalk.i64_in _ (by omega)
        by_cases h3 : w1' = 3
        · subst h3
          unfold pzS at htk
          rw [if_pos rfl] at htk
          simp only [] at htk
          by_cases hm : m1 = La + 1
          · rw [if_pos hm] at htk
            have hm' : (m1 != La + 1) = false := by simpa using hm
            have hmx : (if P < Nw + 1 then Nw + 1 else P) = max P (Nw + 1) := by split <;> omega
            have HMM := Lib.hid hm
            have HTK := Lib.hid htk
            obtain ⟨X, hX⟩ : ∃ X, max P (Nw + 1) = X := ⟨_, rfl⟩
            rw [hX] at hmx
            have HX := Lib.hid hX
            have HMX := Lib.hid hmx
            clear hB hx htk hC hbd hX hmx hxm
            go_wp2_with (refine wp_region_later_lit (by kernel_rfl) (by kernel_rfl) ?_; (repeat (go_big_quiet_step (fail))); refine wpQuiet_nil ?_; intro w7 hb7)
            go_roundw
            case rel => exact ⟨k + 1, hkn, by rw [HTK.out] <;> first | rfl | (simp only []; rw [HX.out, HMX.out]) | (simp [HX.out, ← HMX.out]), by rw [HTK.out], by rw [HTK.out] <;> (first | rfl | (simp only []; rw [HMM.out]) | (simp only []; rw [← HMM.out])), by go_num, Below.then HB.out (Below.then (by (repeat' (first | (with_reducible exact Below.refl _ _) | (with_reducible assumption) | (with_reducible refine Below.alloc ?_ ?_ _) | (with_reducible refine Below.drew ?_) | (with_reducible refine Below.draws ?_ _) | (with_reducible refine Below.setCell ?_ ?_ _) | (refine Below.then ?_ (by with_reducible assumption)) | go_size))) hb7)⟩
            case measure => simp [intOf]; omega
          · rw [if_neg hm] at htk
            have hm' : (m1 != La + 1) = true := by simpa using hm
            have HTK := Lib.hid htk
            clear hB hx htk hC hbd hxm
            go_wp2_with (refine wp_region_later_lit (by kernel_rfl) (by kernel_rfl) ?_; (repeat (go_big_quiet_step (fail))); refine wpQuiet_nil ?_; intro w7 hb7)
            go_roundw
            case rel => exact ⟨k + 1, hkn, by rw [HTK.out] <;> first | rfl | (simp), by rw [HTK.out] <;> first | rfl | simp, by rw [HTK.out], by go_num, Below.then HB.out (Below.then (by (repeat' (first | (with_reducible exact Below.refl _ _) | (with_reducible assumption) | (with_reducible refine Below.alloc ?_ ?_ _) | (with_reducible refine Below.drew ?_) | (with_reducible refine Below.draws ?_ _) | (with_reducible refine Below.setCell ?_ ?_ _) | (refine Below.then ?_ (by with_reducible assumption)) | go_size))) hb7)⟩
            case measure => simp [intOf]; omega
        · have h3' : (w1' != 3) = true := by simpa using h3
          unfold pzS at htk
          rw [if_neg h3] at htk
          have HTK := Lib.hid htk
          clear hB hx htk hC hbd hxm
          go_wp2_with (refine wp_region_later_lit (by kernel_rfl) (by kernel_rfl) ?_; (repeat (go_big_quiet_step (fail))); refine wpQuiet_nil ?_; intro w7 hb7)
          go_roundw
          case rel => exact ⟨k + 1, hkn, by rw [HTK.out], by rw [HTK.out], by rw [HTK.out], by go_num, Below.then HB.out (by (repeat' (first | (with_reducible exact Below.refl _ _) | (with_reducible assumption) | (with_reducible refine Below.alloc ?_ ?_ _) | (with_reducible refine Below.drew ?_) | (with_reducible refine Below.draws ?_ _) | (with_reducible refine Below.setCell ?_ ?_ _) | (refine Below.then ?_ (by with_reducible assumption)) | go_size)))⟩
          case measure => simp [intOf]; omega
      · rw [List.take_of_length_le (by rw [HO2.out.length]; omega), HZ.out]
        clear hB hbd
        go_wp2
        go_ret2
        exact ⟨rfl, B2.out.trans (HB.out.mono B2.out.size)⟩
end Go.Proofs.Ytlhnhmimhpcoaaa
namespace Go.Proofs.Ytlhnhmimhpcoaaa
open Go.RowKit
set_option linter.unusedSimpArgs false
set_option linter.unusedVariables false
def workedR (R : Rn) (t : Int) : List Int × Int := if (runB R && inB t 0 2000) = true then (wkRow R.L.length (plM R t.toNat).o, 0) else ([], 1)
theorem wkRow_take4 {n i : Nat} {o : List En} {k : Nat} {x : En} (h : o[k]? = some x) (h4 : x.w = 4) (hi : x.k = (i : Int)) (hn : i < n) : wkRow n (o.take (k + 1)) = (wkRow n (o.take k)).set i (cntE (isWk i) (o.take k) + 1) := by
  rw [take_one h, wkRow_work h4 hi hn]
theorem wkRow_take {n : Nat} {o : List En} {k : Nat} {x : En} (h : o[k]? = some x) (h4 : x.w ≠ 4) : wkRow n (o.take (k + 1)) = wkRow n (o.take k) := by
  rw [take_one h, wkRow_other h4]
theorem plM_ok4 {R : Rn} (hr : RnOk R) (k : Nat) : ∀ e ∈ (plM R k).o, e.w = 4 → ∃ i p x : Nat, e.k = (i : Int) ∧ e.a = (p : Int) ∧ e.b = (x : Int) ∧ i < R.L.length ∧ p < (taAt R.L i).pcs.length ∧ x < (evA R i).length := by
  obtain ⟨_, _, h⟩ := plM_ei hr k
  exact h.ok4
theorem make_own (n : Nat) (hn : n ≤ 1000) (w : World) : (w.alloc (.cells (madeCells #[.int .i64 0] n) 3)).ownsRow w.heap.size 3 1 (.slice (some ⟨w.heap.size, 0, none⟩) n n) n ((List.replicate n (0 : Int)).flatMap enc1) := by
  have e : (madeCells #[Value.int .i64 0] n).toList = (List.replicate n (0 : Int)).flatMap enc1 := by
    rw [flat_enc1, List.map_replicate]; exact toList_madeCells_one _ n
  refine ⟨by rw [← e]; simp [madeCells], .inr ⟨w.heap.size, n, madeCells #[.int .i64 0] n, rfl, Nat.le_refl _, heap_alloc_new _ _, Nat.le_refl _, by unfold maxLen; omega, by simp [madeCells], ?_⟩⟩
  rw [← e, Nat.mul_one, List.take_of_length_le (by simp [madeCells])]
set_option maxRecDepth 100000 in
set_option maxHeartbeats 4000000 in
theorem Worked_any (H : RunH) (R : Rn) (t : Int) (w : World) (hR : ReadRun w H R) : Calls Try.prog 37 #[runV H R.fr R.sl, .int .i64 t] w (OutTE w.heap.size w (workedR R t).1 (workedR R t).2) := by
  obtain ⟨B, hB⟩ : ∃ B, (runB R && inB t 0 2000) = B := ⟨_, rfl⟩
  unfold workedR
  rw [hB]
  have HI := Lib.hid (fun w1 (hb : Below w.heap.size w w1) => is_any H R t w1 (hR.ext hb) hB)
  cases B
  · obtain ⟨fr, hfr⟩ : ∃ x, R.fr = x := ⟨_, rfl⟩
    obtain ⟨sl_, hsl⟩ : ∃ x, R.sl = x := ⟨_, rfl⟩
    rw [hfr, hsl] at HI ⊢
    obtain ⟨tA, tN, tC, eA, eN, eC, bA, bN, bC, sA, sN, sC⟩ := H
    unfold runV at HI ⊢
    simp only [] at HI ⊢
    clear hR hB hfr hsl
    go_enter Try.func37, Try.ntmps37
    go_wp2_with (go_at_call 45; (with_reducible refine (HI.out _ (by (repeat' (first | (with_reducible exact Below.refl _ _) | (with_reducible assumption) | (with_reducible refine Below.alloc ?_ ?_ _) | (with_reducible refine Below.drew ?_) | (with_reducible refine Below.draws ?_ _) | (with_reducible refine Below.setCell ?_ ?_ _) | (refine Below.then ?_ (by with_reducible assumption)) | go_size)))).mono ?_); rintro e w1 ⟨rfl, hb1⟩; have B1 : Hid (Below w.heap.size w w1) := Lib.hid (Below.trans (by (repeat' (first | (with_reducible exact Below.refl _ _) | (with_reducible assumption) | (with_reducible refine Below.alloc ?_ ?_ _) | (with_reducible refine Below.drew ?_) | (with_reducible refine Below.draws ?_ _) | (with_reducible refine Below.setCell ?_ ?_ _) | (refine Below.then ?_ (by with_reducible assumption)) | go_size))) (hb1.mono (by simp))); have z1 : w.heap.size < w1.heap.size := Nat.lt_of_lt_of_le (by simp) hb1.size; have c1_0 := (hb1.cell (p := ⟨w.heap.size, 0, none⟩) (by simp)).trans (by simp [go_sem]; rfl); have c1_1 := (hb1.cell (p := ⟨w.heap.size, 1, none⟩) (by simp)).trans (by simp [go_sem]; rfl); have c1_2 := (hb1.cell (p := ⟨w.heap.size, 2, none⟩) (by simp)).trans (by simp [go_sem]; rfl); have c1_3 := (hb1.cell (p := ⟨w.heap.size, 3, none⟩) (by simp)).trans (by simp [go_sem]; rfl); have c1_4 := (hb1.cell (p := ⟨w.heap.size, 4, none⟩) (by simp)).trans (by simp [go_sem]; rfl); have c1_5 := (hb1.cell (p := ⟨w.heap.size, 5, none⟩) (by simp)).trans (by simp [go_sem]; rfl); clear hb1)
    go_ret2
    exact OutTE.none B1.out
  · rw [Bool.and_eq_true, inB_iff] at hB
    obtain ⟨tn, rfl⟩ := Int.eq_ofNat_of_zero_le hB.2.1
    rw [if_pos rfl, Int.toNat_natCast]
    have hr := (run_ok hB.1).1
    have htn : tn ≤ 2000 := by omega
    have hol := plM_olen hr htn
    have hok := plM_ok4 hr tn
    have HP := Lib.hid (fun w1 (hb : Below w.heap.size w w1) => play_any H R tn w1 (hR.ext hb).rd hr (by omega))
    obtain ⟨o, ho⟩ : ∃ x, (plM R tn).o = x := ⟨_, rfl⟩
    rw [ho] at HP hol hok ⊢
    have hTN := hR.t.length
    have hL5 := hr.r.len
    obtain ⟨nL, hnL⟩ : ∃ x, R.L.length = x := ⟨_, rfl⟩
    rw [hnL] at hTN hL5 ⊢
    have HOK : Hid (∀ e ∈ o, e.w = 4 → ∃ i : Nat, e.k = (i : Int) ∧ i < nL) := Lib.hid (fun e he h4 => by obtain ⟨i, _, _, h1, _, _, h2, _⟩ := hok e he h4; exact ⟨i, h1, by rw [← hnL]; exact h2⟩)
    have HOL := Lib.hid hol
    obtain ⟨Z, hZ⟩ : ∃ Z, wkRow nL o = Z := ⟨_, rfl⟩
    rw [hZ]
    have HZ := Lib.hid hZ
    obtain ⟨fr, hfr⟩ : ∃ x, R.fr = x := ⟨_, rfl⟩
    obtain ⟨sl_, hsl⟩ : ∃ x, R.sl = x := ⟨_, rfl⟩
    rw [hfr, hsl] at HI HP ⊢
    obtain ⟨tA, tN, tC, eA, eN, eC, bA, bN, bC, sA, sN, sC⟩ := H
    unfold runV at HI ⊢
    simp only [] at HI HP hTN ⊢
    obtain rfl : nL = tN := hTN
    clear hR hB hfr hsl ho hZ hr hok hnL hol
    have hmk1 := run_make_row' (P := Try.prog) 26 3 (.int .i64 0) 8 Try.underlying26 (by kernel_rfl) rfl .i64 .i64 nL (by omega) (by omega)
    go_enter Try.func37, Try.ntmps37
    go_upto_region 4 with (go_at_call 45; (with_reducible refine (HI.out _ (by (repeat' (first | (with_reducible exact Below.refl _ _) | (with_reducible assumption) | (with_reducible refine Below.alloc ?_ ?_ _) | (with_reducible refine Below.drew ?_) | (with_reducible refine Below.draws ?_ _) | (with_reducible refine Below.setCell ?_ ?_ _) | (refine Below.then ?_ (by with_reducible assumption)) | go_size)))).mono ?_); rintro e w1 ⟨rfl, hb1⟩; have B1 : Hid (Below w.heap.size w w1) := Lib.hid (Below.trans (by (repeat' (first | (with_reducible exact Below.refl _ _) | (with_reducible assumption) | (with_reducible refine Below.alloc ?_ ?_ _) | (with_reducible refine Below.drew ?_) | (with_reducible refine Below.draws ?_ _) | (with_reducible refine Below.setCell ?_ ?_ _) | (refine Below.then ?_ (by with_reducible assumption)) | go_size))) (hb1.mono (by simp))); have z1 : w.heap.size < w1.heap.size := Nat.lt_of_lt_of_le (by simp) hb1.size; have c1_0 := (hb1.cell (p := ⟨w.heap.size, 0, none⟩) (by simp)).trans (by simp [go_sem]; rfl); have c1_1 := (hb1.cell (p := ⟨w.heap.size, 1, none⟩) (by simp)).trans (by simp [go_sem]; rfl); have c1_2 := (hb1.cell (p := ⟨w.heap.size, 2, none⟩) (by simp)).trans (by simp [go_sem]; rfl); have c1_3 := (hb1.cell (p := ⟨w.heap.size, 3, none⟩) (by simp)).trans (by simp [go_sem]; rfl); have c1_4 := (hb1.cell (p := ⟨w.heap.size, 4, none⟩) (by simp)).trans (by simp [go_sem]; rfl); have c1_5 := (hb1.cell (p := ⟨w.heap.size, 5, none⟩) (by simp)).trans (by simp [go_sem]; rfl); clear hb1)
    obtain ⟨w2, hw2⟩ : ∃ x, x = w1.alloc (.cells (madeCells #[.int .i64 0] nL) 3) := ⟨_, rfl⟩
    have hb2 : Below w1.heap.size w1 w2 := by rw [hw2]; (repeat' (first | (with_reducible exact Below.refl _ _) | (with_reducible assumption) | (with_reducible refine Below.alloc ?_ ?_ _) | (with_reducible refine Below.drew ?_) | (with_reducible refine Below.draws ?_ _) | (with_reducible refine Below.setCell ?_ ?_ _) | (refine Below.then ?_ (by with_reducible assumption)) | go_size))
    have HW2 : Hid (w2.ownsRow w1.heap.size 3 1 (.slice (some ⟨w1.heap.size, 0, none⟩) nL nL) nL ((wkRow nL (o.take 0)).flatMap enc1)) := Lib.hid (by rw [hw2, List.take_zero, wkRow_nil]; exact make_own nL (by omega) w1)
    have HZ2 : Hid (w1.heap.size < w2.heap.size) := Lib.hid (by rw [hw2]; simp)
    rw [← hw2]
    have B2 := Lib.hid (Below.then B1.out hb2); have z2 : w.heap.size < w2.heap.size := Nat.lt_of_lt_of_le z1 hb2.size; have c2_0 := (hb2.cell (p := ⟨w.heap.size, 0, none⟩) z1).trans c1_0; have c2_1 := (hb2.cell (p := ⟨w.heap.size, 1, none⟩) z1).trans c1_1; have c2_2 := (hb2.cell (p := ⟨w.heap.size, 2, none⟩) z1).trans c1_2; have c2_3 := (hb2.cell (p := ⟨w.heap.size, 3, none⟩) z1).trans c1_3; have c2_4 := (hb2.cell (p := ⟨w.heap.size, 4, none⟩) z1).trans c1_4; have c2_5 := (hb2.cell (p := ⟨w.heap.size, 5, none⟩) z1).trans c1_5; clear hb2 c1_0 c1_1 c1_2 c1_3 c1_4 c1_5
    clear hw2
    go_wp2_with (go_at_call 46; (with_reducible refine (HP.out _ B2.out).mono ?_); rintro e w3 ⟨a3, n3, c3', rfl, h3, hb3⟩; have HO3 := Lib.hid h3; have HW3 := Lib.hid (owns_ext HW2.out hb3); clear h3; have B3 := Lib.hid (Below.then B2.out hb3); have z3 : w.heap.size < w3.heap.size := Nat.lt_of_lt_of_le z2 hb3.size; have c3_0 := (hb3.cell (p := ⟨w.heap.size, 0, none⟩) z2).trans c2_0; have c3_1 := (hb3.cell (p := ⟨w.heap.size, 1, none⟩) z2).trans c2_1; have c3_2 := (hb3.cell (p := ⟨w.heap.size, 2, none⟩) z2).trans c2_2; have c3_3 := (hb3.cell (p := ⟨w.heap.size, 3, none⟩) z2).trans c2_3; have c3_4 := (hb3.cell (p := ⟨w.heap.size, 4, none⟩) z2).trans c2_4; have c3_5 := (hb3.cell (p := ⟨w.heap.size, 5, none⟩) z2).trans c2_5; clear hb3 c2_0 c2_1 c2_2 c2_3 c2_4 c2_5)
    have hn3 : n3 ≤ 504000 := by rw [← (Rd.of_owns encE_len (by decide) HO3.out).length]; exact HOL.out
    have hz2 : w1.heap.size < w2.heap.size := HZ2.out
    go_loopw [21] (fun v wr => ∃ k : Nat, k ≤ n3 ∧ v = .int .i64 k ∧ wr.ownsRow w1.heap.size 3 1 (.slice (some ⟨w1.heap.size, 0, none⟩) nL nL) nL ((wkRow nL (o.take k)).flatMap enc1) ∧ wr.ownsRow w2.heap.size 43 5 (.slice a3 n3 c3') n3 (o.flatMap encE) ∧ Below w.heap.size w wr) (fun v _ => n3 - (intOf v).toNat)
    case atStart => exact ⟨0, Nat.zero_le _, rfl, HW3.out, HO3.out, B3.out⟩
    case round =>
      clear HW3 HO3
      obtain ⟨k, hk, rfl, hW, hO, hB⟩ := hrel
      have HB := Lib.hid hB; have HW := Lib.hid hW; have HO := Lib.hid hO
      by_cases hkn : k < n3
      · obtain ⟨x, b1, o1, rfl, hb1, hx, q0, q1, q2, q3, q4⟩ := (Rd.of_owns encE_len (by decide) hO).en_at k hkn
        have HX := Lib.hid hx
        have hmem := List.mem_of_getElem? hx
        obtain ⟨m1, k1, w1', a1, c1⟩ := x
        simp only [] at q0 q1 q2 q3 q4
        by_cases h4 : w1' = 4
        · subst h4
          obtain ⟨i, hi, hil⟩ := HOK.out _ hmem rfl
          simp only [] at hi
          subst hi
          obtain ⟨y, hy, d1, f1, gl⟩ := ownsI_at hW i hil
          rw [wkRow_get hil] at hy
          have hyb := cnt_take_bd (isWk i) o k
          obtain rfl : cntE (isWk i) (o.take k) = y := by simpa using hy
          have wr1 : IntKind.i64.wrap (cntE (isWk i) (o.take k) + 1) = cntE (isWk i) (o.take k) + 1 := IntWalk.i64_in _ (by have := HOL.out; omega)
          obtain ⟨C, hC⟩ : ∃ C, cntE (isWk i) (o.take k) = C := ⟨_, rfl⟩
          rw [hC] at wr1 d1
          have htk := wkRow_take4 (n := nL) hx rfl rfl hil
          rw [hC] at htk
          have HTK := Lib.hid htk
          clear hW hO hB hx hmem hy hyb htk hC
          go_wp2
          go_roundw
          case rel =>
            refine ⟨k + 1, hkn, by go_num, ?_, ?_, ?_⟩
            · rw [HTK.out]
              exact owns_ext (ownsI_set HW.out i (C + 1)) (by (repeat' (first | (with_reducible exact Below.refl _ _) | (with_reducible assumption) | (with_reducible refine Below.alloc ?_ ?_ _) | (with_reducible refine Below.drew ?_) | (with_reducible refine Below.draws ?_ _) | (with_reducible refine Below.setCell ?_ ?_ _) | (refine Below.then ?_ (by with_reducible assumption)) | go_size)))
            · exact owns_ext (owns_far HO.out HZ2.out _) (by (repeat' (first | (with_reducible exact Below.refl _ _) | (with_reducible assumption) | (with_reducible refine Below.alloc ?_ ?_ _) | (with_reducible refine Below.drew ?_) | (with_reducible refine Below.draws ?_ _) | (with_reducible refine Below.setCell ?_ ?_ _) | (refine Below.then ?_ (by with_reducible assumption)) | go_size)))
            · exact Below.then (HB.out.setCell (p := ⟨w1.heap.size, i, none⟩) B1.out.size _) (by (repeat' (first | (with_reducible exact Below.refl _ _) | (with_reducible assumption) | (with_reducible refine Below.alloc ?_ ?_ _) | (with_reducible refine Below.drew ?_) | (with_reducible refine Below.draws ?_ _) | (with_reducible refine Below.setCell ?_ ?_ _) | (refine Below.then ?_ (by with_reducible assumption)) | go_size)))
          case measure => simp [intOf]; omega
        · have h4' : (w1' == 4) = false := by simpa using h4
          have htk := wkRow_take (n := nL) hx h4
          have HTK := Lib.hid htk
          clear hW hO hB hx hmem htk
          go_wp2
          go_roundw
          case rel => exact ⟨k + 1, hkn, by go_num, by rw [HTK.out]; exact owns_ext HW.out (by (repeat' (first | (with_reducible exact Below.refl _ _) | (with_reducible assumption) | (with_reducible refine Below.alloc ?_ ?_ _) | (with_reducible refine Below.drew ?_) | (with_reducible refine Below.draws ?_ _) | (with_reducible refine Below.setCell ?_ ?_ _) | (refine Below.then ?_ (by with_reducible assumption)) | go_size))), owns_ext HO.out (by (repeat' (first | (with_reducible exact Below.refl _ _) | (with_reducible assumption) | (with_reducible refine Below.alloc ?_ ?_ _) | (with_reducible refine Below.drew ?_) | (with_reducible refine Below.draws ?_ _) | (with_reducible refine Below.setCell ?_ ?_ _) | (refine Below.then ?_ (by with_reducible assumption)) | go_size))), Below.then HB.out (by (repeat' (first | (with_reducible exact Below.refl _ _) | (with_reducible assumption) | (with_reducible refine Below.alloc ?_ ?_ _) | (with_reducible refine Below.drew ?_) | (with_reducible refine Below.draws ?_ _) | (with_reducible refine Below.setCell ?_ ?_ _) | (refine Below.then ?_ (by with_reducible assumption)) | go_size)))⟩
          case measure => simp [intOf]; omega
      · rw [List.take_of_length_le (by rw [(Rd.of_owns encE_len (by decide) hO).length]; omega), HZ.out] at hW
        have HW := Lib.hid hW
        clear hW hO hB
        go_wp2
        go_ret2
        exact ⟨_, _, _, rfl, owns_mono HW.out B1.out.size, HB.out⟩
end Go.Proofs.Ytlhnhmimhpcoaaa
namespace Go.Proofs.Ytlhnhmimhpcoaaa
open Go.RowKit
set_option linter.unusedSimpArgs false
set_option linter.unusedVariables false
def preR (R : Rn) (t : Int) : Int × Int := if (runB R && inB t 0 2000) = true then ((preF (endX R t) (plM R t.toNat).o).1, 0) else (0, 1)
theorem preF_take {X : Nat → List Int} {o : List En} {k : Nat} {x : En} (h : o[k]? = some x) : preF X (o.take (k + 1)) = preS X (preF X (o.take k)) x := by
  rw [take_one h]; unfold preF; rw [List.foldl_append]; rfl
theorem preF_bd (X : Nat → List Int) (o : List En) (k : Nat) : 0 ≤ (preF X (o.take k)).1 ∧ (preF X (o.take k)).1 ≤ o.length := by
  have := preS_bd X (o.take k) (0, ⟨0, -1, 0, 0, 0⟩)
  rw [show List.foldl (preS X) (0, ⟨0, -1, 0, 0, 0⟩) (o.take k) = preF X (o.take k) from rfl, List.length_take] at this
  simp only [] at this
  omega
/-- the last entry of work is one, or none yet -/
def LastOk (n : Nat) (X : Nat → List Int) (e : En) : Prop := e.k < 0 ∨ ∃ i x : Nat, e.k = (i : Int) ∧ e.b = (x : Int) ∧ i < n ∧ x < (X i).length
/-- a block of five cells laid anew -/
def set5 (w : World) (L : Nat) (e : En) : World := ((((w.setCell ⟨L, 0, none⟩ (.int .i64 e.m)).setCell ⟨L, 1, none⟩ (.int .i64 e.k)).setCell ⟨L, 2, none⟩ (.int .i64 e.w)).setCell ⟨L, 3, none⟩ (.int .i64 e.a)).setCell ⟨L, 4, none⟩ (.int .i64 e.b)
structure Blk5 (w : World) (L : Nat) (e : En) : Prop where
  cm : w.cell? ⟨L, 0, none⟩ = some (.int .i64 e.m)
  ck : w.cell? ⟨L, 1, none⟩ = some (.int .i64 e.k)
  cw : w.cell? ⟨L, 2, none⟩ = some (.int .i64 e.w)
  ca : w.cell? ⟨L, 3, none⟩ = some (.int .i64 e.a)
  cb : w.cell? ⟨L, 4, none⟩ = some (.int .i64 e.b)
  f : ∀ j, w.frozen? ⟨L, j, none⟩ = false
  z : L < w.heap.size
theorem Blk5.ext {w w' : World} {L : Nat} {e : En} (h : Blk5 w L e) (hb : Below w.heap.size w w') : Blk5 w' L e :=
  ⟨(hb.cell (p := ⟨L, 0, none⟩) h.z).trans h.cm, (hb.cell (p := ⟨L, 1, none⟩) h.z).trans h.ck, (hb.cell (p := ⟨L, 2, none⟩) h.z).trans h.cw, (hb.cell (p := ⟨L, 3, none⟩) h.z).trans h.ca, (hb.cell (p := ⟨L, 4, none⟩) h.z).trans h.cb, fun j => (hb.frozen (p := ⟨L, j, none⟩) h.z).trans (h.f j), Nat.lt_of_lt_of_le h.z hb.size⟩
theorem Blk5.set {w : World} {L : Nat} {e x : En} (h : Blk5 w L e) : Blk5 (set5 w L x) L x := by
  have ne : ∀ i j : Nat, i ≠ j → (⟨L, i, none⟩ : Addr) ≠ ⟨L, j, none⟩ := fun i j hij => addr_neS (.inr hij)
  unfold set5
  have s1 : (w.setCell ⟨L, 0, none⟩ (.int .i64 x.m)).cell? ⟨L, 1, none⟩ = some (.int .i64 e.k) := (World.cell?_setCell_other _ _ _ _ (ne 0 1 (by decide))).trans h.ck
  have s2 : ((w.setCell ⟨L, 0, none⟩ (.int .i64 x.m)).setCell ⟨L, 1, none⟩ (.int .i64 x.k)).cell? ⟨L, 2, none⟩ = some (.int .i64 e.w) := (World.cell?_setCell_other _ _ _ _ (ne 1 2 (by decide))).trans ((World.cell?_setCell_other _ _ _ _ (ne 0 2 (by decide))).trans h.cw)
  have s3 : (((w.setCell ⟨L, 0, none⟩ (.int .i64 x.m)).setCell ⟨L, 1, none⟩ (.int .i64 x.k)).setCell ⟨L, 2, none⟩ (.int .i64 x.w)).cell? ⟨L, 3, none⟩ = some (.int .i64 e.a) := (World.cell?_setCell_other _ _ _ _ (ne 2 3 (by decide))).trans ((World.cell?_setCell_other _ _ _ _ (ne 1 3 (by decide))).trans ((World.cell?_setCell_other _ _ _ _ (ne 0 3 (by decide))).trans h.ca))
  have s4 : ((((w.setCell ⟨L, 0, none⟩ (.int .i64 x.m)).setCell ⟨L, 1, none⟩ (.int .i64 x.k)).setCell ⟨L, 2, none⟩ (.int .i64 x.w)).setCell ⟨L, 3, none⟩ (.int .i64 x.a)).cell? ⟨L, 4, none⟩ = some (.int .i64 e.b) := (World.cell?_setCell_other _ _ _ _ (ne 3 4 (by decide))).trans ((World.cell?_setCell_other _ _ _ _ (ne 2 4 (by decide))).trans ((World.cell?_setCell_other _ _ _ _ (ne 1 4 (by decide))).trans ((World.cell?_setCell_other _ _ _ _ (ne 0 4 (by decide))).trans h.cb)))
  refine ⟨?_, ?_, ?_, ?_, World.cell?_setCell_same _ _ _ s4, fun j => by simp only [World.frozen?_setCell]; exact h.f j, by simpa using h.z⟩
  · exact (World.cell?_setCell_other _ _ _ _ (ne 4 0 (by decide))).trans ((World.cell?_setCell_other _ _ _ _ (ne 3 0 (by decide))).trans ((World.cell?_setCell_other _ _ _ _ (ne 2 0 (by decide))).trans ((World.cell?_setCell_other _ _ _ _ (ne 1 0 (by decide))).trans (World.cell?_setCell_same _ _ _ h.cm))))
  · exact (World.cell?_setCell_other _ _ _ _ (ne 4 1 (by decide))).trans ((World.cell?_setCell_other _ _ _ _ (ne 3 1 (by decide))).trans ((World.cell?_setCell_other _ _ _ _ (ne 2 1 (by decide))).trans (World.cell?_setCell_same _ _ _ s1)))
  · exact (World.cell?_setCell_other _ _ _ _ (ne 4 2 (by decide))).trans ((World.cell?_setCell_other _ _ _ _ (ne 3 2 (by decide))).trans (World.cell?_setCell_same _ _ _ s2))
  · exact (World.cell?_setCell_other _ _ _ _ (ne 4 3 (by decide))).trans (World.cell?_setCell_same _ _ _ s3)
theorem set5_below {w0 w : World} {B L : Nat} {x : En} (h : Below B w0 w) (hL : B ≤ L) : Below B w0 (set5 w L x) :=
  ((((h.setCell (p := ⟨L, 0, none⟩) hL _).setCell (p := ⟨L, 1, none⟩) hL _).setCell (p := ⟨L, 2, none⟩) hL _).setCell (p := ⟨L, 3, none⟩) hL _).setCell (p := ⟨L, 4, none⟩) hL _
set_option maxRecDepth 100000 in
set_option maxHeartbeats 8000000 in
theorem Preempted_any (H : RunH) (R : Rn) (t : Int) (w : World) (hR : ReadRun w H R) : Calls Try.prog 43 #[runV H R.fr R.sl, .int .i64 t] w fun e w' => e = rII (preR R t).1 (preR R t).2 ∧ Below w.heap.size w w' := by
  obtain ⟨B, hB⟩ : ∃ B, (runB R && inB t 0 2000) = B := ⟨_, rfl⟩
  unfold preR
  rw [hB]
  have HI := Lib.hid (fun w1 (hb : Below w.heap.size w w1) => is_any H R t w1 (hR.ext hb) hB)
  cases B
  · obtain ⟨fr, hfr⟩ : ∃ x, R.fr = x := ⟨_, rfl⟩
    obtain ⟨sl_, hsl⟩ : ∃ x, R.sl = x := ⟨_, rfl⟩
    rw [hfr, hsl] at HI ⊢
    obtain ⟨tA, tN, tC, eA, eN, eC, bA, bN, bC, sA, sN, sC⟩ := H
    unfold runV at HI ⊢
    simp only [] at HI ⊢
    clear hR hB hfr hsl
    go_enter Try.func43, Try.ntmps43
    go_wp2_with (go_at_call 45; (with_reducible refine (HI.out _ (by (repeat' (first | (with_reducible exact Below.refl _ _) | (with_reducible assumption) | (with_reducible refine Below.alloc ?_ ?_ _) | (with_reducible refine Below.drew ?_) | (with_reducible refine Below.draws ?_ _) | (with_reducible refine Below.setCell ?_ ?_ _) | (refine Below.then ?_ (by with_reducible assumption)) | go_size)))).mono ?_); rintro e w1 ⟨rfl, hb1⟩; have B1 : Hid (Below w.heap.size w w1) := Lib.hid (Below.trans (by (repeat' (first | (with_reducible exact Below.refl _ _) | (with_reducible assumption) | (with_reducible refine Below.alloc ?_ ?_ _) | (with_reducible refine Below.drew ?_) | (with_reducible refine Below.draws ?_ _) | (with_reducible refine Below.setCell ?_ ?_ _) | (refine Below.then ?_ (by with_reducible assumption)) | go_size))) (hb1.mono (by simp))); have z1 : w.heap.size < w1.heap.size := Nat.lt_of_lt_of_le (by simp) hb1.size; have c1_0 := (hb1.cell (p := ⟨w.heap.size, 0, none⟩) (by simp)).trans (by simp [go_sem]; rfl); have c1_1 := (hb1.cell (p := ⟨w.heap.size, 1, none⟩) (by simp)).trans (by simp [go_sem]; rfl); have c1_2 := (hb1.cell (p := ⟨w.heap.size, 2, none⟩) (by simp)).trans (by simp [go_sem]; rfl); have c1_3 := (hb1.cell (p := ⟨w.heap.size, 3, none⟩) (by simp)).trans (by simp [go_sem]; rfl); have c1_4 := (hb1.cell (p := ⟨w.heap.size, 4, none⟩) (by simp)).trans (by simp [go_sem]; rfl); have c1_5 := (hb1.cell (p := ⟨w.heap.size, 5, none⟩) (by simp)).trans (by simp [go_sem]; rfl); clear hb1)
    go_ret2
    exact ⟨rfl, B1.out⟩
  · rw [Bool.and_eq_true, inB_iff] at hB
    obtain ⟨tn, rfl⟩ := Int.eq_ofNat_of_zero_le hB.2.1
    rw [if_pos rfl, Int.toNat_natCast]
    have hr := (run_ok hB.1).1
    have htn : tn ≤ 2000 := by omega
    have hol := plM_olen hr htn
    have hok := plM_ok4 hr tn
    have HP := Lib.hid (fun w1 (hb : Below w.heap.size w w1) => play_any H R tn w1 (hR.ext hb).rd hr (by omega))
    have HEN := Lib.hid (fun (w1 : World) (a : Option Addr) (n c : Nat) (hb : Below w.heap.size w w1) (hx : Rd w1 a n 5 ((plM R tn).o.map encE)) => ends_any H R (plM R tn).o a n c w1 (hR.ext hb).rd hr hx (by have h1 := hx.length; omega) (plM_ok5 hr tn))
    obtain ⟨X, hX⟩ : ∃ X, endX R (tn : Int) = X := ⟨_, rfl⟩
    have hX2 : endsRow R (plM R tn).o = X := by rw [← hX]; unfold endX; rw [Int.toNat_natCast]
    have hXl : ∀ i, (X i).length = (evA R i).length := fun i => by rw [← hX2]; exact endsRow_len _ _ _
    rw [hX2] at HEN
    rw [hX]
    obtain ⟨o, ho⟩ : ∃ x, (plM R tn).o = x := ⟨_, rfl⟩
    rw [ho] at HP HEN hol hok ⊢
    obtain ⟨nL, hnL⟩ : ∃ x, R.L.length = x := ⟨_, rfl⟩
    rw [hnL] at HEN
    have HOK : Hid (∀ e ∈ o, e.w = 4 → LastOk nL X e) := Lib.hid (fun e he h4 => by obtain ⟨i, _, x, h1, _, h3, h2, _, h5⟩ := hok e he h4; exact .inr ⟨i, x, h1, h3, by rw [← hnL]; exact h2, by rw [hXl]; exact h5⟩)
    obtain ⟨Z, hZ⟩ : ∃ Z, preF X o = Z := ⟨_, rfl⟩
    rw [hZ]
    have HZ := Lib.hid hZ
    obtain ⟨fr, hfr⟩ : ∃ x, R.fr = x := ⟨_, rfl⟩
    obtain ⟨sl_, hsl⟩ : ∃ x, R.sl = x := ⟨_, rfl⟩
    rw [hfr, hsl] at HI HP HEN ⊢
    obtain ⟨tA, tN, tC, eA, eN, eC, bA, bN, bC, sA, sN, sC⟩ := H
    unfold runV at HI ⊢
    simp only [] at HI HP HEN ⊢
    clear hR hB hfr hsl ho hZ hr hok hnL hX hX2 hXl
    go_enter Try.func43, Try.ntmps43
    go_wp2_with (first | (go_at_call 45; (with_reducible refine (HI.out _ (by (repeat' (first | (with_reducible exact Below.refl _ _) | (with_reducible assumption) | (with_reducible refine Below.alloc ?_ ?_ _) | (with_reducible refine Below.drew ?_) | (with_reducible refine Below.draws ?_ _) | (with_reducible refine Below.setCell ?_ ?_ _) | (refine Below.then ?_ (by with_reducible assumption)) | go_size)))).mono ?_); rintro e w1 ⟨rfl, hb1⟩; have B1 : Hid (Below w.heap.size w w1) := Lib.hid (Below.trans (by (repeat' (first | (with_reducible exact Below.refl _ _) | (with_reducible assumption) | (with_reducible refine Below.alloc ?_ ?_ _) | (with_reducible refine Below.drew ?_) | (with_reducible refine Below.draws ?_ _) | (with_reducible refine Below.setCell ?_ ?_ _) | (refine Below.then ?_ (by with_reducible assumption)) | go_size))) (hb1.mono (by simp))); have z1 : w.heap.size < w1.heap.size := Nat.lt_of_lt_of_le (by simp) hb1.size; have c1_0 := (hb1.cell (p := ⟨w.heap.size, 0, none⟩) (by simp)).trans (by simp [go_sem]; rfl); have c1_1 := (hb1.cell (p := ⟨w.heap.size, 1, none⟩) (by simp)).trans (by simp [go_sem]; rfl); have c1_2 := (hb1.cell (p := ⟨w.heap.size, 2, none⟩) (by simp)).trans (by simp [go_sem]; rfl); have c1_3 := (hb1.cell (p := ⟨w.heap.size, 3, none⟩) (by simp)).trans (by simp [go_sem]; rfl); have c1_4 := (hb1.cell (p := ⟨w.heap.size, 4, none⟩) (by simp)).trans (by simp [go_sem]; rfl); have c1_5 := (hb1.cell (p := ⟨w.heap.size, 5, none⟩) (by simp)).trans (by simp [go_sem]; rfl); clear hb1) | (go_at_call 46; (with_reducible refine (HP.out _ B1.out).mono ?_); rintro e w2 ⟨a2, n2, c2', rfl, h2, hb2⟩; have HO2 := Lib.hid (Rd.of_owns encE_len (by decide) h2); clear h2; have B2 := Lib.hid (Below.then B1.out hb2); have z2 : w.heap.size < w2.heap.size := Nat.lt_of_lt_of_le z1 hb2.size; have c2_0 := (hb2.cell (p := ⟨w.heap.size, 0, none⟩) z1).trans c1_0; have c2_1 := (hb2.cell (p := ⟨w.heap.size, 1, none⟩) z1).trans c1_1; have c2_2 := (hb2.cell (p := ⟨w.heap.size, 2, none⟩) z1).trans c1_2; have c2_3 := (hb2.cell (p := ⟨w.heap.size, 3, none⟩) z1).trans c1_3; have c2_4 := (hb2.cell (p := ⟨w.heap.size, 4, none⟩) z1).trans c1_4; have c2_5 := (hb2.cell (p := ⟨w.heap.size, 5, none⟩) z1).trans c1_5; clear hb2 c1_0 c1_1 c1_2 c1_3 c1_4 c1_5) | (go_at_call 66; (with_reducible refine (HEN.out _ _ _ _ B2.out HO2.out).mono ?_); rintro e w3 ⟨a3, rfl, h3, hb3⟩; have HX3 := Lib.hid h3; have HO3 := Lib.hid (HO2.out.ext hb3); clear h3; have B3 := Lib.hid (Below.then B2.out hb3); have z3 : w.heap.size < w3.heap.size := Nat.lt_of_lt_of_le z2 hb3.size; have c3_0 := (hb3.cell (p := ⟨w.heap.size, 0, none⟩) z2).trans c2_0; have c3_1 := (hb3.cell (p := ⟨w.heap.size, 1, none⟩) z2).trans c2_1; have c3_2 := (hb3.cell (p := ⟨w.heap.size, 2, none⟩) z2).trans c2_2; have c3_3 := (hb3.cell (p := ⟨w.heap.size, 3, none⟩) z2).trans c2_3; have c3_4 := (hb3.cell (p := ⟨w.heap.size, 4, none⟩) z2).trans c2_4; have c3_5 := (hb3.cell (p := ⟨w.heap.size, 5, none⟩) z2).trans c2_5; clear hb3 c2_0 c2_1 c2_2 c2_3 c2_4 c2_5))
    have hn2 : n2 ≤ 504000 := by rw [← HO2.out.length]; exact hol
    go_loopw [8, 26] (fun v8 v26 wr => ∃ k : Nat, k ≤ n2 ∧ v8 = .int .i64 (preF X (o.take k)).1 ∧ v26 = .int .i64 k ∧ Blk5 wr w3.heap.size (preF X (o.take k)).2 ∧ LastOk nL X (preF X (o.take k)).2 ∧ Below w3.heap.size w3 wr) (fun _ v _ => n2 - (intOf v).toNat)
    case atStart => exact ⟨0, Nat.zero_le _, rfl, rfl, ⟨by simp [go_sem]; rfl, by simp [go_sem]; rfl, by simp [go_sem]; rfl, by simp [go_sem]; rfl, by simp [go_sem]; rfl, fun j => by simp [go_sem], by simp⟩, .inl (show (-1 : Int) < 0 by decide), by (repeat' (first | (with_reducible exact Below.refl _ _) | (with_reducible assumption) | (with_reducible refine Below.alloc ?_ ?_ _) | (with_reducible refine Below.drew ?_) | (with_reducible refine Below.draws ?_ _) | (with_reducible refine Below.setCell ?_ ?_ _) | (refine Below.then ?_ (by with_reducible assumption)) | go_size))⟩
    case round =>
      obtain ⟨k, hk, rfl, rfl, hL5, hLO, hB⟩ := hrel
      have HB := Lib.hid hB; have HL5 := Lib.hid hL5; have HLO := Lib.hid hLO
      have hbd := preF_bd X o k
      by_cases hkn : k < n2
      · obtain ⟨x, b1, o1, rfl, hb1, hx, q0, q1, q2, q3, q4⟩ := (HO3.out.ext hB).en_at k hkn
        have htk := preF_take (X := X) hx
        have hmem := List.mem_of_getElem? hx
        have HX1 : Hid (x.w = 4 → LastOk nL X x) := Lib.hid (HOK.out x hmem)
        obtain ⟨⟨cn, l5⟩, hC⟩ : ∃ C, preF X (o.take k) = C := ⟨_, rfl⟩
        rw [hC] at htk hbd HLO HL5 ⊢
        obtain ⟨lm, lk, lw, la, lb⟩ := l5
        obtain ⟨m1, k1, w1', a1, c1⟩ := x
        have pz := hL5.z
        simp only [] at q0 q1 q2 q3 q4 hbd ⊢
        have wr1 : IntKind.i64.wrap (cn + 1) = cn + 1 := IntWalk.i64_in _ (by omega)
        have HX2 : Hid (w1' = 4 → LastOk nL X ⟨m1, k1, w1', a1, c1⟩) := Lib.hid HX1.out
        have hset : ∀ W0 W, Below wr.heap.size wr W0 → Below (set5 W0 w3.heap.size ⟨m1, k1, w1', a1, c1⟩).heap.size (set5 W0 w3.heap.size ⟨m1, k1, w1', a1, c1⟩) W → Blk5 W w3.heap.size ⟨m1, k1, w1', a1, c1⟩ ∧ Below w3.heap.size w3 W := fun W0 W h0 hW => ⟨((HL5.out.ext h0).set (x := ⟨m1, k1, w1', a1, c1⟩)).ext hW, Below.then (set5_below (Below.then HB.out h0) (Nat.le_refl _)) hW⟩
        have HSET := Lib.hid hset
        have HTK0 := Lib.hid htk
        clear hset hL5 hLO hB hx hC hmem hbd htk HX1
        go_upto_region 9 with fail
        (obtain ⟨we, hwe⟩ : ∃ x, x = wr.alloc (.cells #[.int .i64 m1, .int .i64 k1, .int .i64 w1', .int .i64 a1, .int .i64 c1] 43) := ⟨_, rfl⟩); have HBE : Hid (Below wr.heap.size wr we) := Lib.hid (by rw [hwe]; (repeat' (first | (with_reducible exact Below.refl _ _) | (with_reducible assumption) | (with_reducible refine Below.alloc ?_ ?_ _) | (with_reducible refine Below.drew ?_) | (with_reducible refine Below.draws ?_ _) | (with_reducible refine Below.setCell ?_ ?_ _) | (refine Below.then ?_ (by with_reducible assumption)) | go_size))); have HE5 : Hid (Blk5 we wr.heap.size ⟨m1, k1, w1', a1, c1⟩) := Lib.hid (by rw [hwe]; exact ⟨by simp [go_sem], by simp [go_sem], by simp [go_sem], by simp [go_sem], by simp [go_sem], fun j => by simp [go_sem], by simp⟩); rw [← hwe]; clear hwe
        have HBX := Lib.hid HBE.out
        obtain ⟨t0, t1, t2, t3, t4, tf, tz⟩ := HL5.out.ext HBE.out; obtain ⟨u0, u1, u2, u3, u4, uf, uz⟩ := HE5.out; simp only [] at t0 t1 t2 t3 t4 u0 u1 u2 u3 u4; have g0 := tf 0; have g1 := tf 1; have g2 := tf 2; have g3 := tf 3; have g4 := tf 4; clear tf uf
        by_cases h4 : w1' = 4
        · subst h4
          have htk := HTK0.out
          unfold preS at htk
          rw [if_pos rfl] at htk
          simp only [] at htk
          by_cases a1' : 0 ≤ lk
          · have b1' : decide (0 ≤ lk) = true := by simpa using a1'
            have hne : (lk ≠ k1 ∨ lb ≠ c1) ∨ (lk = k1 ∧ lb = c1) := by omega
            rcases hne with hne | ⟨rfl, rfl⟩
            · rcases HLO.out with g | ⟨i, xx, hi, hxx, hil, hxl⟩
              · exact absurd g (by simp only []; omega)
              simp only [] at hi hxx
              subst hi; subst hxx
              obtain ⟨xb, xoff, xa, en, xc, rfl, hxb, hxc, hxlen, hxR⟩ := (HX3.out.ext (Below.then HB.out HBX.out)).row hil
              obtain ⟨z, zb, zo, rfl, hzb, hzc, hz⟩ := hxR.idx xx (by omega)
              have hzz : ((X ((i : Nat) : Int).toNat)[((xx : Nat) : Int).toNat]?).getD 0 = z := by rw [Int.toNat_natCast, Int.toNat_natCast, hz]; rfl
              rw [hzz] at htk
              have hxen : xx < en := by omega
              have b2' : (((i : Int) != k1) = true ∨ (((i : Int) != k1) = false ∧ ((xx : Int) != c1) = true)) := by
                by_cases q : (i : Int) = k1
                · right; refine ⟨by simpa using q, ?_⟩
                  simp; omega
                · left; simpa using q
              have HTK1 := Lib.hid htk
              have HNE := Lib.hid hne
              clear htk hxR hz hzz hne hxlen hxl
              rcases b2' with b2' | ⟨b2', b3'⟩
              all_goals
                go_upto_region 11 with fail
                go_upto_region 12 with (refine wp_region_later_lit (by kernel_rfl) (by kernel_rfl) ?_; (repeat (go_big_quiet_step (fail))); refine wpQuiet_nil ?_; intro w7 hb7)
                have HBE := Lib.hid (Below.then HBX.out hb7)
                have HE5 := Lib.hid (HE5.out.ext hb7)
                clear t0 t1 t2 t3 t4 tz g0 g1 g2 g3 g4 u0 u1 u2 u3 u4 uz hzc hxc hb7
                obtain ⟨t0, t1, t2, t3, t4, tf, tz⟩ := HL5.out.ext HBE.out; obtain ⟨u0, u1, u2, u3, u4, uf, uz⟩ := HE5.out; simp only [] at t0 t1 t2 t3 t4 u0 u1 u2 u3 u4; have g0 := tf 0; have g1 := tf 1; have g2 := tf 2; have g3 := tf 3; have g4 := tf 4; clear tf uf
                have htk := HTK1.out
                have hq : (z < 0 ∨ m1 < z) ∨ ¬ (z < 0 ∨ m1 < z) := by omega
                rcases hq with hq | hq
                · rw [if_pos ⟨by omega, HNE.out, hq⟩] at htk
                  have HTK := Lib.hid htk
                  have hq' : decide (z < 0) = true ∨ (decide (z < 0) = false ∧ decide (m1 < z) = true) := by simp; omega
                  clear htk hq
                  rcases hq' with hq' | ⟨hq', hq''⟩
                  all_goals (go_wp2_with fail; go_roundw; (case rel => (obtain ⟨r1, r2⟩ := HSET.out _ _ HBE.out (by unfold set5; (repeat' (first | (with_reducible exact Below.refl _ _) | (with_reducible assumption) | (with_reducible refine Below.alloc ?_ ?_ _) | (with_reducible refine Below.drew ?_) | (with_reducible refine Below.draws ?_ _) | (with_reducible refine Below.setCell ?_ ?_ _) | (refine Below.then ?_ (by with_reducible assumption)) | go_size))); exact ⟨k + 1, hkn, by rw [HTK.out], by go_num, by rw [HTK.out]; exact r1, by rw [HTK.out]; exact HX2.out rfl, r2⟩)); (case measure => (simp [intOf]; omega)))
                · rw [if_neg (fun q => hq q.2.2)] at htk
                  have HTK := Lib.hid htk
                  have hq' : decide (z < 0) = false := by simp; omega
                  have hq'' : decide (m1 < z) = false := by simp; omega
                  clear htk hq
                  (go_wp2_with fail; go_roundw; (case rel => (obtain ⟨r1, r2⟩ := HSET.out _ _ HBE.out (by unfold set5; (repeat' (first | (with_reducible exact Below.refl _ _) | (with_reducible assumption) | (with_reducible refine Below.alloc ?_ ?_ _) | (with_reducible refine Below.drew ?_) | (with_reducible refine Below.draws ?_ _) | (with_reducible refine Below.setCell ?_ ?_ _) | (refine Below.then ?_ (by with_reducible assumption)) | go_size))); exact ⟨k + 1, hkn, by rw [HTK.out], by go_num, by rw [HTK.out]; exact r1, by rw [HTK.out]; exact HX2.out rfl, r2⟩)); (case measure => (simp [intOf]; omega)))
            · rw [if_neg (fun q => q.2.1.elim (fun h => h rfl) (fun h => h rfl))] at htk
              have HTK := Lib.hid htk
              clear htk
              (go_wp2_with fail; go_roundw; (case rel => (obtain ⟨r1, r2⟩ := HSET.out _ _ HBE.out (by unfold set5; (repeat' (first | (with_reducible exact Below.refl _ _) | (with_reducible assumption) | (with_reducible refine Below.alloc ?_ ?_ _) | (with_reducible refine Below.drew ?_) | (with_reducible refine Below.draws ?_ _) | (with_reducible refine Below.setCell ?_ ?_ _) | (refine Below.then ?_ (by with_reducible assumption)) | go_size))); exact ⟨k + 1, hkn, by rw [HTK.out], by go_num, by rw [HTK.out]; exact r1, by rw [HTK.out]; exact HX2.out rfl, r2⟩)); (case measure => (simp [intOf]; omega)))
          · have b1' : decide (0 ≤ lk) = false := by simpa using a1'
            rw [if_neg (fun q => a1' q.1)] at htk
            have HTK := Lib.hid htk
            clear htk
            (go_wp2_with fail; go_roundw; (case rel => (obtain ⟨r1, r2⟩ := HSET.out _ _ HBE.out (by unfold set5; (repeat' (first | (with_reducible exact Below.refl _ _) | (with_reducible assumption) | (with_reducible refine Below.alloc ?_ ?_ _) | (with_reducible refine Below.drew ?_) | (with_reducible refine Below.draws ?_ _) | (with_reducible refine Below.setCell ?_ ?_ _) | (refine Below.then ?_ (by with_reducible assumption)) | go_size))); exact ⟨k + 1, hkn, by rw [HTK.out], by go_num, by rw [HTK.out]; exact r1, by rw [HTK.out]; exact HX2.out rfl, r2⟩)); (case measure => (simp [intOf]; omega)))
        · have h4' : (w1' != 4) = true := by simpa using h4
          have htk := HTK0.out
          unfold preS at htk
          rw [if_neg h4] at htk
          have HTK := Lib.hid htk
          clear htk
          go_wp2_with fail
          go_roundw
          case rel => exact ⟨k + 1, hkn, by rw [HTK.out], by go_num, by rw [HTK.out]; exact HL5.out.ext HBE.out, by rw [HTK.out]; exact HLO.out, Below.then HB.out HBE.out⟩
          case measure => simp [intOf]; omega
      · rw [List.take_of_length_le (by rw [HO3.out.length]; omega), HZ.out]
        clear hL5 hLO hB hbd
        go_wp2
        go_ret2
        exact ⟨rfl, B3.out.trans (HB.out.mono B3.out.size)⟩
end Go.Proofs.Ytlhnhmimhpcoaaa
namespace Go.Proofs.Ytlhnhmimhpcoaaa
open Go.RowKit
set_option linter.unusedSimpArgs false
set_option linter.unusedVariables false
theorem rSim_is {H : RunH} {R : Rn} {t : Int} {w : World} {xs : List En} {y : Int} (hR : ReadRun w H R) (h : simR R t = (xs, y)) : Calls Try.prog 16 #[runV H R.fr R.sl, .int .i64 t] w (OutEn w xs y) := by
  have := rSim_any H R t w hR
  rw [h] at this; exact this
set_option maxRecDepth 100000 in
set_option maxHeartbeats 4000000 in
theorem rIdle_any (H : RunH) (R : Rn) (t : Int) (w : World) (hR : ReadRun w H R) : Calls Try.prog 40 #[runV H R.fr R.sl, .int .i64 t] w fun e w' => e = rII (idleR R t).1 (idleR R t).2 ∧ Below w.heap.size w w' := by
  obtain ⟨⟨o, er⟩, hS⟩ : ∃ p, simR R t = p := ⟨_, rfl⟩
  have HS := Lib.hid (fun w1 (hb : Below w.heap.size w w1) => rSim_is (hR.ext hb) hS)
  unfold simR at hS
  unfold idleR
  obtain ⟨B, hB⟩ : ∃ B, (runB R && inB t 0 2000) = B := ⟨_, rfl⟩
  rw [hB] at hS ⊢
  cases B
  · obtain ⟨rfl, rfl⟩ : o = [] ∧ er = 1 := by simp at hS; exact ⟨hS.1.symm ▸ rfl, hS.2.symm⟩
    obtain ⟨fr, hfr⟩ : ∃ x, R.fr = x := ⟨_, rfl⟩
    obtain ⟨sl_, hsl⟩ : ∃ x, R.sl = x := ⟨_, rfl⟩
    rw [hfr, hsl] at HS ⊢
    obtain ⟨tA, tN, tC, eA, eN, eC, bA, bN, bC, sA, sN, sC⟩ := H
    unfold runV at HS ⊢
    simp only [] at HS ⊢
    clear hR hB hfr hsl hS
    go_enter Try.func40, Try.ntmps40
    go_wp2_with (go_at_call 16; (with_reducible refine (HS.out _ (by (repeat' (first | (with_reducible exact Below.refl _ _) | (with_reducible assumption) | (with_reducible refine Below.alloc ?_ ?_ _) | (with_reducible refine Below.drew ?_) | (with_reducible refine Below.draws ?_ _) | (with_reducible refine Below.setCell ?_ ?_ _) | (refine Below.then ?_ (by with_reducible assumption)) | go_size)))).mono ?_); rintro e w1 ⟨a1, n1, x1, rfl, h1, hb1⟩; have HO1 := Lib.hid h1; clear h1; have B1 : Hid (Below w.heap.size w w1) := Lib.hid (Below.trans (by (repeat' (first | (with_reducible exact Below.refl _ _) | (with_reducible assumption) | (with_reducible refine Below.alloc ?_ ?_ _) | (with_reducible refine Below.drew ?_) | (with_reducible refine Below.draws ?_ _) | (with_reducible refine Below.setCell ?_ ?_ _) | (refine Below.then ?_ (by with_reducible assumption)) | go_size))) (hb1.mono (by simp))); have z1 : w.heap.size < w1.heap.size := Nat.lt_of_lt_of_le (by simp) hb1.size; have c1_0 := (hb1.cell (p := ⟨w.heap.size, 0, none⟩) (by simp)).trans (by simp [go_sem]; rfl); have c1_1 := (hb1.cell (p := ⟨w.heap.size, 1, none⟩) (by simp)).trans (by simp [go_sem]; rfl); have c1_2 := (hb1.cell (p := ⟨w.heap.size, 2, none⟩) (by simp)).trans (by simp [go_sem]; rfl); have c1_3 := (hb1.cell (p := ⟨w.heap.size, 3, none⟩) (by simp)).trans (by simp [go_sem]; rfl); have c1_4 := (hb1.cell (p := ⟨w.heap.size, 4, none⟩) (by simp)).trans (by simp [go_sem]; rfl); have c1_5 := (hb1.cell (p := ⟨w.heap.size, 5, none⟩) (by simp)).trans (by simp [go_sem]; rfl); clear hb1)
    go_ret2
    exact ⟨rfl, B1.out⟩
  · rw [Bool.and_eq_true, inB_iff] at hB
    obtain ⟨tn, rfl⟩ := Int.eq_ofNat_of_zero_le hB.2.1
    rw [if_pos rfl, Int.toNat_natCast] at hS
    rw [if_pos rfl, Int.toNat_natCast]
    unfold idleN
    have hol := plM_olen (run_ok hB.1).1 (show tn ≤ 2000 by omega)
    have htn : tn ≤ 2000 := by omega
    obtain ⟨rfl, rfl⟩ : (plM R tn).o = o ∧ er = 0 := by simp at hS; exact ⟨hS.1, hS.2.symm⟩
    obtain ⟨o, ho⟩ : ∃ x, (plM R tn).o = x := ⟨_, rfl⟩
    rw [ho] at HS hol ⊢
    obtain ⟨Z, hZ⟩ : ∃ Z, (tn : Int) - cntE isBusy o = Z := ⟨_, rfl⟩
    rw [hZ]
    have HZ := Lib.hid hZ
    obtain ⟨fr, hfr⟩ : ∃ x, R.fr = x := ⟨_, rfl⟩
    obtain ⟨sl_, hsl⟩ : ∃ x, R.sl = x := ⟨_, rfl⟩
    rw [hfr, hsl] at HS ⊢
    obtain ⟨tA, tN, tC, eA, eN, eC, bA, bN, bC, sA, sN, sC⟩ := H
    unfold runV at HS ⊢
    simp only [] at HS ⊢
    clear hR hB hfr hsl ho hZ hS
    go_enter Try.func40, Try.ntmps40
    go_wp2_with (go_at_call 16; (with_reducible refine (HS.out _ (by (repeat' (first | (with_reducible exact Below.refl _ _) | (with_reducible assumption) | (with_reducible refine Below.alloc ?_ ?_ _) | (with_reducible refine Below.drew ?_) | (with_reducible refine Below.draws ?_ _) | (with_reducible refine Below.setCell ?_ ?_ _) | (refine Below.then ?_ (by with_reducible assumption)) | go_size)))).mono ?_); rintro e w1 ⟨a1, n1, x1, rfl, h1, hb1⟩; have HO1 := Lib.hid h1; clear h1; have B1 : Hid (Below w.heap.size w w1) := Lib.hid (Below.trans (by (repeat' (first | (with_reducible exact Below.refl _ _) | (with_reducible assumption) | (with_reducible refine Below.alloc ?_ ?_ _) | (with_reducible refine Below.drew ?_) | (with_reducible refine Below.draws ?_ _) | (with_reducible refine Below.setCell ?_ ?_ _) | (refine Below.then ?_ (by with_reducible assumption)) | go_size))) (hb1.mono (by simp))); have z1 : w.heap.size < w1.heap.size := Nat.lt_of_lt_of_le (by simp) hb1.size; have c1_0 := (hb1.cell (p := ⟨w.heap.size, 0, none⟩) (by simp)).trans (by simp [go_sem]; rfl); have c1_1 := (hb1.cell (p := ⟨w.heap.size, 1, none⟩) (by simp)).trans (by simp [go_sem]; rfl); have c1_2 := (hb1.cell (p := ⟨w.heap.size, 2, none⟩) (by simp)).trans (by simp [go_sem]; rfl); have c1_3 := (hb1.cell (p := ⟨w.heap.size, 3, none⟩) (by simp)).trans (by simp [go_sem]; rfl); have c1_4 := (hb1.cell (p := ⟨w.heap.size, 4, none⟩) (by simp)).trans (by simp [go_sem]; rfl); have c1_5 := (hb1.cell (p := ⟨w.heap.size, 5, none⟩) (by simp)).trans (by simp [go_sem]; rfl); clear hb1)
    have HO2 := Lib.hid (Rd.of_owns encE_len (by decide) HO1.out)
    have hn1 : n1 ≤ 504000 := by rw [← HO2.out.length]; exact hol
    go_loopw [8, 9] (fun v1 v16 wr => ∃ k : Nat, k ≤ n1 ∧ v1 = .int .i64 ((tn : Int) - cntE isBusy (o.take k)) ∧ v16 = .int .i64 k ∧ Below w1.heap.size w1 wr) (fun _ v _ => n1 - (intOf v).toNat)
    case atStart => exact ⟨0, Nat.zero_le _, by simp [cntE], rfl, Below.refl _ _⟩
    case round =>
      obtain ⟨k, hk, rfl, rfl, hB⟩ := hrel
      have HB := Lib.hid hB
      have hbd := cnt_take_bd isBusy o k
      by_cases hkn : k < n1
      · obtain ⟨x, b1, o1, rfl, hb1, hx, q0, q1, q2, q3, q4⟩ := (HO2.out.ext hB).en_at k hkn
        have htk := cnt_take (p := isBusy) hx
        obtain ⟨C, hC⟩ : ∃ C, cntE isBusy (o.take k) = C := ⟨_, rfl⟩
        rw [hC] at htk hbd ⊢
        have wr1 : IntKind.i64.wrap ((tn : Int) - C - 1) = (tn : Int) - C - 1 := IntWalk.i64_in _ (by omega)
        obtain ⟨m1, k1, w1', a1, c1⟩ := x
        simp only [] at q0 q1 q2 q3 q4
        by_cases h4 : w1' = 4
        · subst h4
          have e : (tn : Int) - C - 1 = (tn : Int) - cntE isBusy (o.take (k + 1)) := by rw [htk, if_pos (by simp [isBusy])]; omega
          have HE := Lib.hid e
          clear hB hx htk hC hbd e
          go_wp2
          go_roundw
          case rel => exact ⟨k + 1, hkn, by first | rfl | (rw [← HE.out]), by go_num, Below.then HB.out (by (repeat' (first | (with_reducible exact Below.refl _ _) | (with_reducible assumption) | (with_reducible refine Below.alloc ?_ ?_ _) | (with_reducible refine Below.drew ?_) | (with_reducible refine Below.draws ?_ _) | (with_reducible refine Below.setCell ?_ ?_ _) | (refine Below.then ?_ (by with_reducible assumption)) | go_size)))⟩
          case measure => simp [intOf]; omega
        · have h4' : (w1' == 4) = false := by simpa using h4
          by_cases h3 : w1' = 3
          · subst h3
            have e : (tn : Int) - C - 1 = (tn : Int) - cntE isBusy (o.take (k + 1)) := by rw [htk, if_pos (by simp [isBusy])]; omega
            have HE := Lib.hid e
            clear hB hx htk hC hbd e
            go_wp2
            go_roundw
            case rel => exact ⟨k + 1, hkn, by first | rfl | (rw [← HE.out]), by go_num, Below.then HB.out (by (repeat' (first | (with_reducible exact Below.refl _ _) | (with_reducible assumption) | (with_reducible refine Below.alloc ?_ ?_ _) | (with_reducible refine Below.drew ?_) | (with_reducible refine Below.draws ?_ _) | (with_reducible refine Below.setCell ?_ ?_ _) | (refine Below.then ?_ (by with_reducible assumption)) | go_size)))⟩
            case measure => simp [intOf]; omega
          · have h3' : (w1' == 3) = false := by simpa using h3
            have e : cntE isBusy (o.take (k + 1)) = C := by rw [htk, if_neg (by simp [isBusy, h3, h4])]; omega
            have HE := Lib.hid e
            clear hB hx htk hC hbd e
            go_wp2
            go_roundw
            case rel => exact ⟨k + 1, hkn, by rw [HE.out], by go_num, Below.then HB.out (by (repeat' (first | (with_reducible exact Below.refl _ _) | (with_reducible assumption) | (with_reducible refine Below.alloc ?_ ?_ _) | (with_reducible refine Below.drew ?_) | (with_reducible refine Below.draws ?_ _) | (with_reducible refine Below.setCell ?_ ?_ _) | (refine Below.then ?_ (by with_reducible assumption)) | go_size)))⟩
            case measure => simp [intOf]; omega
      · have e : (tn : Int) - cntE isBusy (o.take k) = Z := by rw [List.take_of_length_le (by rw [HO2.out.length]; omega), HZ.out]
        rw [e]
        clear hB hbd e
        go_wp2
        go_ret2
        exact ⟨rfl, B1.out.trans (HB.out.mono B1.out.size)⟩
set_option maxRecDepth 100000 in
set_option maxHeartbeats 4000000 in
theorem rWorked_any (H : RunH) (R : Rn) (t : Int) (w : World) (hR : ReadRun w H R) : Calls Try.prog 38 #[runV H R.fr R.sl, .int .i64 t] w (OutTE w.heap.size w (workedR R t).1 (workedR R t).2) := by
  obtain ⟨⟨o, er⟩, hS⟩ : ∃ p, simR R t = p := ⟨_, rfl⟩
  have HS := Lib.hid (fun w1 (hb : Below w.heap.size w w1) => rSim_is (hR.ext hb) hS)
  unfold simR at hS
  unfold workedR
  obtain ⟨B, hB⟩ : ∃ B, (runB R && inB t 0 2000) = B := ⟨_, rfl⟩
  rw [hB] at hS ⊢
  cases B
  · obtain ⟨rfl, rfl⟩ : o = [] ∧ er = 1 := by simp at hS; exact ⟨hS.1.symm ▸ rfl, hS.2.symm⟩
    obtain ⟨fr, hfr⟩ : ∃ x, R.fr = x := ⟨_, rfl⟩
    obtain ⟨sl_, hsl⟩ : ∃ x, R.sl = x := ⟨_, rfl⟩
    rw [hfr, hsl] at HS ⊢
    obtain ⟨tA, tN, tC, eA, eN, eC, bA, bN, bC, sA, sN, sC⟩ := H
    unfold runV at HS ⊢
    simp only [] at HS ⊢
    clear hR hB hfr hsl hS
    go_enter Try.func38, Try.ntmps38
    go_wp2_with (go_at_call 16; (with_reducible refine (HS.out _ (by (repeat' (first | (with_reducible exact Below.refl _ _) | (with_reducible assumption) | (with_reducible refine Below.alloc ?_ ?_ _) | (with_reducible refine Below.drew ?_) | (with_reducible refine Below.draws ?_ _) | (with_reducible refine Below.setCell ?_ ?_ _) | (refine Below.then ?_ (by with_reducible assumption)) | go_size)))).mono ?_); rintro e w1 ⟨a1, n1, x1, rfl, h1, hb1⟩; have HO1 := Lib.hid h1; clear h1; have B1 : Hid (Below w.heap.size w w1) := Lib.hid (Below.trans (by (repeat' (first | (with_reducible exact Below.refl _ _) | (with_reducible assumption) | (with_reducible refine Below.alloc ?_ ?_ _) | (with_reducible refine Below.drew ?_) | (with_reducible refine Below.draws ?_ _) | (with_reducible refine Below.setCell ?_ ?_ _) | (refine Below.then ?_ (by with_reducible assumption)) | go_size))) (hb1.mono (by simp))); have z1 : w.heap.size < w1.heap.size := Nat.lt_of_lt_of_le (by simp) hb1.size; have c1_0 := (hb1.cell (p := ⟨w.heap.size, 0, none⟩) (by simp)).trans (by simp [go_sem]; rfl); have c1_1 := (hb1.cell (p := ⟨w.heap.size, 1, none⟩) (by simp)).trans (by simp [go_sem]; rfl); have c1_2 := (hb1.cell (p := ⟨w.heap.size, 2, none⟩) (by simp)).trans (by simp [go_sem]; rfl); have c1_3 := (hb1.cell (p := ⟨w.heap.size, 3, none⟩) (by simp)).trans (by simp [go_sem]; rfl); have c1_4 := (hb1.cell (p := ⟨w.heap.size, 4, none⟩) (by simp)).trans (by simp [go_sem]; rfl); have c1_5 := (hb1.cell (p := ⟨w.heap.size, 5, none⟩) (by simp)).trans (by simp [go_sem]; rfl); clear hb1)
    go_ret2
    exact OutTE.none B1.out
  · rw [Bool.and_eq_true, inB_iff] at hB
    obtain ⟨tn, rfl⟩ := Int.eq_ofNat_of_zero_le hB.2.1
    rw [if_pos rfl, Int.toNat_natCast] at hS
    rw [if_pos rfl, Int.toNat_natCast]
    have hr := (run_ok hB.1).1
    have htn : tn ≤ 2000 := by omega
    have hol := plM_olen hr htn
    have hok := plM_ok4 hr tn
    obtain ⟨rfl, rfl⟩ : (plM R tn).o = o ∧ er = 0 := by simp at hS; exact ⟨hS.1, hS.2.symm⟩
    obtain ⟨o, ho⟩ : ∃ x, (plM R tn).o = x := ⟨_, rfl⟩
    rw [ho] at HS hol hok ⊢
    have hTN := hR.t.length
    have hL5 := hr.r.len
    obtain ⟨nL, hnL⟩ : ∃ x, R.L.length = x := ⟨_, rfl⟩
    rw [hnL] at hTN hL5 ⊢
    have HOK : Hid (∀ e ∈ o, e.w = 4 → ∃ i : Nat, e.k = (i : Int) ∧ i < nL) := Lib.hid (fun e he h4 => by obtain ⟨i, _, _, h1, _, _, h2, _⟩ := hok e he h4; exact ⟨i, h1, by rw [← hnL]; exact h2⟩)
    have HOL := Lib.hid hol
    obtain ⟨Z, hZ⟩ : ∃ Z, wkRow nL o = Z := ⟨_, rfl⟩
    rw [hZ]
    have HZ := Lib.hid hZ
    obtain ⟨fr, hfr⟩ : ∃ x, R.fr = x := ⟨_, rfl⟩
    obtain ⟨sl_, hsl⟩ : ∃ x, R.sl = x := ⟨_, rfl⟩
    rw [hfr, hsl] at HS ⊢
    obtain ⟨tA, tN, tC, eA, eN, eC, bA, bN, bC, sA, sN, sC⟩ := H
    unfold runV at HS ⊢
    simp only [] at HS hTN ⊢
    obtain rfl : nL = tN := hTN
    clear hR hB hfr hsl ho hZ hr hok hnL hol hS
    have hmk1 := run_make_row' (P := Try.prog) 26 3 (.int .i64 0) 8 Try.underlying26 (by kernel_rfl) rfl .i64 .i64 nL (by omega) (by omega)
    go_enter Try.func38, Try.ntmps38
    go_upto_region 5 with (go_at_call 16; (with_reducible refine (HS.out _ (by (repeat' (first | (with_reducible exact Below.refl _ _) | (with_reducible assumption) | (with_reducible refine Below.alloc ?_ ?_ _) | (with_reducible refine Below.drew ?_) | (with_reducible refine Below.draws ?_ _) | (with_reducible refine Below.setCell ?_ ?_ _) | (refine Below.then ?_ (by with_reducible assumption)) | go_size)))).mono ?_); rintro e w1 ⟨a1, n1, x1, rfl, h1, hb1⟩; have HO1 := Lib.hid h1; clear h1; have B1 : Hid (Below w.heap.size w w1) := Lib.hid (Below.trans (by (repeat' (first | (with_reducible exact Below.refl _ _) | (with_reducible assumption) | (with_reducible refine Below.alloc ?_ ?_ _) | (with_reducible refine Below.drew ?_) | (with_reducible refine Below.draws ?_ _) | (with_reducible refine Below.setCell ?_ ?_ _) | (refine Below.then ?_ (by with_reducible assumption)) | go_size))) (hb1.mono (by simp))); have z1 : w.heap.size < w1.heap.size := Nat.lt_of_lt_of_le (by simp) hb1.size; have c1_0 := (hb1.cell (p := ⟨w.heap.size, 0, none⟩) (by simp)).trans (by simp [go_sem]; rfl); have c1_1 := (hb1.cell (p := ⟨w.heap.size, 1, none⟩) (by simp)).trans (by simp [go_sem]; rfl); have c1_2 := (hb1.cell (p := ⟨w.heap.size, 2, none⟩) (by simp)).trans (by simp [go_sem]; rfl); have c1_3 := (hb1.cell (p := ⟨w.heap.size, 3, none⟩) (by simp)).trans (by simp [go_sem]; rfl); have c1_4 := (hb1.cell (p := ⟨w.heap.size, 4, none⟩) (by simp)).trans (by simp [go_sem]; rfl); have c1_5 := (hb1.cell (p := ⟨w.heap.size, 5, none⟩) (by simp)).trans (by simp [go_sem]; rfl); clear hb1)
    obtain ⟨w2, hw2⟩ : ∃ x, x = w1.alloc (.cells (madeCells #[.int .i64 0] nL) 3) := ⟨_, rfl⟩
    have hb2 : Below w1.heap.size w1 w2 := by rw [hw2]; (repeat' (first | (with_reducible exact Below.refl _ _) | (with_reducible assumption) | (with_reducible refine Below.alloc ?_ ?_ _) | (with_reducible refine Below.drew ?_) | (with_reducible refine Below.draws ?_ _) | (with_reducible refine Below.setCell ?_ ?_ _) | (refine Below.then ?_ (by with_reducible assumption)) | go_size))
    have HW2 : Hid (w2.ownsRow w1.heap.size 3 1 (.slice (some ⟨w1.heap.size, 0, none⟩) nL nL) nL ((wkRow nL (o.take 0)).flatMap enc1)) := Lib.hid (by rw [hw2, List.take_zero, wkRow_nil]; exact make_own nL (by omega) w1)
    rw [← hw2]
    have HO2 := Lib.hid (Rd.ext (Rd.of_owns encE_len (by decide) HO1.out) hb2)
    have HR1 := Lib.hid (Rd.of_owns encE_len (by decide) HO1.out)
    have hn1 : n1 ≤ 504000 := by rw [← HR1.out.length]; exact HOL.out
    have HB12 := Lib.hid hb2
    have B2 := Lib.hid (Below.then B1.out hb2); have z2 : w.heap.size < w2.heap.size := Nat.lt_of_lt_of_le z1 hb2.size; have c2_0 := (hb2.cell (p := ⟨w.heap.size, 0, none⟩) z1).trans c1_0; have c2_1 := (hb2.cell (p := ⟨w.heap.size, 1, none⟩) z1).trans c1_1; have c2_2 := (hb2.cell (p := ⟨w.heap.size, 2, none⟩) z1).trans c1_2; have c2_3 := (hb2.cell (p := ⟨w.heap.size, 3, none⟩) z1).trans c1_3; have c2_4 := (hb2.cell (p := ⟨w.heap.size, 4, none⟩) z1).trans c1_4; have c2_5 := (hb2.cell (p := ⟨w.heap.size, 5, none⟩) z1).trans c1_5; clear hb2 c1_0 c1_1 c1_2 c1_3 c1_4 c1_5
    clear hw2
    go_wp2
    go_loopw [9] (fun v wr => ∃ k : Nat, k ≤ n1 ∧ v = .int .i64 k ∧ wr.ownsRow w1.heap.size 3 1 (.slice (some ⟨w1.heap.size, 0, none⟩) nL nL) nL ((wkRow nL (o.take k)).flatMap enc1) ∧ Below w1.heap.size w1 wr) (fun v _ => n1 - (intOf v).toNat)
    case atStart => exact ⟨0, Nat.zero_le _, rfl, HW2.out, HB12.out⟩
    case round =>
      clear HW2
      obtain ⟨k, hk, rfl, hW, hB⟩ := hrel
      have HB := Lib.hid hB; have HW := Lib.hid hW
      by_cases hkn : k < n1
      · obtain ⟨x, b1, o1, rfl, hb1, hx, q0, q1, q2, q3, q4⟩ := (HR1.out.ext hB).en_at k hkn
        have HX := Lib.hid hx
        have hmem := List.mem_of_getElem? hx
        obtain ⟨m1, k1, w1', a1, c1⟩ := x
        simp only [] at q0 q1 q2 q3 q4
        by_cases h4 : w1' = 4
        · subst h4
          obtain ⟨i, hi, hil⟩ := HOK.out _ hmem rfl
          simp only [] at hi
          subst hi
          obtain ⟨y, hy, d1, f1, gl⟩ := ownsI_at hW i hil
          rw [wkRow_get hil] at hy
          have hyb := cnt_take_bd (isWk i) o k
          obtain rfl : cntE (isWk i) (o.take k) = y := by simpa using hy
          have wr1 : IntKind.i64.wrap (cntE (isWk i) (o.take k) + 1) = cntE (isWk i) (o.take k) + 1 := IntWalk.i64_in _ (by have := HOL.out; omega)
          obtain ⟨C, hC⟩ : ∃ C, cntE (isWk i) (o.take k) = C := ⟨_, rfl⟩
          rw [hC] at wr1 d1
          have htk := wkRow_take4 (n := nL) hx rfl rfl hil
          rw [hC] at htk
          have HTK := Lib.hid htk
          clear hW hB hx hmem hy hyb htk hC
          go_wp2
          go_roundw
          case rel =>
            refine ⟨k + 1, hkn, by go_num, ?_, ?_⟩
            · rw [HTK.out]
              exact ownsI_set HW.out i (C + 1)
            · exact HB.out.setCell (p := ⟨w1.heap.size, i, none⟩) (Nat.le_refl _) _
          case measure => simp [intOf]; omega
        · have h4' : (w1' == 4) = false := by simpa using h4
          have htk := wkRow_take (n := nL) hx h4
          have HTK := Lib.hid htk
          clear hW hB hx hmem htk
          go_wp2
          go_roundw
          case rel => exact ⟨k + 1, hkn, by go_num, by rw [HTK.out]; exact HW.out, HB.out⟩
          case measure => simp [intOf]; omega
      · rw [List.take_of_length_le (by rw [HR1.out.length]; omega), HZ.out] at hW
        have HW := Lib.hid hW
        clear hW hB
        go_wp2
        go_ret2
        exact ⟨_, _, _, rfl, owns_mono HW.out B1.out.size, B1.out.trans (HB.out.mono B1.out.size)⟩
set_option maxRecDepth 100000 in
set_option maxHeartbeats 4000000 in
theorem rPause_any (H : RunH) (R : Rn) (t : Int) (w : World) (hR : ReadRun w H R) : Calls Try.prog 42 #[runV H R.fr R.sl, .int .i64 t] w fun e w' => e = rII (pauseR R t).1 (pauseR R t).2 ∧ Below w.heap.size w w' := by
  have HV := Lib.hid (fun w1 (hb : Below w.heap.size w w1) => rValid_run H R w1 (hR.ext hb))
  obtain ⟨A, hA⟩ : ∃ A, runB R = A := ⟨_, rfl⟩
  obtain ⟨C, hC⟩ : ∃ C, inB t 0 2000 = C := ⟨_, rfl⟩
  unfold pauseR
  rw [hC, hA]
  rw [hA] at HV
  have HC := Lib.hid hC
  cases A
  · obtain ⟨fr, hfr⟩ : ∃ x, R.fr = x := ⟨_, rfl⟩
    obtain ⟨sl_, hsl⟩ : ∃ x, R.sl = x := ⟨_, rfl⟩
    rw [hfr, hsl] at HV ⊢
    obtain ⟨tA, tN, tC, eA, eN, eC, bA, bN, bC, sA, sN, sC⟩ := H
    unfold runV at HV ⊢
    simp only [] at HV ⊢
    clear hR hA hC hfr hsl
    go_enter Try.func42, Try.ntmps42
    go_wp2_with (go_at_call 19; (with_reducible refine (HV.out _ (by (repeat' (first | (with_reducible exact Below.refl _ _) | (with_reducible assumption) | (with_reducible refine Below.alloc ?_ ?_ _) | (with_reducible refine Below.drew ?_) | (with_reducible refine Below.draws ?_ _) | (with_reducible refine Below.setCell ?_ ?_ _) | (refine Below.then ?_ (by with_reducible assumption)) | go_size)))).mono ?_); rintro e w1 ⟨rfl, hb1⟩; have B1 : Hid (Below w.heap.size w w1) := Lib.hid (Below.trans (by (repeat' (first | (with_reducible exact Below.refl _ _) | (with_reducible assumption) | (with_reducible refine Below.alloc ?_ ?_ _) | (with_reducible refine Below.drew ?_) | (with_reducible refine Below.draws ?_ _) | (with_reducible refine Below.setCell ?_ ?_ _) | (refine Below.then ?_ (by with_reducible assumption)) | go_size))) (hb1.mono (by simp))); have z1 : w.heap.size < w1.heap.size := Nat.lt_of_lt_of_le (by simp) hb1.size; have c1_0 := (hb1.cell (p := ⟨w.heap.size, 0, none⟩) (by simp)).trans (by simp [go_sem]; rfl); have c1_1 := (hb1.cell (p := ⟨w.heap.size, 1, none⟩) (by simp)).trans (by simp [go_sem]; rfl); have c1_2 := (hb1.cell (p := ⟨w.heap.size, 2, none⟩) (by simp)).trans (by simp [go_sem]; rfl); have c1_3 := (hb1.cell (p := ⟨w.heap.size, 3, none⟩) (by simp)).trans (by simp [go_sem]; rfl); have c1_4 := (hb1.cell (p := ⟨w.heap.size, 4, none⟩) (by simp)).trans (by simp [go_sem]; rfl); have c1_5 := (hb1.cell (p := ⟨w.heap.size, 5, none⟩) (by simp)).trans (by simp [go_sem]; rfl); clear hb1)
    go_ret2
    exact ⟨rfl, B1.out⟩
  · cases C
    · obtain ⟨fr, hfr⟩ : ∃ x, R.fr = x := ⟨_, rfl⟩
      obtain ⟨sl_, hsl⟩ : ∃ x, R.sl = x := ⟨_, rfl⟩
      rw [hfr, hsl] at HV ⊢
      obtain ⟨tA, tN, tC, eA, eN, eC, bA, bN, bC, sA, sN, sC⟩ := H
      unfold runV at HV ⊢
      simp only [] at HV ⊢
      clear hR hA hC hfr hsl
      go_enter Try.func42, Try.ntmps42
      go_wp2_with (first | (go_at_call 19; (with_reducible refine (HV.out _ (by (repeat' (first | (with_reducible exact Below.refl _ _) | (with_reducible assumption) | (with_reducible refine Below.alloc ?_ ?_ _) | (with_reducible refine Below.drew ?_) | (with_reducible refine Below.draws ?_ _) | (with_reducible refine Below.setCell ?_ ?_ _) | (refine Below.then ?_ (by with_reducible assumption)) | go_size)))).mono ?_); rintro e w1 ⟨rfl, hb1⟩; have B1 : Hid (Below w.heap.size w w1) := Lib.hid (Below.trans (by (repeat' (first | (with_reducible exact Below.refl _ _) | (with_reducible assumption) | (with_reducible refine Below.alloc ?_ ?_ _) | (with_reducible refine Below.drew ?_) | (with_reducible refine Below.draws ?_ _) | (with_reducible refine Below.setCell ?_ ?_ _) | (refine Below.then ?_ (by with_reducible assumption)) | go_size))) (hb1.mono (by simp))); have z1 : w.heap.size < w1.heap.size := Nat.lt_of_lt_of_le (by simp) hb1.size; have c1_0 := (hb1.cell (p := ⟨w.heap.size, 0, none⟩) (by simp)).trans (by simp [go_sem]; rfl); have c1_1 := (hb1.cell (p := ⟨w.heap.size, 1, none⟩) (by simp)).trans (by simp [go_sem]; rfl); have c1_2 := (hb1.cell (p := ⟨w.heap.size, 2, none⟩) (by simp)).trans (by simp [go_sem]; rfl); have c1_3 := (hb1.cell (p := ⟨w.heap.size, 3, none⟩) (by simp)).trans (by simp [go_sem]; rfl); have c1_4 := (hb1.cell (p := ⟨w.heap.size, 4, none⟩) (by simp)).trans (by simp [go_sem]; rfl); have c1_5 := (hb1.cell (p := ⟨w.heap.size, 5, none⟩) (by simp)).trans (by simp [go_sem]; rfl); clear hb1) | (go_at_call 47; (with_reducible refine (cin_is HC.out).mono ?_); rintro e w3 ⟨rfl, rfl⟩))
      go_ret2
      exact ⟨rfl, B1.out⟩
    · rw [inB_iff] at hC
      obtain ⟨tn, rfl⟩ := Int.eq_ofNat_of_zero_le hC.1
      rw [if_pos (show (true && true) = true from rfl), Int.toNat_natCast]
      have hr := (run_ok hA).1
      have hf1 := hr.f
      have hsup := supB_iff.1 (run_ok hA).2.2.1
      have hle := fun k => pzR_le (R := R) hf1 (by omega) k
      have hps := pzR_pos R
      have HST : Hid (∀ k : Nat, pzR R (k + 1) = if (k : Int) % R.fr < R.sl then (max (pzR R k).1 ((pzR R k).2 + 1), (pzR R k).2 + 1) else (max (pzR R k).1 0, 0)) := Lib.hid (fun k => rfl)
      obtain ⟨PZ, hPZ⟩ : ∃ f, pzR R = f := ⟨_, rfl⟩
      have hp0 : PZ 0 = (0, 0) := by rw [← hPZ]; rfl
      rw [hPZ] at hle hps HST ⊢
      have HLE := Lib.hid hle; have HPS := Lib.hid hps; have HP0 := Lib.hid hp0
      obtain ⟨fr, hfr⟩ : ∃ x, R.fr = x := ⟨_, rfl⟩
      obtain ⟨sl_, hsl⟩ : ∃ x, R.sl = x := ⟨_, rfl⟩
      rw [hfr] at hf1 hsup HLE HST HV ⊢
      rw [hsl] at hsup HLE HST HV ⊢
      obtain ⟨tA, tN, tC, eA, eN, eC, bA, bN, bC, sA, sN, sC⟩ := H
      unfold runV at HV ⊢
      simp only [] at HV ⊢
      have hrem : fr ≠ 0 := by omega
      have hfr60 : fr ≤ 60 := by omega
      have hsl2 : sl_ ≤ 1000 := by omega
      have htn : tn ≤ 2000 := by omega
      clear hR hA hfr hsl hr hle hps hPZ hp0 hsup hC
      go_enter Try.func42, Try.ntmps42
      go_wp2_with (first | (go_at_call 19; (with_reducible refine (HV.out _ (by (repeat' (first | (with_reducible exact Below.refl _ _) | (with_reducible assumption) | (with_reducible refine Below.alloc ?_ ?_ _) | (with_reducible refine Below.drew ?_) | (with_reducible refine Below.draws ?_ _) | (with_reducible refine Below.setCell ?_ ?_ _) | (refine Below.then ?_ (by with_reducible assumption)) | go_size)))).mono ?_); rintro e w1 ⟨rfl, hb1⟩; have B1 : Hid (Below w.heap.size w w1) := Lib.hid (Below.trans (by (repeat' (first | (with_reducible exact Below.refl _ _) | (with_reducible assumption) | (with_reducible refine Below.alloc ?_ ?_ _) | (with_reducible refine Below.drew ?_) | (with_reducible refine Below.draws ?_ _) | (with_reducible refine Below.setCell ?_ ?_ _) | (refine Below.then ?_ (by with_reducible assumption)) | go_size))) (hb1.mono (by simp))); have z1 : w.heap.size < w1.heap.size := Nat.lt_of_lt_of_le (by simp) hb1.size; have c1_0 := (hb1.cell (p := ⟨w.heap.size, 0, none⟩) (by simp)).trans (by simp [go_sem]; rfl); have c1_1 := (hb1.cell (p := ⟨w.heap.size, 1, none⟩) (by simp)).trans (by simp [go_sem]; rfl); have c1_2 := (hb1.cell (p := ⟨w.heap.size, 2, none⟩) (by simp)).trans (by simp [go_sem]; rfl); have c1_3 := (hb1.cell (p := ⟨w.heap.size, 3, none⟩) (by simp)).trans (by simp [go_sem]; rfl); have c1_4 := (hb1.cell (p := ⟨w.heap.size, 4, none⟩) (by simp)).trans (by simp [go_sem]; rfl); have c1_5 := (hb1.cell (p := ⟨w.heap.size, 5, none⟩) (by simp)).trans (by simp [go_sem]; rfl); clear hb1) | (go_at_call 47; (with_reducible refine (cin_is HC.out).mono ?_); rintro e w3 ⟨rfl, rfl⟩))
      go_loopw [6, 7, 8] (fun v6 v7 v8 wr => ∃ k : Nat, k ≤ tn ∧ v6 = .int .i64 (PZ k).1 ∧ v7 = .int .i64 (PZ k).2 ∧ v8 = .int .i64 k ∧ Below w1.heap.size w1 wr) (fun _ _ v _ => tn - (intOf v).toNat)
      case atStart => exact ⟨0, Nat.zero_le _, by rw [HP0.out], by rw [HP0.out], rfl, Below.refl _ _⟩
      case round =>
        obtain ⟨k, hk, rfl, rfl, rfl, hB⟩ := hrel
        have HB := Lib.hid hB
        by_cases hkn : k < tn
        · have hst := HST.out k
          have hl := HLE.out k
          have hp := HPS.out k
          have d1 := (hB.cell (p := ⟨w.heap.size, 1, none⟩) z1).trans c1_1
          have d2 := (hB.cell (p := ⟨w.heap.size, 2, none⟩) z1).trans c1_2
          have zz := Nat.lt_of_lt_of_le z1 hB.size
          have hm1 := Int.emod_lt_of_pos (k : Int) (show 0 < fr by omega)
          obtain ⟨RM, hRM⟩ : ∃ x, (k : Int) % fr = x := ⟨_, rfl⟩
          have hRM2 : (k : Int).tmod fr = RM := by rw [Int.tmod_eq_emod_of_nonneg (by omega)]; exact hRM
          rw [hRM] at hst hl hm1
          obtain ⟨⟨P, Rw⟩, hPk⟩ : ∃ p, PZ k = p := ⟨_, rfl⟩
          rw [hPk] at hst hl hp ⊢
          simp only [] at hst hl hp ⊢
          have hfr2 : Rw ≤ 2000000 := by omega
          have wr1 : IntKind.i64.wrap (Rw + 1) = Rw + 1 := IntWalk.i64_in _ (by omega)
          by_cases hg : RM < sl_
          · have hg' : decide (sl_ ≤ RM) = false := by simpa using hg
            rw [if_pos hg] at hst
            have HST1 := Lib.hid hst
            clear hB hst hl hp hRM hPk hm1
            go_wp2_with (refine wp_region_later_lit (by kernel_rfl) (by kernel_rfl) ?_; (repeat (go_big_quiet_step (fail))); refine wpQuiet_nil ?_; intro w7 hb7)
            go_roundw
            case rel => exact ⟨k + 1, hkn, by rw [HST1.out] <;> first | rfl | simp, by rw [HST1.out], by go_num, Below.then HB.out hb7⟩
            case measure => simp [intOf]; omega
          · have hg' : decide (sl_ ≤ RM) = true := by simp; omega
            rw [if_neg hg] at hst
            have HST1 := Lib.hid hst
            clear hB hst hl hp hRM hPk hm1
            go_wp2_with (refine wp_region_later_lit (by kernel_rfl) (by kernel_rfl) ?_; (repeat (go_big_quiet_step (fail))); refine wpQuiet_nil ?_; intro w7 hb7)
            go_roundw
            case rel => exact ⟨k + 1, hkn, by rw [HST1.out] <;> first | rfl | simp, by rw [HST1.out], by go_num, Below.then HB.out hb7⟩
            case measure => simp [intOf]; omega
        · obtain rfl : k = tn := by omega
          clear hB
          go_wp2
          go_ret2
          exact ⟨rfl, B1.out.trans (HB.out.mono B1.out.size)⟩
end Go.Proofs.Ytlhnhmimhpcoaaa
namespace Go.Proofs.Ytlhnhmimhpcoaaa
open Go.RowKit
set_option linter.unusedSimpArgs false
set_option linter.unusedVariables false
set_option maxRecDepth 100000 in
set_option maxHeartbeats 8000000 in
theorem rPreempted_any (H : RunH) (R : Rn) (t : Int) (w : World) (hR : ReadRun w H R) : Calls Try.prog 44 #[runV H R.fr R.sl, .int .i64 t] w fun e w' => e = rII (preR R t).1 (preR R t).2 ∧ Below w.heap.size w w' := by
  obtain ⟨B, hB⟩ : ∃ B, (runB R && inB t 0 2000) = B := ⟨_, rfl⟩
  have HE := Lib.hid (fun w1 (hb : Below w.heap.size w w1) => rEnds_any H R t w1 (hR.ext hb))
  unfold preR
  unfold endE endN at HE
  rw [hB] at HE ⊢
  cases B
  · simp only [Bool.false_eq_true, if_false] at HE
    obtain ⟨fr, hfr⟩ : ∃ x, R.fr = x := ⟨_, rfl⟩
    obtain ⟨sl_, hsl⟩ : ∃ x, R.sl = x := ⟨_, rfl⟩
    rw [hfr, hsl] at HE ⊢
    obtain ⟨tA, tN, tC, eA, eN, eC, bA, bN, bC, sA, sN, sC⟩ := H
    unfold runV at HE ⊢
    simp only [] at HE ⊢
    clear hR hB hfr hsl
    go_enter Try.func44, Try.ntmps44
    go_wp2_with (go_at_call 26; (with_reducible refine (HE.out _ (by (repeat' (first | (with_reducible exact Below.refl _ _) | (with_reducible assumption) | (with_reducible refine Below.alloc ?_ ?_ _) | (with_reducible refine Below.drew ?_) | (with_reducible refine Below.draws ?_ _) | (with_reducible refine Below.setCell ?_ ?_ _) | (refine Below.then ?_ (by with_reducible assumption)) | go_size)))).mono ?_); rintro e w1 ⟨a1, c1, rfl, h1, hb1⟩; have HX1 := Lib.hid h1; clear h1; have B1 : Hid (Below w.heap.size w w1) := Lib.hid (Below.trans (by (repeat' (first | (with_reducible exact Below.refl _ _) | (with_reducible assumption) | (with_reducible refine Below.alloc ?_ ?_ _) | (with_reducible refine Below.drew ?_) | (with_reducible refine Below.draws ?_ _) | (with_reducible refine Below.setCell ?_ ?_ _) | (refine Below.then ?_ (by with_reducible assumption)) | go_size))) (hb1.mono (by simp))); have z1 : w.heap.size < w1.heap.size := Nat.lt_of_lt_of_le (by simp) hb1.size; have c1_0 := (hb1.cell (p := ⟨w.heap.size, 0, none⟩) (by simp)).trans (by simp [go_sem]; rfl); have c1_1 := (hb1.cell (p := ⟨w.heap.size, 1, none⟩) (by simp)).trans (by simp [go_sem]; rfl); have c1_2 := (hb1.cell (p := ⟨w.heap.size, 2, none⟩) (by simp)).trans (by simp [go_sem]; rfl); have c1_3 := (hb1.cell (p := ⟨w.heap.size, 3, none⟩) (by simp)).trans (by simp [go_sem]; rfl); have c1_4 := (hb1.cell (p := ⟨w.heap.size, 4, none⟩) (by simp)).trans (by simp [go_sem]; rfl); have c1_5 := (hb1.cell (p := ⟨w.heap.size, 5, none⟩) (by simp)).trans (by simp [go_sem]; rfl); clear hb1)
    go_ret2
    exact ⟨rfl, B1.out⟩
  · simp only [if_true] at HE
    have hS : simR R t = ((plM R t.toNat).o, 0) := by unfold simR; rw [hB, if_pos rfl]
    have HS := Lib.hid (fun w1 (hb : Below w.heap.size w w1) => rSim_is (hR.ext hb) hS)
    rw [Bool.and_eq_true, inB_iff] at hB
    obtain ⟨tn, rfl⟩ := Int.eq_ofNat_of_zero_le hB.2.1
    rw [Int.toNat_natCast] at HS
    rw [if_pos rfl, Int.toNat_natCast]
    have hr := (run_ok hB.1).1
    have htn : tn ≤ 2000 := by omega
    have hol := plM_olen hr htn
    have hok := plM_ok4 hr tn
    obtain ⟨X, hX⟩ : ∃ X, endX R (tn : Int) = X := ⟨_, rfl⟩
    have hX2 : endsRow R (plM R tn).o = X := by rw [← hX]; unfold endX; rw [Int.toNat_natCast]
    have hXl : ∀ i, (X i).length = (evA R i).length := fun i => by rw [← hX2]; exact endsRow_len _ _ _
    rw [hX] at HE ⊢
    obtain ⟨o, ho⟩ : ∃ x, (plM R tn).o = x := ⟨_, rfl⟩
    rw [ho] at HS hol hok ⊢
    obtain ⟨nL, hnL⟩ : ∃ x, R.L.length = x := ⟨_, rfl⟩
    rw [hnL] at HE
    have HOK : Hid (∀ e ∈ o, e.w = 4 → LastOk nL X e) := Lib.hid (fun e he h4 => by obtain ⟨i, _, x, h1, _, h3, h2, _, h5⟩ := hok e he h4; exact .inr ⟨i, x, h1, h3, by rw [← hnL]; exact h2, by rw [hXl]; exact h5⟩)
    obtain ⟨Z, hZ⟩ : ∃ Z, preF X o = Z := ⟨_, rfl⟩
    rw [hZ]
    have HZ := Lib.hid hZ
    obtain ⟨fr, hfr⟩ : ∃ x, R.fr = x := ⟨_, rfl⟩
    obtain ⟨sl_, hsl⟩ : ∃ x, R.sl = x := ⟨_, rfl⟩
    rw [hfr, hsl] at HE HS ⊢
    obtain ⟨tA, tN, tC, eA, eN, eC, bA, bN, bC, sA, sN, sC⟩ := H
    unfold runV at HE HS ⊢
    simp only [] at HE HS ⊢
    clear hR hB hfr hsl ho hZ hr hok hnL hX hX2 hXl hS
    go_enter Try.func44, Try.ntmps44
    go_wp2_with (first | (go_at_call 26; (with_reducible refine (HE.out _ (by (repeat' (first | (with_reducible exact Below.refl _ _) | (with_reducible assumption) | (with_reducible refine Below.alloc ?_ ?_ _) | (with_reducible refine Below.drew ?_) | (with_reducible refine Below.draws ?_ _) | (with_reducible refine Below.setCell ?_ ?_ _) | (refine Below.then ?_ (by with_reducible assumption)) | go_size)))).mono ?_); rintro e w1 ⟨a1, c1, rfl, h1, hb1⟩; have HX1 := Lib.hid h1; clear h1; have B1 : Hid (Below w.heap.size w w1) := Lib.hid (Below.trans (by (repeat' (first | (with_reducible exact Below.refl _ _) | (with_reducible assumption) | (with_reducible refine Below.alloc ?_ ?_ _) | (with_reducible refine Below.drew ?_) | (with_reducible refine Below.draws ?_ _) | (with_reducible refine Below.setCell ?_ ?_ _) | (refine Below.then ?_ (by with_reducible assumption)) | go_size))) (hb1.mono (by simp))); have z1 : w.heap.size < w1.heap.size := Nat.lt_of_lt_of_le (by simp) hb1.size; have c1_0 := (hb1.cell (p := ⟨w.heap.size, 0, none⟩) (by simp)).trans (by simp [go_sem]; rfl); have c1_1 := (hb1.cell (p := ⟨w.heap.size, 1, none⟩) (by simp)).trans (by simp [go_sem]; rfl); have c1_2 := (hb1.cell (p := ⟨w.heap.size, 2, none⟩) (by simp)).trans (by simp [go_sem]; rfl); have c1_3 := (hb1.cell (p := ⟨w.heap.size, 3, none⟩) (by simp)).trans (by simp [go_sem]; rfl); have c1_4 := (hb1.cell (p := ⟨w.heap.size, 4, none⟩) (by simp)).trans (by simp [go_sem]; rfl); have c1_5 := (hb1.cell (p := ⟨w.heap.size, 5, none⟩) (by simp)).trans (by simp [go_sem]; rfl); clear hb1) | (go_at_call 16; (with_reducible refine (HS.out _ B1.out).mono ?_); rintro e w2 ⟨a2, n2, x2, rfl, h2, hb2⟩; have HO3 := Lib.hid (Rd.of_owns encE_len (by decide) h2); have HX3 := Lib.hid (HX1.out.ext hb2); clear h2; have B2 := Lib.hid (Below.then B1.out hb2); have z2 : w.heap.size < w2.heap.size := Nat.lt_of_lt_of_le z1 hb2.size; have c2_0 := (hb2.cell (p := ⟨w.heap.size, 0, none⟩) z1).trans c1_0; have c2_1 := (hb2.cell (p := ⟨w.heap.size, 1, none⟩) z1).trans c1_1; have c2_2 := (hb2.cell (p := ⟨w.heap.size, 2, none⟩) z1).trans c1_2; have c2_3 := (hb2.cell (p := ⟨w.heap.size, 3, none⟩) z1).trans c1_3; have c2_4 := (hb2.cell (p := ⟨w.heap.size, 4, none⟩) z1).trans c1_4; have c2_5 := (hb2.cell (p := ⟨w.heap.size, 5, none⟩) z1).trans c1_5; clear hb2 c1_0 c1_1 c1_2 c1_3 c1_4 c1_5))
    have hn2 : n2 ≤ 504000 := by rw [← HO3.out.length]; exact hol
    go_loopw [11, 12] (fun v8 v26 wr => ∃ k : Nat, k ≤ n2 ∧ v8 = .int .i64 (preF X (o.take k)).1 ∧ v26 = .int .i64 k ∧ Blk5 wr w2.heap.size (preF X (o.take k)).2 ∧ LastOk nL X (preF X (o.take k)).2 ∧ Below w2.heap.size w2 wr) (fun _ v _ => n2 - (intOf v).toNat)
    case atStart => exact ⟨0, Nat.zero_le _, rfl, rfl, ⟨by simp [go_sem]; rfl, by simp [go_sem]; rfl, by simp [go_sem]; rfl, by simp [go_sem]; rfl, by simp [go_sem]; rfl, fun j => by simp [go_sem], by simp⟩, .inl (show (-1 : Int) < 0 by decide), by (repeat' (first | (with_reducible exact Below.refl _ _) | (with_reducible assumption) | (with_reducible refine Below.alloc ?_ ?_ _) | (with_reducible refine Below.drew ?_) | (with_reducible refine Below.draws ?_ _) | (with_reducible refine Below.setCell ?_ ?_ _) | (refine Below.then ?_ (by with_reducible assumption)) | go_size))⟩
    case round =>
      obtain ⟨k, hk, rfl, rfl, hL5, hLO, hB⟩ := hrel
      have HB := Lib.hid hB; have HL5 := Lib.hid hL5; have HLO := Lib.hid hLO
      have hbd := preF_bd X o k
      by_cases hkn : k < n2
      · obtain ⟨x, b1, o1, rfl, hb1, hx, q0, q1, q2, q3, q4⟩ := (HO3.out.ext hB).en_at k hkn
        have htk := preF_take (X := X) hx
        have hmem := List.mem_of_getElem? hx
        have HX1 : Hid (x.w = 4 → LastOk nL X x) := Lib.hid (HOK.out x hmem)
        obtain ⟨⟨cn, l5⟩, hC⟩ : ∃ C, preF X (o.take k) = C := ⟨_, rfl⟩
        rw [hC] at htk hbd HLO HL5 ⊢
        obtain ⟨lm, lk, lw, la, lb⟩ := l5
        obtain ⟨m1, k1, w1', a1, c1⟩ := x
        have pz := hL5.z
        simp only [] at q0 q1 q2 q3 q4 hbd ⊢
        have hbz : b1 < wr.heap.size := World.block_lt_of_cell? _ _ q0
        have HQ : Hid (∀ wz, Below wr.heap.size wr wz → wz.cell? ⟨b1, o1 + k * 5, none⟩ = some (.int .i64 m1) ∧ wz.cell? ⟨b1, o1 + k * 5 + 1, none⟩ = some (.int .i64 k1) ∧ wz.cell? ⟨b1, o1 + k * 5 + 2, none⟩ = some (.int .i64 w1') ∧ wz.cell? ⟨b1, o1 + k * 5 + 3, none⟩ = some (.int .i64 a1) ∧ wz.cell? ⟨b1, o1 + k * 5 + 4, none⟩ = some (.int .i64 c1) ∧ b1 < wz.heap.size) := Lib.hid (fun wz hz => ⟨(hz.cell (p := ⟨b1, o1 + k * 5, none⟩) hbz).trans q0, (hz.cell (p := ⟨b1, o1 + k * 5 + 1, none⟩) hbz).trans q1, (hz.cell (p := ⟨b1, o1 + k * 5 + 2, none⟩) hbz).trans q2, (hz.cell (p := ⟨b1, o1 + k * 5 + 3, none⟩) hbz).trans q3, (hz.cell (p := ⟨b1, o1 + k * 5 + 4, none⟩) hbz).trans q4, Nat.lt_of_lt_of_le hbz hz.size⟩)
        have wr1 : IntKind.i64.wrap (cn + 1) = cn + 1 := IntWalk.i64_in _ (by omega)
        have HX2 : Hid (w1' = 4 → LastOk nL X ⟨m1, k1, w1', a1, c1⟩) := Lib.hid HX1.out
        have hset : ∀ W0 W, Below wr.heap.size wr W0 → Below (set5 W0 w2.heap.size ⟨m1, k1, w1', a1, c1⟩).heap.size (set5 W0 w2.heap.size ⟨m1, k1, w1', a1, c1⟩) W → Blk5 W w2.heap.size ⟨m1, k1, w1', a1, c1⟩ ∧ Below w2.heap.size w2 W := fun W0 W h0 hW => ⟨((HL5.out.ext h0).set (x := ⟨m1, k1, w1', a1, c1⟩)).ext hW, Below.then (set5_below (Below.then HB.out h0) (Nat.le_refl _)) hW⟩
        have HSET := Lib.hid hset
        have HTK0 := Lib.hid htk
        have HBE : Hid (Below wr.heap.size wr wr) := Lib.hid (Below.refl _ _)
        clear hset hL5 hLO hB hx hC hmem hbd htk HX1 q0 q1 q2 q3 q4
        obtain ⟨t0, t1, t2, t3, t4, tf, tz⟩ := HL5.out.ext HBE.out; obtain ⟨u0, u1, u2, u3, u4, uz⟩ := HQ.out _ HBE.out; simp only [] at t0 t1 t2 t3 t4; have g0 := tf 0; have g1 := tf 1; have g2 := tf 2; have g3 := tf 3; have g4 := tf 4; clear tf
        by_cases h4 : w1' = 4
        · subst h4
          have htk := HTK0.out
          unfold preS at htk
          rw [if_pos rfl] at htk
          simp only [] at htk
          by_cases a1' : 0 ≤ lk
          · have b1' : decide (0 ≤ lk) = true := by simpa using a1'
            have hne : (lk ≠ k1 ∨ lb ≠ c1) ∨ (lk = k1 ∧ lb = c1) := by omega
            rcases hne with hne | ⟨rfl, rfl⟩
            · rcases HLO.out with g | ⟨i, xx, hi, hxx, hil, hxl⟩
              · exact absurd g (by simp only []; omega)
              simp only [] at hi hxx
              subst hi; subst hxx
              obtain ⟨xb, xoff, xa, en, xc, rfl, hxb, hxc, hxlen, hxR⟩ := (HX3.out.ext HB.out).row hil
              obtain ⟨z, zb, zo, rfl, hzb, hzc, hz⟩ := hxR.idx xx (by omega)
              have hzz : ((X ((i : Nat) : Int).toNat)[((xx : Nat) : Int).toNat]?).getD 0 = z := by rw [Int.toNat_natCast, Int.toNat_natCast, hz]; rfl
              rw [hzz] at htk
              have hxen : xx < en := by omega
              have b2' : (((i : Int) != k1) = true ∨ (((i : Int) != k1) = false ∧ ((xx : Int) != c1) = true)) := by
                by_cases q : (i : Int) = k1
                · right; refine ⟨by simpa using q, ?_⟩
                  simp; omega
                · left; simpa using q
              have HTK1 := Lib.hid htk
              have HNE := Lib.hid hne
              have HXZ : Hid (∀ wz, Below wr.heap.size wr wz → wz.cell? ⟨xb, xoff + i, none⟩ = some (.slice (some ⟨zb, zo, none⟩) en xc) ∧ wz.cell? ⟨zb, zo + xx, none⟩ = some (.int .i64 z)) := Lib.hid (fun wz hz => ⟨(hz.cell (p := ⟨xb, xoff + i, none⟩) hxb).trans hxc, (hz.cell (p := ⟨zb, zo + xx, none⟩) hzb).trans hzc⟩)
              clear htk hxR hz hzz hne hxlen hxl hxc hzc
              rcases b2' with b2' | ⟨b2', b3'⟩
              all_goals
                go_upto_region 11 with fail
                go_upto_region 12 with (refine wp_region_later_lit (by kernel_rfl) (by kernel_rfl) ?_; (repeat (go_big_quiet_step (fail))); refine wpQuiet_nil ?_; intro w7 hb7)
                have HBE := Lib.hid hb7
                clear t0 t1 t2 t3 t4 tz g0 g1 g2 g3 g4 u0 u1 u2 u3 u4 uz
                clear hb7
                obtain ⟨t0, t1, t2, t3, t4, tf, tz⟩ := HL5.out.ext HBE.out; obtain ⟨u0, u1, u2, u3, u4, uz⟩ := HQ.out _ HBE.out; simp only [] at t0 t1 t2 t3 t4; have g0 := tf 0; have g1 := tf 1; have g2 := tf 2; have g3 := tf 3; have g4 := tf 4; clear tf
                obtain ⟨y1, y2⟩ := HXZ.out _ HBE.out
                have y3 := World.block_lt_of_cell? _ _ y1
                have y4 := World.block_lt_of_cell? _ _ y2
                simp only [] at y3 y4
                go_upto_region 13 with (refine wp_region_later_lit (by kernel_rfl) (by kernel_rfl) ?_; (repeat (go_big_quiet_step (fail))); refine wpQuiet_nil ?_; intro w8 hb8)
                have HBE := Lib.hid (Below.then HBE.out hb8)
                clear t0 t1 t2 t3 t4 tz g0 g1 g2 g3 g4 u0 u1 u2 u3 u4 uz
                clear hb8 y1 y2 y3 y4
                obtain ⟨t0, t1, t2, t3, t4, tf, tz⟩ := HL5.out.ext HBE.out; obtain ⟨u0, u1, u2, u3, u4, uz⟩ := HQ.out _ HBE.out; simp only [] at t0 t1 t2 t3 t4; have g0 := tf 0; have g1 := tf 1; have g2 := tf 2; have g3 := tf 3; have g4 := tf 4; clear tf
                have htk := HTK1.out
                have hq : (z < 0 ∨ m1 < z) ∨ ¬ (z < 0 ∨ m1 < z) := by omega
                rcases hq with hq | hq
                · rw [if_pos ⟨by omega, HNE.out, hq⟩] at htk
                  have HTK := Lib.hid htk
                  have hq' : decide (z < 0) = true ∨ (decide (z < 0) = false ∧ decide (m1 < z) = true) := by simp; omega
                  clear htk hq
                  rcases hq' with hq' | ⟨hq', hq''⟩
                  all_goals (go_wp2_with fail; go_roundw; (case rel => (obtain ⟨r1, r2⟩ := HSET.out _ _ HBE.out (by unfold set5; (repeat' (first | (with_reducible exact Below.refl _ _) | (with_reducible assumption) | (with_reducible refine Below.alloc ?_ ?_ _) | (with_reducible refine Below.drew ?_) | (with_reducible refine Below.draws ?_ _) | (with_reducible refine Below.setCell ?_ ?_ _) | (refine Below.then ?_ (by with_reducible assumption)) | go_size))); exact ⟨k + 1, hkn, by rw [HTK.out], by go_num, by rw [HTK.out]; exact r1, by rw [HTK.out]; exact HX2.out rfl, r2⟩)); (case measure => (simp [intOf]; omega)))
                · rw [if_neg (fun q => hq q.2.2)] at htk
                  have HTK := Lib.hid htk
                  have hq' : decide (z < 0) = false := by simp; omega
                  have hq'' : decide (m1 < z) = false := by simp; omega
                  clear htk hq
                  (go_wp2_with fail; go_roundw; (case rel => (obtain ⟨r1, r2⟩ := HSET.out _ _ HBE.out (by unfold set5; (repeat' (first | (with_reducible exact Below.refl _ _) | (with_reducible assumption) | (with_reducible refine Below.alloc ?_ ?_ _) | (with_reducible refine Below.drew ?_) | (with_reducible refine Below.draws ?_ _) | (with_reducible refine Below.setCell ?_ ?_ _) | (refine Below.then ?_ (by with_reducible assumption)) | go_size))); exact ⟨k + 1, hkn, by rw [HTK.out], by go_num, by rw [HTK.out]; exact r1, by rw [HTK.out]; exact HX2.out rfl, r2⟩)); (case measure => (simp [intOf]; omega)))
            · rw [if_neg (fun q => q.2.1.elim (fun h => h rfl) (fun h => h rfl))] at htk
              have HTK := Lib.hid htk
              have e1 : (lk != lk) = false := by simp
              have e2 : (lb != lb) = false := by simp
              clear htk
              go_upto_region 11 with fail
              go_upto_region 15 with (refine wp_region_later_lit (by kernel_rfl) (by kernel_rfl) ?_; (repeat (go_big_quiet_step (fail))); refine wpQuiet_nil ?_; intro w7 hb7)
              have HBE := Lib.hid hb7
              clear t0 t1 t2 t3 t4 tz g0 g1 g2 g3 g4 u0 u1 u2 u3 u4 uz
              clear hb7
              obtain ⟨t0, t1, t2, t3, t4, tf, tz⟩ := HL5.out.ext HBE.out; obtain ⟨u0, u1, u2, u3, u4, uz⟩ := HQ.out _ HBE.out; simp only [] at t0 t1 t2 t3 t4; have g0 := tf 0; have g1 := tf 1; have g2 := tf 2; have g3 := tf 3; have g4 := tf 4; clear tf
              (go_wp2_with fail; go_roundw; (case rel => (obtain ⟨r1, r2⟩ := HSET.out _ _ HBE.out (by unfold set5; (repeat' (first | (with_reducible exact Below.refl _ _) | (with_reducible assumption) | (with_reducible refine Below.alloc ?_ ?_ _) | (with_reducible refine Below.drew ?_) | (with_reducible refine Below.draws ?_ _) | (with_reducible refine Below.setCell ?_ ?_ _) | (refine Below.then ?_ (by with_reducible assumption)) | go_size))); exact ⟨k + 1, hkn, by rw [HTK.out], by go_num, by rw [HTK.out]; exact r1, by rw [HTK.out]; exact HX2.out rfl, r2⟩)); (case measure => (simp [intOf]; omega)))
          · have b1' : decide (0 ≤ lk) = false := by simpa using a1'
            rw [if_neg (fun q => a1' q.1)] at htk
            have HTK := Lib.hid htk
            clear htk
            go_upto_region 11 with fail
            go_upto_region 15 with (refine wp_region_later_lit (by kernel_rfl) (by kernel_rfl) ?_; (repeat (go_big_quiet_step (fail))); refine wpQuiet_nil ?_; intro w7 hb7)
            have HBE := Lib.hid hb7
            clear t0 t1 t2 t3 t4 tz g0 g1 g2 g3 g4 u0 u1 u2 u3 u4 uz
            clear hb7
            obtain ⟨t0, t1, t2, t3, t4, tf, tz⟩ := HL5.out.ext HBE.out; obtain ⟨u0, u1, u2, u3, u4, uz⟩ := HQ.out _ HBE.out; simp only [] at t0 t1 t2 t3 t4; have g0 := tf 0; have g1 := tf 1; have g2 := tf 2; have g3 := tf 3; have g4 := tf 4; clear tf
            (go_wp2_with fail; go_roundw; (case rel => (obtain ⟨r1, r2⟩ := HSET.out _ _ HBE.out (by unfold set5; (repeat' (first | (with_reducible exact Below.refl _ _) | (with_reducible assumption) | (with_reducible refine Below.alloc ?_ ?_ _) | (with_reducible refine Below.drew ?_) | (with_reducible refine Below.draws ?_ _) | (with_reducible refine Below.setCell ?_ ?_ _) | (refine Below.then ?_ (by with_reducible assumption)) | go_size))); exact ⟨k + 1, hkn, by rw [HTK.out], by go_num, by rw [HTK.out]; exact r1, by rw [HTK.out]; exact HX2.out rfl, r2⟩)); (case measure => (simp [intOf]; omega)))
        · have h4' : (w1' != 4) = true := by simpa using h4
          have htk := HTK0.out
          unfold preS at htk
          rw [if_neg h4] at htk
          have HTK := Lib.hid htk
          clear htk
          go_wp2_with fail
          go_roundw
          case rel => exact ⟨k + 1, hkn, by rw [HTK.out], by go_num, by rw [HTK.out]; exact HL5.out, by rw [HTK.out]; exact HLO.out, HB.out⟩
          case measure => simp [intOf]; omega
      · rw [List.take_of_length_le (by rw [HO3.out.length]; omega), HZ.out]
        clear hL5 hLO hB hbd
        go_wp2
        go_ret2
        exact ⟨rfl, B2.out.trans (HB.out.mono B2.out.size)⟩
end Go.Proofs.Ytlhnhmimhpcoaaa
namespace Go.Proofs.Ytlhnhmimhpcoaaa
open Go.RowKit
set_option linter.unusedSimpArgs false
set_option linter.unusedVariables false
theorem lintsC_eq (a b : Option Addr) (n m c d : Nat) (xs : List Int) (w : World) (hA : Rd w a n 1 (xs.map enc1)) (hB : Rd w b m 1 (xs.map enc1)) :
    Calls Try.prog 27 #[.slice a n c, .slice b m d] w fun e w' => e = .returned (.bool true) ∧ Below w.heap.size w w' := by
  obtain rfl : m = n := by rw [← hA.length, ← hB.length]
  have hs := hA.small
  have HA := Lib.hid hA; have HB := Lib.hid hB
  clear hA hB
  go_enter Try.func27, Try.ntmps27
  go_wp2
  go_loopw [5] (fun i wr => ∃ k : Nat, k ≤ m ∧ i = .int .i64 k ∧ Below w.heap.size w wr) (fun i _ => m - (intOf i).toNat)
  case atStart => exact ⟨0, Nat.zero_le _, rfl, by (repeat' (first | (with_reducible exact Below.refl _ _) | (with_reducible assumption) | (with_reducible refine Below.alloc ?_ ?_ _) | (with_reducible refine Below.drew ?_) | (with_reducible refine Below.draws ?_ _) | (with_reducible refine Below.setCell ?_ ?_ _) | (refine Below.then ?_ (by with_reducible assumption)) | go_size))⟩
  case round =>
    obtain ⟨k, hk, rfl, hb⟩ := hrel
    have HW := Lib.hid hb
    clear hb
    by_cases hlt : k < m
    · obtain ⟨x, b1, o1, rfl, hb1, hc1, hx⟩ := (HA.out.ext HW.out).idx k hlt
      obtain ⟨y, b2, o2, rfl, hb2, hc2, hy⟩ := (HB.out.ext HW.out).idx k hlt
      obtain rfl : x = y := by rw [hx] at hy; simpa using hy
      clear hx hy
      go_wp2_with (refine wp_region_later_lit (by kernel_rfl) (by kernel_rfl) ?_; (repeat (go_big_quiet_step (fail))); refine wpQuiet_nil ?_; intro w1 hb1)
      exact ⟨⟨k + 1, hlt, by go_num, Below.then HW.out hb1⟩, by simp [intOf]; omega⟩
    · go_wp2
      go_ret
      exact ⟨rfl, HW.out⟩
theorem sumI_le : ∀ (xs : List Int) (k : Nat), (∀ x ∈ xs, 0 ≤ x) → 0 ≤ sumI (xs.take k) ∧ sumI (xs.take k) ≤ sumI xs
  | [], k, _ => by simp [sumI]
  | x :: xs, 0, h => by
    have h1 := (sumI_le xs xs.length (fun y hy => h y (by simp [hy]))).1
    rw [List.take_length] at h1
    have := h x (by simp)
    simp [sumI]; omega
  | x :: xs, k + 1, h => by
    have h1 := sumI_le xs k (fun y hy => h y (by simp [hy]))
    have := h x (by simp)
    rw [List.take_succ_cons, sumI, sumI]; omega
theorem sumI_take {xs : List Int} {k : Nat} {x : Int} (h : xs[k]? = some x) : sumI (xs.take (k + 1)) = sumI (xs.take k) + x := by
  rw [take_one h, sumI_app]; simp [sumI]
theorem gcN_bd (R : Rn) : ∀ k : Nat, 0 ≤ gcN R k ∧ gcN R k ≤ k
  | 0 => by simp [gcN]
  | k + 1 => by
    have := gcN_bd R k
    rw [gcN]
    split <;> omega
set_option maxRecDepth 100000 in
set_option maxHeartbeats 8000000 in
theorem counts_walk {w : World} (H : RunH) (R : Rn) (hR : ReadRun w H R) (hS : RunS H R) (t : Int) (ht : -9223372036854775808 ≤ t ∧ t ≤ 9223372036854775807) :
    Calls Try.prog 12 #[runV H R.fr R.sl, .int .i64 t] w fun e w' => e = .returned (.bool true) ∧ Below w.heap.size w w' := by
  have HH := Lib.hid (fun w1 (hb : Below w.heap.size w w1) => heavy_any H R w1 (hR.ext hb) hS)
  have HWK := Lib.hid (fun w1 (hb : Below w.heap.size w w1) => Worked_any H R t w1 (hR.ext hb))
  have HRWK := Lib.hid (fun w1 (hb : Below w.heap.size w w1) => rWorked_any H R t w1 (hR.ext hb))
  have HID := Lib.hid (fun w1 (hb : Below w.heap.size w w1) => Idle_any H R t w1 (hR.ext hb))
  have HRID := Lib.hid (fun w1 (hb : Below w.heap.size w w1) => rIdle_any H R t w1 (hR.ext hb))
  have HPA := Lib.hid (fun w1 (hb : Below w.heap.size w w1) => Pause_any H R t w1 (hR.ext hb))
  have HRPA := Lib.hid (fun w1 (hb : Below w.heap.size w w1) => rPause_any H R t w1 (hR.ext hb))
  have HPR := Lib.hid (fun w1 (hb : Below w.heap.size w w1) => Preempted_any H R t w1 (hR.ext hb))
  have HRPR := Lib.hid (fun w1 (hb : Below w.heap.size w w1) => rPreempted_any H R t w1 (hR.ext hb))
  have HAS := Lib.hid (as_any H R.fr R.sl)
  obtain ⟨B, hB⟩ : ∃ B, heavyB R = B := ⟨_, rfl⟩
  rw [hB] at HH
  obtain ⟨C, hC⟩ : ∃ C, (runB R && inB t 0 2000) = C := ⟨_, rfl⟩
  unfold workedR at HWK HRWK
  unfold idleR at HID HRID
  unfold pauseR at HPA HRPA
  unfold preR at HPR HRPR
  rw [hC] at HWK HRWK HID HRID HPA HRPA HPR HRPR
  cases B
  · cases C
    · simp only [Bool.false_eq_true, if_false] at HWK HRWK HID HRID HPA HRPA HPR HRPR
      obtain ⟨fr, hfr⟩ : ∃ x, R.fr = x := ⟨_, rfl⟩
      obtain ⟨sl_, hsl⟩ : ∃ x, R.sl = x := ⟨_, rfl⟩
      rw [hfr, hsl] at HH HWK HRWK HID HRID HPA HRPA HPR HRPR HAS ⊢
      obtain ⟨tA, tN, tC, eA, eN, eC, bA, bN, bC, sA, sN, sC⟩ := H
      unfold runV at HH HWK HRWK HID HRID HPA HRPA HPR HRPR HAS ⊢
      simp only [] at HH HWK HRWK HID HRID HPA HRPA HPR HRPR HAS ⊢
      clear hR hS hB hfr hsl hC
      go_enter Try.func12, Try.ntmps12
      go_wp2_with (first | (go_at_call 13; (with_reducible refine (HH.out _ (by (repeat' (first | (with_reducible exact Below.refl _ _) | (with_reducible assumption) | (with_reducible refine Below.alloc ?_ ?_ _) | (with_reducible refine Below.drew ?_) | (with_reducible refine Below.draws ?_ _) | (with_reducible refine Below.setCell ?_ ?_ _) | (refine Below.then ?_ (by with_reducible assumption)) | go_size)))).mono ?_); rintro e w1 ⟨rfl, hb1⟩; have B1 : Hid (Below w.heap.size w w1) := Lib.hid (Below.trans (by (repeat' (first | (with_reducible exact Below.refl _ _) | (with_reducible assumption) | (with_reducible refine Below.alloc ?_ ?_ _) | (with_reducible refine Below.drew ?_) | (with_reducible refine Below.draws ?_ _) | (with_reducible refine Below.setCell ?_ ?_ _) | (refine Below.then ?_ (by with_reducible assumption)) | go_size))) (hb1.mono (by simp))); have z1 : w.heap.size < w1.heap.size := Nat.lt_of_lt_of_le (by simp) hb1.size; have c1_0 := (hb1.cell (p := ⟨w.heap.size, 0, none⟩) (by simp)).trans (by simp [go_sem]; rfl); have c1_1 := (hb1.cell (p := ⟨w.heap.size, 1, none⟩) (by simp)).trans (by simp [go_sem]; rfl); have c1_2 := (hb1.cell (p := ⟨w.heap.size, 2, none⟩) (by simp)).trans (by simp [go_sem]; rfl); have c1_3 := (hb1.cell (p := ⟨w.heap.size, 3, none⟩) (by simp)).trans (by simp [go_sem]; rfl); have c1_4 := (hb1.cell (p := ⟨w.heap.size, 4, none⟩) (by simp)).trans (by simp [go_sem]; rfl); have c1_5 := (hb1.cell (p := ⟨w.heap.size, 5, none⟩) (by simp)).trans (by simp [go_sem]; rfl); clear hb1) | (go_at_call 27; (with_reducible refine (lintsC_eq _ _ _ _ _ _ _ _ HX13.out HY13.out).mono ?_); rintro e w14 ⟨rfl, hb14⟩; have HX14 := Lib.hid (HX13.out.ext hb14); have B14 := Lib.hid (Below.then B13.out hb14); have z14 : w.heap.size < w14.heap.size := Nat.lt_of_lt_of_le z13 hb14.size; have c14_0 := (hb14.cell (p := ⟨w.heap.size, 0, none⟩) z13).trans c13_0; have c14_1 := (hb14.cell (p := ⟨w.heap.size, 1, none⟩) z13).trans c13_1; have c14_2 := (hb14.cell (p := ⟨w.heap.size, 2, none⟩) z13).trans c13_2; have c14_3 := (hb14.cell (p := ⟨w.heap.size, 3, none⟩) z13).trans c13_3; have c14_4 := (hb14.cell (p := ⟨w.heap.size, 4, none⟩) z13).trans c13_4; have c14_5 := (hb14.cell (p := ⟨w.heap.size, 5, none⟩) z13).trans c13_5; clear hb14 c13_0 c13_1 c13_2 c13_3 c13_4 c13_5) | (go_at_call 44; (with_reducible refine (HRPR.out _ B12.out).mono ?_); rintro e w13 ⟨rfl, hb13⟩; have HX13 := Lib.hid (HX12.out.ext hb13); have HY13 := Lib.hid (HY12.out.ext hb13); have B13 := Lib.hid (Below.then B12.out hb13); have z13 : w.heap.size < w13.heap.size := Nat.lt_of_lt_of_le z12 hb13.size; have c13_0 := (hb13.cell (p := ⟨w.heap.size, 0, none⟩) z12).trans c12_0; have c13_1 := (hb13.cell (p := ⟨w.heap.size, 1, none⟩) z12).trans c12_1; have c13_2 := (hb13.cell (p := ⟨w.heap.size, 2, none⟩) z12).trans c12_2; have c13_3 := (hb13.cell (p := ⟨w.heap.size, 3, none⟩) z12).trans c12_3; have c13_4 := (hb13.cell (p := ⟨w.heap.size, 4, none⟩) z12).trans c12_4; have c13_5 := (hb13.cell (p := ⟨w.heap.size, 5, none⟩) z12).trans c12_5; clear hb13 c12_0 c12_1 c12_2 c12_3 c12_4 c12_5) | (go_at_call 17; (with_reducible refine (HAS.out _).mono ?_); rintro e w12 ⟨rfl, hb12⟩; have HX12 := Lib.hid (HX11.out.ext hb12); have HY12 := Lib.hid (HY11.out.ext hb12); have B12 := Lib.hid (Below.then B11.out hb12); have z12 : w.heap.size < w12.heap.size := Nat.lt_of_lt_of_le z11 hb12.size; have c12_0 := (hb12.cell (p := ⟨w.heap.size, 0, none⟩) z11).trans c11_0; have c12_1 := (hb12.cell (p := ⟨w.heap.size, 1, none⟩) z11).trans c11_1; have c12_2 := (hb12.cell (p := ⟨w.heap.size, 2, none⟩) z11).trans c11_2; have c12_3 := (hb12.cell (p := ⟨w.heap.size, 3, none⟩) z11).trans c11_3; have c12_4 := (hb12.cell (p := ⟨w.heap.size, 4, none⟩) z11).trans c11_4; have c12_5 := (hb12.cell (p := ⟨w.heap.size, 5, none⟩) z11).trans c11_5; clear hb12 c11_0 c11_1 c11_2 c11_3 c11_4 c11_5) | (go_at_call 43; (with_reducible refine (HPR.out _ B10.out).mono ?_); rintro e w11 ⟨rfl, hb11⟩; have HX11 := Lib.hid (HX10.out.ext hb11); have HY11 := Lib.hid (HY10.out.ext hb11); have B11 := Lib.hid (Below.then B10.out hb11); have z11 : w.heap.size < w11.heap.size := Nat.lt_of_lt_of_le z10 hb11.size; have c11_0 := (hb11.cell (p := ⟨w.heap.size, 0, none⟩) z10).trans c10_0; have c11_1 := (hb11.cell (p := ⟨w.heap.size, 1, none⟩) z10).trans c10_1; have c11_2 := (hb11.cell (p := ⟨w.heap.size, 2, none⟩) z10).trans c10_2; have c11_3 := (hb11.cell (p := ⟨w.heap.size, 3, none⟩) z10).trans c10_3; have c11_4 := (hb11.cell (p := ⟨w.heap.size, 4, none⟩) z10).trans c10_4; have c11_5 := (hb11.cell (p := ⟨w.heap.size, 5, none⟩) z10).trans c10_5; clear hb11 c10_0 c10_1 c10_2 c10_3 c10_4 c10_5) | (go_at_call 42; (with_reducible refine (HRPA.out _ B9.out).mono ?_); rintro e w10 ⟨rfl, hb10⟩; have HX10 := Lib.hid (HX9.out.ext hb10); have HY10 := Lib.hid (HY9.out.ext hb10); have B10 := Lib.hid (Below.then B9.out hb10); have z10 : w.heap.size < w10.heap.size := Nat.lt_of_lt_of_le z9 hb10.size; have c10_0 := (hb10.cell (p := ⟨w.heap.size, 0, none⟩) z9).trans c9_0; have c10_1 := (hb10.cell (p := ⟨w.heap.size, 1, none⟩) z9).trans c9_1; have c10_2 := (hb10.cell (p := ⟨w.heap.size, 2, none⟩) z9).trans c9_2; have c10_3 := (hb10.cell (p := ⟨w.heap.size, 3, none⟩) z9).trans c9_3; have c10_4 := (hb10.cell (p := ⟨w.heap.size, 4, none⟩) z9).trans c9_4; have c10_5 := (hb10.cell (p := ⟨w.heap.size, 5, none⟩) z9).trans c9_5; clear hb10 c9_0 c9_1 c9_2 c9_3 c9_4 c9_5) | (go_at_call 17; (with_reducible refine (HAS.out _).mono ?_); rintro e w9 ⟨rfl, hb9⟩; have HX9 := Lib.hid (HX8.out.ext hb9); have HY9 := Lib.hid (HY8.out.ext hb9); have B9 := Lib.hid (Below.then B8.out hb9); have z9 : w.heap.size < w9.heap.size := Nat.lt_of_lt_of_le z8 hb9.size; have c9_0 := (hb9.cell (p := ⟨w.heap.size, 0, none⟩) z8).trans c8_0; have c9_1 := (hb9.cell (p := ⟨w.heap.size, 1, none⟩) z8).trans c8_1; have c9_2 := (hb9.cell (p := ⟨w.heap.size, 2, none⟩) z8).trans c8_2; have c9_3 := (hb9.cell (p := ⟨w.heap.size, 3, none⟩) z8).trans c8_3; have c9_4 := (hb9.cell (p := ⟨w.heap.size, 4, none⟩) z8).trans c8_4; have c9_5 := (hb9.cell (p := ⟨w.heap.size, 5, none⟩) z8).trans c8_5; clear hb9 c8_0 c8_1 c8_2 c8_3 c8_4 c8_5) | (go_at_call 41; (with_reducible refine (HPA.out _ B7.out).mono ?_); rintro e w8 ⟨rfl, hb8⟩; have HX8 := Lib.hid (HX7.out.ext hb8); have HY8 := Lib.hid (HY7.out.ext hb8); have B8 := Lib.hid (Below.then B7.out hb8); have z8 : w.heap.size < w8.heap.size := Nat.lt_of_lt_of_le z7 hb8.size; have c8_0 := (hb8.cell (p := ⟨w.heap.size, 0, none⟩) z7).trans c7_0; have c8_1 := (hb8.cell (p := ⟨w.heap.size, 1, none⟩) z7).trans c7_1; have c8_2 := (hb8.cell (p := ⟨w.heap.size, 2, none⟩) z7).trans c7_2; have c8_3 := (hb8.cell (p := ⟨w.heap.size, 3, none⟩) z7).trans c7_3; have c8_4 := (hb8.cell (p := ⟨w.heap.size, 4, none⟩) z7).trans c7_4; have c8_5 := (hb8.cell (p := ⟨w.heap.size, 5, none⟩) z7).trans c7_5; clear hb8 c7_0 c7_1 c7_2 c7_3 c7_4 c7_5) | (go_at_call 40; (with_reducible refine (HRID.out _ B6.out).mono ?_); rintro e w7 ⟨rfl, hb7⟩; have HX7 := Lib.hid (HX6.out.ext hb7); have HY7 := Lib.hid (HY6.out.ext hb7); have B7 := Lib.hid (Below.then B6.out hb7); have z7 : w.heap.size < w7.heap.size := Nat.lt_of_lt_of_le z6 hb7.size; have c7_0 := (hb7.cell (p := ⟨w.heap.size, 0, none⟩) z6).trans c6_0; have c7_1 := (hb7.cell (p := ⟨w.heap.size, 1, none⟩) z6).trans c6_1; have c7_2 := (hb7.cell (p := ⟨w.heap.size, 2, none⟩) z6).trans c6_2; have c7_3 := (hb7.cell (p := ⟨w.heap.size, 3, none⟩) z6).trans c6_3; have c7_4 := (hb7.cell (p := ⟨w.heap.size, 4, none⟩) z6).trans c6_4; have c7_5 := (hb7.cell (p := ⟨w.heap.size, 5, none⟩) z6).trans c6_5; clear hb7 c6_0 c6_1 c6_2 c6_3 c6_4 c6_5) | (go_at_call 17; (with_reducible refine (HAS.out _).mono ?_); rintro e w6 ⟨rfl, hb6⟩; have HX6 := Lib.hid (HX5.out.ext hb6); have HY6 := Lib.hid (HY5.out.ext hb6); have B6 := Lib.hid (Below.then B5.out hb6); have z6 : w.heap.size < w6.heap.size := Nat.lt_of_lt_of_le z5 hb6.size; have c6_0 := (hb6.cell (p := ⟨w.heap.size, 0, none⟩) z5).trans c5_0; have c6_1 := (hb6.cell (p := ⟨w.heap.size, 1, none⟩) z5).trans c5_1; have c6_2 := (hb6.cell (p := ⟨w.heap.size, 2, none⟩) z5).trans c5_2; have c6_3 := (hb6.cell (p := ⟨w.heap.size, 3, none⟩) z5).trans c5_3; have c6_4 := (hb6.cell (p := ⟨w.heap.size, 4, none⟩) z5).trans c5_4; have c6_5 := (hb6.cell (p := ⟨w.heap.size, 5, none⟩) z5).trans c5_5; clear hb6 c5_0 c5_1 c5_2 c5_3 c5_4 c5_5) | (go_at_call 39; (with_reducible refine (HID.out _ B4.out).mono ?_); rintro e w5 ⟨rfl, hb5⟩; have HX5 := Lib.hid (HX4.out.ext hb5); have HY5 := Lib.hid (HY4.out.ext hb5); have B5 := Lib.hid (Below.then B4.out hb5); have z5 : w.heap.size < w5.heap.size := Nat.lt_of_lt_of_le z4 hb5.size; have c5_0 := (hb5.cell (p := ⟨w.heap.size, 0, none⟩) z4).trans c4_0; have c5_1 := (hb5.cell (p := ⟨w.heap.size, 1, none⟩) z4).trans c4_1; have c5_2 := (hb5.cell (p := ⟨w.heap.size, 2, none⟩) z4).trans c4_2; have c5_3 := (hb5.cell (p := ⟨w.heap.size, 3, none⟩) z4).trans c4_3; have c5_4 := (hb5.cell (p := ⟨w.heap.size, 4, none⟩) z4).trans c4_4; have c5_5 := (hb5.cell (p := ⟨w.heap.size, 5, none⟩) z4).trans c4_5; clear hb5 c4_0 c4_1 c4_2 c4_3 c4_4 c4_5) | (go_at_call 38; (with_reducible refine (HRWK.out _ B3.out).mono ?_); rintro e w4 ⟨a4, n4, x4, rfl, h4, hb4⟩; have HY4 := Lib.hid (ownsI_rd h4); have HX4 := Lib.hid (HX3.out.ext hb4); clear h4; have B4 := Lib.hid (Below.then B3.out hb4); have z4 : w.heap.size < w4.heap.size := Nat.lt_of_lt_of_le z3 hb4.size; have c4_0 := (hb4.cell (p := ⟨w.heap.size, 0, none⟩) z3).trans c3_0; have c4_1 := (hb4.cell (p := ⟨w.heap.size, 1, none⟩) z3).trans c3_1; have c4_2 := (hb4.cell (p := ⟨w.heap.size, 2, none⟩) z3).trans c3_2; have c4_3 := (hb4.cell (p := ⟨w.heap.size, 3, none⟩) z3).trans c3_3; have c4_4 := (hb4.cell (p := ⟨w.heap.size, 4, none⟩) z3).trans c3_4; have c4_5 := (hb4.cell (p := ⟨w.heap.size, 5, none⟩) z3).trans c3_5; clear hb4 c3_0 c3_1 c3_2 c3_3 c3_4 c3_5) | (go_at_call 17; (with_reducible refine (HAS.out _).mono ?_); rintro e w3 ⟨rfl, hb3⟩; have HX3 := Lib.hid (HX2.out.ext hb3); have B3 := Lib.hid (Below.then B2.out hb3); have z3 : w.heap.size < w3.heap.size := Nat.lt_of_lt_of_le z2 hb3.size; have c3_0 := (hb3.cell (p := ⟨w.heap.size, 0, none⟩) z2).trans c2_0; have c3_1 := (hb3.cell (p := ⟨w.heap.size, 1, none⟩) z2).trans c2_1; have c3_2 := (hb3.cell (p := ⟨w.heap.size, 2, none⟩) z2).trans c2_2; have c3_3 := (hb3.cell (p := ⟨w.heap.size, 3, none⟩) z2).trans c2_3; have c3_4 := (hb3.cell (p := ⟨w.heap.size, 4, none⟩) z2).trans c2_4; have c3_5 := (hb3.cell (p := ⟨w.heap.size, 5, none⟩) z2).trans c2_5; clear hb3 c2_0 c2_1 c2_2 c2_3 c2_4 c2_5) | (go_at_call 37; (with_reducible refine (HWK.out _ B1.out).mono ?_); rintro e w2 ⟨a2, n2, x2, rfl, h2, hb2⟩; have HX2 := Lib.hid (ownsI_rd h2); clear h2; have B2 := Lib.hid (Below.then B1.out hb2); have z2 : w.heap.size < w2.heap.size := Nat.lt_of_lt_of_le z1 hb2.size; have c2_0 := (hb2.cell (p := ⟨w.heap.size, 0, none⟩) z1).trans c1_0; have c2_1 := (hb2.cell (p := ⟨w.heap.size, 1, none⟩) z1).trans c1_1; have c2_2 := (hb2.cell (p := ⟨w.heap.size, 2, none⟩) z1).trans c1_2; have c2_3 := (hb2.cell (p := ⟨w.heap.size, 3, none⟩) z1).trans c1_3; have c2_4 := (hb2.cell (p := ⟨w.heap.size, 4, none⟩) z1).trans c1_4; have c2_5 := (hb2.cell (p := ⟨w.heap.size, 5, none⟩) z1).trans c1_5; clear hb2 c1_0 c1_1 c1_2 c1_3 c1_4 c1_5) | (go_at_call 14; (with_reducible refine (sane_any _).mono ?_); rintro e w19 ⟨rfl, hb19⟩))
      go_ret
      exact ⟨rfl, Below.then B14.out hb19⟩
    · rw [Bool.and_eq_true, inB_iff] at hC
      obtain ⟨tn, rfl⟩ := Int.eq_ofNat_of_zero_le hC.2.1
      simp only [if_true, Int.toNat_natCast] at HWK HRWK HID HRID HPA HRPA HPR HRPR
      have hr := (run_ok hC.1).1
      have htn : tn ≤ 2000 := by omega
      have hsup := supB_iff.1 (run_ok hC.1).2.2.1
      have hall := all_ticks hr tn
      have hpz := (pzR_le (R := R) (by omega) (by omega) tn).1
      have hol := plM_olen hr htn
      have hid : -504000 ≤ idleN R tn := by
        unfold idleN
        have := cntE_bd isBusy (plM R tn).o
        omega
      have hgc := gcN_bd R
      have hg0 : gcN R 0 = 0 := rfl
      have HGC : Hid (∀ k : Nat, gcN R (k + 1) = gcN R k + (if (k : Int) % R.fr < R.sl then 1 else 0)) := Lib.hid (fun k => rfl)
      obtain ⟨G, hG⟩ : ∃ G, gcN R = G := ⟨_, rfl⟩
      have hnn : ∀ x ∈ wkRow R.L.length (plM R tn).o, 0 ≤ x := fun x hx => by
        unfold wkRow at hx
        obtain ⟨i, _, rfl⟩ := List.mem_map.1 hx
        exact (cntE_bd _ _).1
      have hst := sumI_le (wkRow R.L.length (plM R tn).o)
      obtain ⟨xs, hxs⟩ : ∃ xs, wkRow R.L.length (plM R tn).o = xs := ⟨_, rfl⟩
      obtain ⟨idl, hidl⟩ : ∃ x, idleN R tn = x := ⟨_, rfl⟩
      obtain ⟨pz, hpzz⟩ : ∃ x, (pzR R tn).1 = x := ⟨_, rfl⟩
      obtain ⟨pr, hpr⟩ : ∃ x, (preF (endX R (tn : Int)) (plM R tn).o).1 = x := ⟨_, rfl⟩
      rw [hxs] at HWK HRWK hall hnn hst
      rw [hidl] at HID HRID hall hid
      rw [hpzz] at HPA HRPA hpz
      rw [hpr] at HPR HRPR
      rw [hG] at hall hgc hg0 HGC
      have HST := Lib.hid (fun k => hst k hnn)
      have HGB := Lib.hid hgc
      obtain ⟨fr, hfr⟩ : ∃ x, R.fr = x := ⟨_, rfl⟩
      obtain ⟨sl_, hsl⟩ : ∃ x, R.sl = x := ⟨_, rfl⟩
      rw [hfr, hsl] at HH HWK HRWK HID HRID HPA HRPA HPR HRPR HAS HGC ⊢
      rw [hfr, hsl] at hsup
      rw [hsl] at hpz
      obtain ⟨tA, tN, tC, eA, eN, eC, bA, bN, bC, sA, sN, sC⟩ := H
      unfold runV at HH HWK HRWK HID HRID HPA HRPA HPR HRPR HAS ⊢
      simp only [] at HH HWK HRWK HID HRID HPA HRPA HPR HRPR HAS ⊢
      have hfr0 : fr ≠ 0 := by omega
      have hpz' : decide (sl_ < pz) = false := by simp; omega
      have HALL := Lib.hid hall; have HHID := Lib.hid hid; have HG0 := Lib.hid hg0
      clear hR hS hB hfr hsl hC hxs hidl hpzz hpr hG hnn hst hr hol hall hid hgc hg0 hpz hsup
      go_enter Try.func12, Try.ntmps12
      go_wp2_with (first | (go_at_call 13; (with_reducible refine (HH.out _ (by (repeat' (first | (with_reducible exact Below.refl _ _) | (with_reducible assumption) | (with_reducible refine Below.alloc ?_ ?_ _) | (with_reducible refine Below.drew ?_) | (with_reducible refine Below.draws ?_ _) | (with_reducible refine Below.setCell ?_ ?_ _) | (refine Below.then ?_ (by with_reducible assumption)) | go_size)))).mono ?_); rintro e w1 ⟨rfl, hb1⟩; have B1 : Hid (Below w.heap.size w w1) := Lib.hid (Below.trans (by (repeat' (first | (with_reducible exact Below.refl _ _) | (with_reducible assumption) | (with_reducible refine Below.alloc ?_ ?_ _) | (with_reducible refine Below.drew ?_) | (with_reducible refine Below.draws ?_ _) | (with_reducible refine Below.setCell ?_ ?_ _) | (refine Below.then ?_ (by with_reducible assumption)) | go_size))) (hb1.mono (by simp))); have z1 : w.heap.size < w1.heap.size := Nat.lt_of_lt_of_le (by simp) hb1.size; have c1_0 := (hb1.cell (p := ⟨w.heap.size, 0, none⟩) (by simp)).trans (by simp [go_sem]; rfl); have c1_1 := (hb1.cell (p := ⟨w.heap.size, 1, none⟩) (by simp)).trans (by simp [go_sem]; rfl); have c1_2 := (hb1.cell (p := ⟨w.heap.size, 2, none⟩) (by simp)).trans (by simp [go_sem]; rfl); have c1_3 := (hb1.cell (p := ⟨w.heap.size, 3, none⟩) (by simp)).trans (by simp [go_sem]; rfl); have c1_4 := (hb1.cell (p := ⟨w.heap.size, 4, none⟩) (by simp)).trans (by simp [go_sem]; rfl); have c1_5 := (hb1.cell (p := ⟨w.heap.size, 5, none⟩) (by simp)).trans (by simp [go_sem]; rfl); clear hb1) | (go_at_call 27; (with_reducible refine (lintsC_eq _ _ _ _ _ _ _ _ HX13.out HY13.out).mono ?_); rintro e w14 ⟨rfl, hb14⟩; have HX14 := Lib.hid (HX13.out.ext hb14); have B14 := Lib.hid (Below.then B13.out hb14); have z14 : w.heap.size < w14.heap.size := Nat.lt_of_lt_of_le z13 hb14.size; have c14_0 := (hb14.cell (p := ⟨w.heap.size, 0, none⟩) z13).trans c13_0; have c14_1 := (hb14.cell (p := ⟨w.heap.size, 1, none⟩) z13).trans c13_1; have c14_2 := (hb14.cell (p := ⟨w.heap.size, 2, none⟩) z13).trans c13_2; have c14_3 := (hb14.cell (p := ⟨w.heap.size, 3, none⟩) z13).trans c13_3; have c14_4 := (hb14.cell (p := ⟨w.heap.size, 4, none⟩) z13).trans c13_4; have c14_5 := (hb14.cell (p := ⟨w.heap.size, 5, none⟩) z13).trans c13_5; clear hb14 c13_0 c13_1 c13_2 c13_3 c13_4 c13_5) | (go_at_call 44; (with_reducible refine (HRPR.out _ B12.out).mono ?_); rintro e w13 ⟨rfl, hb13⟩; have HX13 := Lib.hid (HX12.out.ext hb13); have HY13 := Lib.hid (HY12.out.ext hb13); have B13 := Lib.hid (Below.then B12.out hb13); have z13 : w.heap.size < w13.heap.size := Nat.lt_of_lt_of_le z12 hb13.size; have c13_0 := (hb13.cell (p := ⟨w.heap.size, 0, none⟩) z12).trans c12_0; have c13_1 := (hb13.cell (p := ⟨w.heap.size, 1, none⟩) z12).trans c12_1; have c13_2 := (hb13.cell (p := ⟨w.heap.size, 2, none⟩) z12).trans c12_2; have c13_3 := (hb13.cell (p := ⟨w.heap.size, 3, none⟩) z12).trans c12_3; have c13_4 := (hb13.cell (p := ⟨w.heap.size, 4, none⟩) z12).trans c12_4; have c13_5 := (hb13.cell (p := ⟨w.heap.size, 5, none⟩) z12).trans c12_5; clear hb13 c12_0 c12_1 c12_2 c12_3 c12_4 c12_5) | (go_at_call 17; (with_reducible refine (HAS.out _).mono ?_); rintro e w12 ⟨rfl, hb12⟩; have HX12 := Lib.hid (HX11.out.ext hb12); have HY12 := Lib.hid (HY11.out.ext hb12); have B12 := Lib.hid (Below.then B11.out hb12); have z12 : w.heap.size < w12.heap.size := Nat.lt_of_lt_of_le z11 hb12.size; have c12_0 := (hb12.cell (p := ⟨w.heap.size, 0, none⟩) z11).trans c11_0; have c12_1 := (hb12.cell (p := ⟨w.heap.size, 1, none⟩) z11).trans c11_1; have c12_2 := (hb12.cell (p := ⟨w.heap.size, 2, none⟩) z11).trans c11_2; have c12_3 := (hb12.cell (p := ⟨w.heap.size, 3, none⟩) z11).trans c11_3; have c12_4 := (hb12.cell (p := ⟨w.heap.size, 4, none⟩) z11).trans c11_4; have c12_5 := (hb12.cell (p := ⟨w.heap.size, 5, none⟩) z11).trans c11_5; clear hb12 c11_0 c11_1 c11_2 c11_3 c11_4 c11_5) | (go_at_call 43; (with_reducible refine (HPR.out _ B10.out).mono ?_); rintro e w11 ⟨rfl, hb11⟩; have HX11 := Lib.hid (HX10.out.ext hb11); have HY11 := Lib.hid (HY10.out.ext hb11); have B11 := Lib.hid (Below.then B10.out hb11); have z11 : w.heap.size < w11.heap.size := Nat.lt_of_lt_of_le z10 hb11.size; have c11_0 := (hb11.cell (p := ⟨w.heap.size, 0, none⟩) z10).trans c10_0; have c11_1 := (hb11.cell (p := ⟨w.heap.size, 1, none⟩) z10).trans c10_1; have c11_2 := (hb11.cell (p := ⟨w.heap.size, 2, none⟩) z10).trans c10_2; have c11_3 := (hb11.cell (p := ⟨w.heap.size, 3, none⟩) z10).trans c10_3; have c11_4 := (hb11.cell (p := ⟨w.heap.size, 4, none⟩) z10).trans c10_4; have c11_5 := (hb11.cell (p := ⟨w.heap.size, 5, none⟩) z10).trans c10_5; clear hb11 c10_0 c10_1 c10_2 c10_3 c10_4 c10_5) | (go_at_call 42; (with_reducible refine (HRPA.out _ B9.out).mono ?_); rintro e w10 ⟨rfl, hb10⟩; have HX10 := Lib.hid (HX9.out.ext hb10); have HY10 := Lib.hid (HY9.out.ext hb10); have B10 := Lib.hid (Below.then B9.out hb10); have z10 : w.heap.size < w10.heap.size := Nat.lt_of_lt_of_le z9 hb10.size; have c10_0 := (hb10.cell (p := ⟨w.heap.size, 0, none⟩) z9).trans c9_0; have c10_1 := (hb10.cell (p := ⟨w.heap.size, 1, none⟩) z9).trans c9_1; have c10_2 := (hb10.cell (p := ⟨w.heap.size, 2, none⟩) z9).trans c9_2; have c10_3 := (hb10.cell (p := ⟨w.heap.size, 3, none⟩) z9).trans c9_3; have c10_4 := (hb10.cell (p := ⟨w.heap.size, 4, none⟩) z9).trans c9_4; have c10_5 := (hb10.cell (p := ⟨w.heap.size, 5, none⟩) z9).trans c9_5; clear hb10 c9_0 c9_1 c9_2 c9_3 c9_4 c9_5) | (go_at_call 17; (with_reducible refine (HAS.out _).mono ?_); rintro e w9 ⟨rfl, hb9⟩; have HX9 := Lib.hid (HX8.out.ext hb9); have HY9 := Lib.hid (HY8.out.ext hb9); have B9 := Lib.hid (Below.then B8.out hb9); have z9 : w.heap.size < w9.heap.size := Nat.lt_of_lt_of_le z8 hb9.size; have c9_0 := (hb9.cell (p := ⟨w.heap.size, 0, none⟩) z8).trans c8_0; have c9_1 := (hb9.cell (p := ⟨w.heap.size, 1, none⟩) z8).trans c8_1; have c9_2 := (hb9.cell (p := ⟨w.heap.size, 2, none⟩) z8).trans c8_2; have c9_3 := (hb9.cell (p := ⟨w.heap.size, 3, none⟩) z8).trans c8_3; have c9_4 := (hb9.cell (p := ⟨w.heap.size, 4, none⟩) z8).trans c8_4; have c9_5 := (hb9.cell (p := ⟨w.heap.size, 5, none⟩) z8).trans c8_5; clear hb9 c8_0 c8_1 c8_2 c8_3 c8_4 c8_5) | (go_at_call 41; (with_reducible refine (HPA.out _ B7.out).mono ?_); rintro e w8 ⟨rfl, hb8⟩; have HX8 := Lib.hid (HX7.out.ext hb8); have HY8 := Lib.hid (HY7.out.ext hb8); have B8 := Lib.hid (Below.then B7.out hb8); have z8 : w.heap.size < w8.heap.size := Nat.lt_of_lt_of_le z7 hb8.size; have c8_0 := (hb8.cell (p := ⟨w.heap.size, 0, none⟩) z7).trans c7_0; have c8_1 := (hb8.cell (p := ⟨w.heap.size, 1, none⟩) z7).trans c7_1; have c8_2 := (hb8.cell (p := ⟨w.heap.size, 2, none⟩) z7).trans c7_2; have c8_3 := (hb8.cell (p := ⟨w.heap.size, 3, none⟩) z7).trans c7_3; have c8_4 := (hb8.cell (p := ⟨w.heap.size, 4, none⟩) z7).trans c7_4; have c8_5 := (hb8.cell (p := ⟨w.heap.size, 5, none⟩) z7).trans c7_5; clear hb8 c7_0 c7_1 c7_2 c7_3 c7_4 c7_5) | (go_at_call 40; (with_reducible refine (HRID.out _ B6.out).mono ?_); rintro e w7 ⟨rfl, hb7⟩; have HX7 := Lib.hid (HX6.out.ext hb7); have HY7 := Lib.hid (HY6.out.ext hb7); have B7 := Lib.hid (Below.then B6.out hb7); have z7 : w.heap.size < w7.heap.size := Nat.lt_of_lt_of_le z6 hb7.size; have c7_0 := (hb7.cell (p := ⟨w.heap.size, 0, none⟩) z6).trans c6_0; have c7_1 := (hb7.cell (p := ⟨w.heap.size, 1, none⟩) z6).trans c6_1; have c7_2 := (hb7.cell (p := ⟨w.heap.size, 2, none⟩) z6).trans c6_2; have c7_3 := (hb7.cell (p := ⟨w.heap.size, 3, none⟩) z6).trans c6_3; have c7_4 := (hb7.cell (p := ⟨w.heap.size, 4, none⟩) z6).trans c6_4; have c7_5 := (hb7.cell (p := ⟨w.heap.size, 5, none⟩) z6).trans c6_5; clear hb7 c6_0 c6_1 c6_2 c6_3 c6_4 c6_5) | (go_at_call 17; (with_reducible refine (HAS.out _).mono ?_); rintro e w6 ⟨rfl, hb6⟩; have HX6 := Lib.hid (HX5.out.ext hb6); have HY6 := Lib.hid (HY5.out.ext hb6); have B6 := Lib.hid (Below.then B5.out hb6); have z6 : w.heap.size < w6.heap.size := Nat.lt_of_lt_of_le z5 hb6.size; have c6_0 := (hb6.cell (p := ⟨w.heap.size, 0, none⟩) z5).trans c5_0; have c6_1 := (hb6.cell (p := ⟨w.heap.size, 1, none⟩) z5).trans c5_1; have c6_2 := (hb6.cell (p := ⟨w.heap.size, 2, none⟩) z5).trans c5_2; have c6_3 := (hb6.cell (p := ⟨w.heap.size, 3, none⟩) z5).trans c5_3; have c6_4 := (hb6.cell (p := ⟨w.heap.size, 4, none⟩) z5).trans c5_4; have c6_5 := (hb6.cell (p := ⟨w.heap.size, 5, none⟩) z5).trans c5_5; clear hb6 c5_0 c5_1 c5_2 c5_3 c5_4 c5_5) | (go_at_call 39; (with_reducible refine (HID.out _ B4.out).mono ?_); rintro e w5 ⟨rfl, hb5⟩; have HX5 := Lib.hid (HX4.out.ext hb5); have HY5 := Lib.hid (HY4.out.ext hb5); have B5 := Lib.hid (Below.then B4.out hb5); have z5 : w.heap.size < w5.heap.size := Nat.lt_of_lt_of_le z4 hb5.size; have c5_0 := (hb5.cell (p := ⟨w.heap.size, 0, none⟩) z4).trans c4_0; have c5_1 := (hb5.cell (p := ⟨w.heap.size, 1, none⟩) z4).trans c4_1; have c5_2 := (hb5.cell (p := ⟨w.heap.size, 2, none⟩) z4).trans c4_2; have c5_3 := (hb5.cell (p := ⟨w.heap.size, 3, none⟩) z4).trans c4_3; have c5_4 := (hb5.cell (p := ⟨w.heap.size, 4, none⟩) z4).trans c4_4; have c5_5 := (hb5.cell (p := ⟨w.heap.size, 5, none⟩) z4).trans c4_5; clear hb5 c4_0 c4_1 c4_2 c4_3 c4_4 c4_5) | (go_at_call 38; (with_reducible refine (HRWK.out _ B3.out).mono ?_); rintro e w4 ⟨a4, n4, x4, rfl, h4, hb4⟩; have HY4 := Lib.hid (ownsI_rd h4); have HX4 := Lib.hid (HX3.out.ext hb4); clear h4; have B4 := Lib.hid (Below.then B3.out hb4); have z4 : w.heap.size < w4.heap.size := Nat.lt_of_lt_of_le z3 hb4.size; have c4_0 := (hb4.cell (p := ⟨w.heap.size, 0, none⟩) z3).trans c3_0; have c4_1 := (hb4.cell (p := ⟨w.heap.size, 1, none⟩) z3).trans c3_1; have c4_2 := (hb4.cell (p := ⟨w.heap.size, 2, none⟩) z3).trans c3_2; have c4_3 := (hb4.cell (p := ⟨w.heap.size, 3, none⟩) z3).trans c3_3; have c4_4 := (hb4.cell (p := ⟨w.heap.size, 4, none⟩) z3).trans c3_4; have c4_5 := (hb4.cell (p := ⟨w.heap.size, 5, none⟩) z3).trans c3_5; clear hb4 c3_0 c3_1 c3_2 c3_3 c3_4 c3_5) | (go_at_call 17; (with_reducible refine (HAS.out _).mono ?_); rintro e w3 ⟨rfl, hb3⟩; have HX3 := Lib.hid (HX2.out.ext hb3); have B3 := Lib.hid (Below.then B2.out hb3); have z3 : w.heap.size < w3.heap.size := Nat.lt_of_lt_of_le z2 hb3.size; have c3_0 := (hb3.cell (p := ⟨w.heap.size, 0, none⟩) z2).trans c2_0; have c3_1 := (hb3.cell (p := ⟨w.heap.size, 1, none⟩) z2).trans c2_1; have c3_2 := (hb3.cell (p := ⟨w.heap.size, 2, none⟩) z2).trans c2_2; have c3_3 := (hb3.cell (p := ⟨w.heap.size, 3, none⟩) z2).trans c2_3; have c3_4 := (hb3.cell (p := ⟨w.heap.size, 4, none⟩) z2).trans c2_4; have c3_5 := (hb3.cell (p := ⟨w.heap.size, 5, none⟩) z2).trans c2_5; clear hb3 c2_0 c2_1 c2_2 c2_3 c2_4 c2_5) | (go_at_call 37; (with_reducible refine (HWK.out _ B1.out).mono ?_); rintro e w2 ⟨a2, n2, x2, rfl, h2, hb2⟩; have HX2 := Lib.hid (ownsI_rd h2); clear h2; have B2 := Lib.hid (Below.then B1.out hb2); have z2 : w.heap.size < w2.heap.size := Nat.lt_of_lt_of_le z1 hb2.size; have c2_0 := (hb2.cell (p := ⟨w.heap.size, 0, none⟩) z1).trans c1_0; have c2_1 := (hb2.cell (p := ⟨w.heap.size, 1, none⟩) z1).trans c1_1; have c2_2 := (hb2.cell (p := ⟨w.heap.size, 2, none⟩) z1).trans c1_2; have c2_3 := (hb2.cell (p := ⟨w.heap.size, 3, none⟩) z1).trans c1_3; have c2_4 := (hb2.cell (p := ⟨w.heap.size, 4, none⟩) z1).trans c1_4; have c2_5 := (hb2.cell (p := ⟨w.heap.size, 5, none⟩) z1).trans c1_5; clear hb2 c1_0 c1_1 c1_2 c1_3 c1_4 c1_5) | (go_at_call 14; (with_reducible refine (sane_any _).mono ?_); rintro e w19 ⟨rfl, hb19⟩))
      have hn2 : xs.length = n2 := HX14.out.length
      have hs2 := HX14.out.small
      go_loopw [21, 22] (fun v21 v22 wr => ∃ k : Nat, k ≤ n2 ∧ v21 = .int .i64 (idl + sumI (xs.take k)) ∧ v22 = .int .i64 k ∧ Below w14.heap.size w14 wr) (fun _ v _ => n2 - (intOf v).toNat)
      case atStart => exact ⟨0, Nat.zero_le _, by simp [sumI], rfl, Below.refl _ _⟩
      case round =>
        obtain ⟨k, hk, rfl, rfl, hB⟩ := hrel
        have HB := Lib.hid hB
        by_cases hkn : k < n2
        · obtain ⟨x, b1, o1, rfl, hb1, hc1, hx⟩ := (HX14.out.ext hB).idx k hkn
          have h1 := HST.out k
          have h2 := HST.out (k + 1)
          have hsx := sumI_take hx
          have h3 := HALL.out
          have h4 := HHID.out
          have h5 := HGB.out tn
          obtain ⟨S, hSS⟩ : ∃ S, sumI (xs.take k) = S := ⟨_, rfl⟩
          obtain ⟨S2, hS2⟩ : ∃ S, sumI (xs.take (k + 1)) = S := ⟨_, rfl⟩
          rw [hSS] at h1 hsx
          rw [hS2] at h2 hsx
          have HS2 := Lib.hid hS2
          have wr1 : IntKind.i64.wrap (idl + S + x) = idl + S + x := IntWalk.i64_in _ (by omega)
          have he : idl + S + x = idl + S2 := by omega
          have HE := Lib.hid he
          rw [hSS]
          clear hB hx hsx h1 h2 h3 h4 h5 hSS hS2 he
          go_wp2
          go_roundw
          case rel => exact ⟨k + 1, hkn, by rw [HS2.out, ← HE.out], by go_num, HB.out⟩
          case measure => simp [intOf]; omega
        · have hS : sumI (xs.take k) = sumI xs := by rw [List.take_of_length_le (by omega)]
          rw [hS]
          obtain ⟨S, hSS⟩ : ∃ S, sumI xs = S := ⟨_, rfl⟩
          have HSS := Lib.hid hSS
          rw [hSS]
          clear hB hS hSS
          have B15 := Lib.hid (Below.then B14.out HB.out)
          have z15 := Nat.lt_of_lt_of_le z14 HB.out.size
          have c15_0 := (HB.out.cell (p := ⟨w.heap.size, 0, none⟩) z14).trans c14_0
          have c15_1 := (HB.out.cell (p := ⟨w.heap.size, 1, none⟩) z14).trans c14_1
          have c15_2 := (HB.out.cell (p := ⟨w.heap.size, 2, none⟩) z14).trans c14_2
          clear c14_0 c14_1 c14_2 c14_3 c14_4 c14_5
          go_wp2
          obtain ⟨wx, hwx⟩ : ∃ x : World, x = wr := ⟨_, rfl⟩
          rw [← hwx] at B15 z15 c15_0 c15_1 c15_2 ⊢
          clear hwx
          go_loopw [21, 23] (fun v21 v23 wr => ∃ k : Nat, k ≤ tn ∧ v21 = .int .i64 (idl + S + G k) ∧ v23 = .int .i64 k ∧ Below wx.heap.size wx wr) (fun _ v _ => tn - (intOf v).toNat)
          case atStart => exact ⟨0, Nat.zero_le _, by rw [HG0.out]; simp, rfl, Below.refl _ _⟩
          case round =>
            obtain ⟨k, hk, rfl, rfl, hB⟩ := hrel
            have HB2 := Lib.hid hB
            have d1 := (hB.cell (p := ⟨w.heap.size, 1, none⟩) z15).trans c15_1
            have d2 := (hB.cell (p := ⟨w.heap.size, 2, none⟩) z15).trans c15_2
            have zz := Nat.lt_of_lt_of_le z15 hB.size
            by_cases hkn : k < tn
            · have h1 := HGB.out k
              have h3 := HALL.out
              have h4 := HHID.out
              have h5 := HGB.out tn
              have hgs := HGC.out k
              rw [HSS.out] at h3
              obtain ⟨RM, hRM⟩ : ∃ x, (k : Int) % fr = x := ⟨_, rfl⟩
              have hRM2 : (k : Int).tmod fr = RM := by rw [Int.tmod_eq_emod_of_nonneg (by omega)]; exact hRM
              rw [hRM] at hgs
              obtain ⟨g, hgk⟩ : ∃ g, G k = g := ⟨_, rfl⟩
              rw [hgk] at h1 hgs ⊢
              have HGS := Lib.hid hgs
              have wr1 : IntKind.i64.wrap (idl + S + g + 1) = idl + S + g + 1 := IntWalk.i64_in _ (by omega)
              by_cases hg : RM < sl_
              · have hg' : decide (RM < sl_) = true := by simpa using hg
                have he : G (k + 1) = g + 1 := by rw [HGS.out, if_pos hg]
                have HE := Lib.hid he
                clear hB h1 h3 h4 h5 hgs hRM hgk he
                go_wp2_with (refine wp_region_later_lit (by kernel_rfl) (by kernel_rfl) ?_; (repeat (go_big_quiet_step (fail))); refine wpQuiet_nil ?_; intro w17 hb17)
                go_roundw
                case rel => exact ⟨k + 1, hkn, by rw [HE.out]; simp only [Int.add_assoc], by go_num, Below.then HB2.out hb17⟩
                case measure => simp [intOf]; omega
              · have hg' : decide (RM < sl_) = false := by simpa using hg
                have he : G (k + 1) = g := by rw [HGS.out, if_neg hg]; omega
                have HE := Lib.hid he
                clear hB h1 h3 h4 h5 hgs hRM hgk he
                go_wp2_with (refine wp_region_later_lit (by kernel_rfl) (by kernel_rfl) ?_; (repeat (go_big_quiet_step (fail))); refine wpQuiet_nil ?_; intro w17 hb17)
                go_roundw
                case rel => exact ⟨k + 1, hkn, by rw [HE.out], by go_num, Below.then HB2.out hb17⟩
                case measure => simp [intOf]; omega
            · obtain rfl : k = tn := by omega
              have he : idl + S + G k = (k : Int) := by have := HALL.out; rw [HSS.out] at this; exact this
              rw [he]
              clear hB he
              go_wp2_with (go_at_call 14; (with_reducible refine (sane_any _).mono ?_); rintro e w19 ⟨rfl, hb19⟩)
              go_ret
              exact ⟨rfl, Below.then (B15.out.trans (HB2.out.mono B15.out.size)) hb19⟩
  · obtain ⟨fr, hfr⟩ : ∃ x, R.fr = x := ⟨_, rfl⟩
    obtain ⟨sl_, hsl⟩ : ∃ x, R.sl = x := ⟨_, rfl⟩
    rw [hfr, hsl] at HH ⊢
    obtain ⟨tA, tN, tC, eA, eN, eC, bA, bN, bC, sA, sN, sC⟩ := H
    unfold runV at HH ⊢
    simp only [] at HH ⊢
    clear hR hS hB hfr hsl hC HWK HRWK HID HRID HPA HRPA HPR HRPR HAS
    go_enter Try.func12, Try.ntmps12
    go_wp2_with (first | (go_at_call 13; (with_reducible refine (HH.out _ (by (repeat' (first | (with_reducible exact Below.refl _ _) | (with_reducible assumption) | (with_reducible refine Below.alloc ?_ ?_ _) | (with_reducible refine Below.drew ?_) | (with_reducible refine Below.draws ?_ _) | (with_reducible refine Below.setCell ?_ ?_ _) | (refine Below.then ?_ (by with_reducible assumption)) | go_size)))).mono ?_); rintro e w1 ⟨rfl, hb1⟩; have B1 : Hid (Below w.heap.size w w1) := Lib.hid (Below.trans (by (repeat' (first | (with_reducible exact Below.refl _ _) | (with_reducible assumption) | (with_reducible refine Below.alloc ?_ ?_ _) | (with_reducible refine Below.drew ?_) | (with_reducible refine Below.draws ?_ _) | (with_reducible refine Below.setCell ?_ ?_ _) | (refine Below.then ?_ (by with_reducible assumption)) | go_size))) (hb1.mono (by simp))); have z1 : w.heap.size < w1.heap.size := Nat.lt_of_lt_of_le (by simp) hb1.size; have c1_0 := (hb1.cell (p := ⟨w.heap.size, 0, none⟩) (by simp)).trans (by simp [go_sem]; rfl); have c1_1 := (hb1.cell (p := ⟨w.heap.size, 1, none⟩) (by simp)).trans (by simp [go_sem]; rfl); have c1_2 := (hb1.cell (p := ⟨w.heap.size, 2, none⟩) (by simp)).trans (by simp [go_sem]; rfl); have c1_3 := (hb1.cell (p := ⟨w.heap.size, 3, none⟩) (by simp)).trans (by simp [go_sem]; rfl); have c1_4 := (hb1.cell (p := ⟨w.heap.size, 4, none⟩) (by simp)).trans (by simp [go_sem]; rfl); have c1_5 := (hb1.cell (p := ⟨w.heap.size, 5, none⟩) (by simp)).trans (by simp [go_sem]; rfl); clear hb1) | (go_at_call 14; (with_reducible refine (sane_any _).mono ?_); rintro e w19 ⟨rfl, hb19⟩))
    go_ret
    exact ⟨rfl, Below.then B1.out hb19⟩
end Go.Proofs.Ytlhnhmimhpcoaaa
