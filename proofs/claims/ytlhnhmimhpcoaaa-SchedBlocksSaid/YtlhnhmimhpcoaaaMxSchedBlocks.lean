/- What is counted of a run: work, idle ticks, pauses. No condition: plain lemmas. The contracts of Idle and Pause of the program. The conditions: the run reads as named. The contracts of Worked, of both sides, and of the reference's Idle and Pause. The conditions: the run reads as named. The contract of Preempted of the program. The conditions: the run reads as named. Blocking in a run, and when jobs are over in a run that nothing disturbs. No condition: plain lemmas. Who works: nobody ahead is there. No condition: plain lemmas. Work behind a job while it is there is at most its blocking. No condition: plain lemmas. Laws for a region of thirty operations that draws its order: what can be taken first, what alone may come up. No condition: plain lemmas. The contracts of demand of response (a closure) and of its reference. The conditions: the tasks read as named and are valid. The contract of Blocked of the program. The conditions: the run reads as named. The contracts of the reference's Idle, Worked and Pause. The conditions: the run reads as named. The contract of the reference's Blocked. The conditions: the run reads as named. The walk of SchedBlocks: it returns true. The conditions: the run reads as named. -/
import Derived.Test.YtlhnhmimhpcoaaaMg13
import Derived.Test.YtlhnhmimhpcoaaaMg12
import Derived.BigRegion
import Derived.Test.YtlhnhmimhpcoaaaMg9
import Derived.Test.YtlhnhmimhpcoaaaMg5
import Derived.Test.YtlhnhmimhpcoaaaMg1
import Derived.Deep.RegionHeld3
import Derived.Test.YtlhnhmimhpcoaaaMg6
namespace Go.Proofs.Ytlhnhmimhpcoaaa
open Go.RowKit
set_option linter.unusedSimpArgs false
set_option linter.unusedVariables false
/-- how many entries are so -/
def cntE (p : En → Bool) : List En → Int
  | [] => 0
  | e :: es => (if p e = true then 1 else 0) + cntE p es
theorem cntE_app (p : En → Bool) : ∀ (a b : List En), cntE p (a ++ b) = cntE p a + cntE p b
  | [], b => by simp [cntE]
  | e :: a, b => by rw [List.cons_append, cntE, cntE, cntE_app p a b]; omega
theorem cntE_none (p : En → Bool) : ∀ (a : List En), (∀ e ∈ a, p e = false) → cntE p a = 0
  | [], _ => rfl
  | e :: a, h => by rw [cntE, h e (by simp), cntE_none p a (fun x hx => h x (by simp [hx]))]; rfl
theorem cntE_bd (p : En → Bool) : ∀ (a : List En), 0 ≤ cntE p a ∧ cntE p a ≤ a.length
  | [] => by simp [cntE]
  | e :: a => by
    have := cntE_bd p a
    rw [cntE, List.length_cons]
    split <;> omega
theorem cntE_or {p q r : En → Bool} : ∀ (a : List En), (∀ e ∈ a, (r e = true ↔ p e = true ∨ q e = true) ∧ ¬ (p e = true ∧ q e = true)) → cntE r a = cntE p a + cntE q a
  | [], _ => rfl
  | e :: a, h => by
    have h1 := h e (by simp)
    rw [cntE, cntE, cntE, cntE_or a (fun x hx => h x (by simp [hx]))]
    by_cases hp : p e = true
    · have hq : ¬ q e = true := fun q' => h1.2 ⟨hp, q'⟩
      rw [if_pos hp, if_neg hq, if_pos (h1.1.2 (.inl hp))]; omega
    · by_cases hq : q e = true
      · rw [if_neg hp, if_pos hq, if_pos (h1.1.2 (.inr hq))]; omega
      · rw [if_neg hp, if_neg hq, if_neg (fun r' => (h1.1.1 r').elim hp hq)]; omega
def isW (w : Int) (e : En) : Bool := decide (e.w = w)
def isWk (i : Nat) (e : En) : Bool := decide (e.w = 4) && decide (e.k = (i : Int))
def isBusy (e : En) : Bool := decide (e.w = 3) || decide (e.w = 4)
/-- ticks of work of each task -/
def wkRow (n : Nat) (o : List En) : List Int := (List.range n).map (fun (i : Nat) => cntE (isWk i) o)
theorem wkRow_len (n : Nat) (o : List En) : (wkRow n o).length = n := by simp [wkRow]
theorem wkRow_get {n i : Nat} {o : List En} (h : i < n) : (wkRow n o)[i]? = some (cntE (isWk i) o) := by simp [wkRow, h]
theorem wkRow_nil (n : Nat) : wkRow n [] = List.replicate n 0 := by
  apply List.ext_getElem?
  intro k
  by_cases h : k < n
  · rw [wkRow_get h, List.getElem?_replicate, if_pos h]; rfl
  · rw [List.getElem?_eq_none (by rw [wkRow_len]; omega), List.getElem?_eq_none (by simp; omega)]
theorem wkRow_other {n : Nat} {o : List En} {e : En} (h : e.w ≠ 4) : wkRow n (o ++ [e]) = wkRow n o := by
  unfold wkRow
  refine List.map_congr_left (fun k _ => ?_)
  rw [cntE_app, cntE_none _ [e] (fun x hx => by simp at hx; subst hx; unfold isWk; rw [decide_eq_false h]; rfl)]; omega
theorem wkRow_work {n k : Nat} {o : List En} {e : En} (h : e.w = 4) (hk : e.k = (k : Int)) (hn : k < n) : wkRow n (o ++ [e]) = (wkRow n o).set k (cntE (isWk k) o + 1) := by
  apply List.ext_getElem?
  intro j
  by_cases hj : j < n
  · rw [wkRow_get hj, List.getElem?_set, cntE_app]
    by_cases e1 : k = j
    · subst e1
      rw [if_pos rfl, if_pos (by rw [wkRow_len]; exact hj)]
      have : cntE (isWk k) [e] = 1 := by unfold cntE isWk; rw [h, hk]; simp [cntE]
      rw [this]
    · rw [if_neg e1, wkRow_get hj]
      have : cntE (isWk j) [e] = 0 := cntE_none _ _ (fun x hx => by
        simp at hx; subst hx
        unfold isWk
        rw [hk]
        have : ¬ ((k : Int) = (j : Int)) := by omega
        simp [this])
      rw [this]; simp
  · rw [List.getElem?_eq_none (by rw [wkRow_len]; omega), List.getElem?_eq_none (by rw [List.length_set, wkRow_len]; omega)]
/-- sums of rows -/
def sumI : List Int → Int
  | [] => 0
  | x :: xs => x + sumI xs
theorem sumI_app : ∀ (a b : List Int), sumI (a ++ b) = sumI a + sumI b
  | [], b => by simp [sumI]
  | x :: a, b => by rw [List.cons_append, sumI, sumI, sumI_app a b]; omega
theorem sumI_set : ∀ (xs : List Int) (k : Nat) (x : Int), xs[k]? = some x → sumI (xs.set k (x + 1)) = sumI xs + 1
  | [], k, x, h => by simp at h
  | y :: ys, 0, x, h => by simp at h; subst h; simp [sumI]; omega
  | y :: ys, k + 1, x, h => by
    rw [List.set_cons_succ, sumI, sumI, sumI_set ys k x (by simpa using h)]; omega
theorem sumI_zeros : ∀ n : Nat, sumI (List.replicate n 0) = 0
  | 0 => rfl
  | n + 1 => by rw [List.replicate_succ, sumI, sumI_zeros n]; rfl
theorem wkRow_sum {n : Nat} : ∀ (b a : List En), (∀ e ∈ b, e.w = 4 → ∃ i : Nat, e.k = (i : Int) ∧ i < n) → sumI (wkRow n (a ++ b)) = sumI (wkRow n a) + cntE (isW 4) b
  | [], a, _ => by simp [cntE]
  | e :: b, a, h => by
    have ih := wkRow_sum b (a ++ [e]) (fun x hx => h x (by simp [hx]))
    rw [List.append_assoc, List.singleton_append] at ih
    rw [ih, cntE]
    by_cases hw : e.w = 4
    · obtain ⟨i, hi, hin⟩ := h e (by simp) hw
      rw [wkRow_work hw hi hin, sumI_set _ _ _ (wkRow_get hin), if_pos (by unfold isW; simp [hw])]; omega
    · rw [wkRow_other hw, if_neg (by unfold isW; simp [hw])]; omega
/-- the collector's ticks -/
def gcN (R : Rn) : Nat → Int
  | 0 => 0
  | t + 1 => gcN R t + (if (t : Int) % R.fr < R.sl then 1 else 0)
theorem relA_newW (t : Int) (ls : List (List P2)) (i : Nat) (s : Ms) : ∃ l, (relA t i ls s).o = s.o ++ l ∧ ∀ e ∈ l, e.w ≠ 3 ∧ e.w ≠ 4 := by
  obtain ⟨l, h1, h2⟩ := relA_newE t ls i s
  exact ⟨l, h1, fun e he => by rw [(h2 e he).2]; decide⟩
theorem sigA_newW (t : Int) : ∀ (gs : List P2) (s : Ms), ∃ l, (sigA t gs s).o = s.o ++ l ∧ ∀ e ∈ l, e.w ≠ 3 ∧ e.w ≠ 4
  | [], s => ⟨[], by simp [sigA], fun e he => by simp at he⟩
  | g :: gs, s => by
    obtain ⟨l, h1, h2⟩ := sigA_newW t gs (sigS t g s)
    rw [sigA, h1]
    unfold sigS
    split
    · refine ⟨⟨t, g.2.toNat, 2, 0, 0⟩ :: l, by simp [sig1], fun e he => ?_⟩
      rcases List.mem_cons.1 he with rfl | he
      · exact ⟨by simp, by simp⟩
      · exact h2 e he
    · exact ⟨l, rfl, h2⟩
theorem endA_newW (L : List Ta) (t : Int) : ∀ (f i : Nat) (s : Ms), ∃ l, (endA L t f i s).o = s.o ++ l ∧ ∀ e ∈ l, e.w ≠ 3 ∧ e.w ≠ 4
  | 0, i, s => ⟨[], by simp [endA], fun e he => by simp at he⟩
  | f + 1, i, s => by
    obtain ⟨l, h1, h2⟩ := endA_newW L t f (i + 1) (endS L t i s)
    rw [endA, h1]
    unfold endS
    split
    · refine ⟨⟨t, i, 5, s.hd i, 1⟩ :: l, by simp [fin1], fun e he => ?_⟩
      rcases List.mem_cons.1 he with rfl | he
      · exact ⟨by simp, by simp⟩
      · exact h2 e he
    · exact ⟨l, rfl, h2⟩
theorem arrA_newW (R : Rn) (t : Int) (s : Ms) : ∃ l, (arrA R t s).o = s.o ++ l ∧ ∀ e ∈ l, e.w ≠ 3 ∧ e.w ≠ 4 := by
  obtain ⟨l1, h1, g1⟩ := relA_newW t R.ev 0 s
  obtain ⟨l2, h2, g2⟩ := sigA_newW t R.sg (relA t 0 R.ev s)
  obtain ⟨l3, h3, g3⟩ := endA_newW R.L t R.L.length 0 (sigA t R.sg (relA t 0 R.ev s))
  refine ⟨l1 ++ (l2 ++ l3), by unfold arrA; rw [h3, h2, h1]; simp, fun e he => ?_⟩
  rcases List.mem_append.1 he with he | he
  · exact g1 e he
  · rcases List.mem_append.1 he with he | he
    · exact g2 e he
    · exact g3 e he
/-- a tick's entries: those of the arrivals, then the collector's alone, or nothing, or work and what follows -/
theorem tick_new (R : Rn) (t : Int) (s : Ms) : ∃ l, (tckA R t s).o = s.o ++ l ∧
    ((t % R.fr < R.sl ∧ ∃ l1, l = l1 ++ [⟨t, -1, 3, 0, 0⟩] ∧ ∀ e ∈ l1, e.w ≠ 3 ∧ e.w ≠ 4) ∨
     (¬ t % R.fr < R.sl ∧ (∀ e ∈ l, e.w ≠ 3) ∧ ((∀ e ∈ l, e.w ≠ 4) ∨ ∃ l1 e4 l2, l = l1 ++ (e4 :: l2) ∧ e4.w = 4 ∧ e4.m = t ∧ (∀ e ∈ l1, e.w ≠ 4) ∧ (∀ e ∈ l2, e.w ≠ 4)))) := by
  obtain ⟨l, h1, h2⟩ := arrA_newW R t s
  unfold tckA tckB
  by_cases hg : t % R.fr < R.sl
  · rw [if_pos hg]
    exact ⟨l ++ [⟨t, -1, 3, 0, 0⟩], by unfold Ms.wr; simp only []; rw [h1, List.append_assoc], .inl ⟨hg, l, rfl, h2⟩⟩
  · rw [if_neg hg]
    by_cases hc : 0 ≤ chM R.L (arrA R t s)
    · rw [if_pos hc, wkA_cases]
      obtain ⟨y, hy⟩ : ∃ y, (chM R.L (arrA R t s)).toNat = y := ⟨_, rfl⟩
      rw [hy]
      have key : ∀ l2 : List En, (∀ e ∈ l2, e.w ≠ 3 ∧ e.w ≠ 4) → (∀ e ∈ l ++ (⟨t, y, 4, ((arrA R t s).ja y).p, (arrA R t s).hd y⟩ :: l2), e.w ≠ 3) := fun l2 g e he => by
        rcases List.mem_append.1 he with he | he
        · exact (h2 e he).1
        · rcases List.mem_cons.1 he with rfl | he
          · simp
          · exact (g e he).1
      split
      · have g : ∀ e ∈ [(⟨t + 1, y, 5, (wk1 R t y (arrA R t s)).hd y, 0⟩ : En)], e.w ≠ 3 ∧ e.w ≠ 4 := fun e he => by simp at he; subst he; simp
        exact ⟨l ++ (⟨t, y, 4, ((arrA R t s).ja y).p, (arrA R t s).hd y⟩ :: [⟨t + 1, y, 5, (wk1 R t y (arrA R t s)).hd y, 0⟩]), by unfold fin1; unfold wk1; simp only []; rw [h1]; simp, .inr ⟨hg, key _ g, .inr ⟨l, _, _, rfl, rfl, rfl, fun e he => (h2 e he).2, fun e he => (g e he).2⟩⟩⟩
      · split
        · have g : ∀ e ∈ [(⟨t + 1, y, 6, (arrA R t s).hd y, 0⟩ : En)], e.w ≠ 3 ∧ e.w ≠ 4 := fun e he => by simp at he; subst he; simp
          exact ⟨l ++ (⟨t, y, 4, ((arrA R t s).ja y).p, (arrA R t s).hd y⟩ :: [⟨t + 1, y, 6, (arrA R t s).hd y, 0⟩]), by unfold wk2; simp only []; rw [h1]; simp, .inr ⟨hg, key _ g, .inr ⟨l, _, _, rfl, rfl, rfl, fun e he => (h2 e he).2, fun e he => (g e he).2⟩⟩⟩
        · exact ⟨l ++ (⟨t, y, 4, ((arrA R t s).ja y).p, (arrA R t s).hd y⟩ :: []), by unfold wk1; simp only []; rw [h1]; simp, .inr ⟨hg, key _ (fun e he => by simp at he), .inr ⟨l, _, _, rfl, rfl, rfl, fun e he => (h2 e he).2, fun e he => by simp at he⟩⟩⟩
    · rw [if_neg hc]
      exact ⟨l, h1, .inr ⟨hg, fun e he => (h2 e he).1, .inl (fun e he => (h2 e he).2)⟩⟩
theorem cnt3 (R : Rn) : ∀ k : Nat, cntE (isW 3) (plM R k).o = gcN R k
  | 0 => rfl
  | k + 1 => by
    obtain ⟨l, h1, h2⟩ := tick_new R k (plM R k)
    rw [plM, h1, cntE_app, cnt3 R k, gcN]
    rcases h2 with ⟨hg, l1, rfl, h3⟩ | ⟨hg, h3, _⟩
    · rw [if_pos hg, cntE_app, cntE_none _ l1 (fun e he => by unfold isW; exact decide_eq_false (h3 e he).1)]
      rfl
    · rw [if_neg hg, cntE_none _ l (fun e he => by unfold isW; exact decide_eq_false (h3 e he))]
/-- idle ticks -/
def idleN (R : Rn) (t : Nat) : Int := t - cntE isBusy (plM R t).o
theorem all_ticks {R : Rn} (hr : RnOk R) (t : Nat) : idleN R t + sumI (wkRow R.L.length (plM R t).o) + gcN R t = t := by
  obtain ⟨_, _, h⟩ := plM_ei hr t
  have h1 := wkRow_sum (n := R.L.length) (plM R t).o [] (fun e he hw => by obtain ⟨i, _, _, hi, _, _, hl, _⟩ := h.ok4 e he hw; exact ⟨i, hi, hl⟩)
  rw [List.nil_append, wkRow_nil, sumI_zeros] at h1
  have h2 := cntE_or (p := isW 3) (q := isW 4) (r := isBusy) (plM R t).o (fun e _ => by unfold isW isBusy; simp; omega)
  unfold idleN
  rw [h1, h2, cnt3]; omega
/-- the longest pause, as the program takes it from the entries -/
abbrev PZ := Int × Int × Int
def pzS (s : PZ) (e : En) : PZ := if e.w = 3 then (max s.1 ((if e.m = s.2.2 + 1 then s.2.1 else 0) + 1), (if e.m = s.2.2 + 1 then s.2.1 else 0) + 1, e.m) else s
def pzF (o : List En) : PZ := o.foldl pzS (0, 0, -1)
theorem pz_skip : ∀ (l : List En) (s : PZ), (∀ e ∈ l, e.w ≠ 3) → l.foldl pzS s = s
  | [], _, _ => rfl
  | e :: l, s, h => by
    rw [List.foldl_cons]
    have : pzS s e = s := by unfold pzS; rw [if_neg (h e (by simp))]
    rw [this]
    exact pz_skip l s (fun x hx => h x (by simp [hx]))
/-- as the reference counts -/
def pzR (R : Rn) : Nat → Int × Int
  | 0 => (0, 0)
  | t + 1 => if (t : Int) % R.fr < R.sl then (max (pzR R t).1 ((pzR R t).2 + 1), (pzR R t).2 + 1) else (max (pzR R t).1 0, 0)
theorem pzR_pos (R : Rn) : ∀ t, 0 ≤ (pzR R t).1 ∧ 0 ≤ (pzR R t).2
  | 0 => by simp [pzR]
  | t + 1 => by
    have := pzR_pos R t
    rw [pzR]
    split <;> simp only [] <;> omega
theorem pz_same (R : Rn) : ∀ t : Nat, (pzF (plM R t).o).1 = (pzR R t).1 ∧ (pzF (plM R t).o).2.2 < t ∧ (if (pzF (plM R t).o).2.2 + 1 = t then (pzF (plM R t).o).2.1 = (pzR R t).2 else (pzR R t).2 = 0)
  | 0 => by
    have : pzF (plM R 0).o = (0, 0, -1) := rfl
    rw [this]
    simp [pzR]
  | t + 1 => by
    obtain ⟨h1, h2, h3⟩ := pz_same R t
    obtain ⟨l, e1, e2⟩ := tick_new R t (plM R t)
    have hz := pzR_pos R t
    have e0 : pzF (plM R (t + 1)).o = l.foldl pzS (pzF (plM R t).o) := by rw [plM, e1]; unfold pzF; rw [List.foldl_append]
    rw [e0, pzR]
    obtain ⟨s, hs⟩ : ∃ s, pzF (plM R t).o = s := ⟨_, rfl⟩
    rw [hs] at h1 h2 h3 ⊢
    obtain ⟨m, n, la⟩ := s
    simp only [] at h1 h2 h3
    rcases e2 with ⟨hg, l1, rfl, g⟩ | ⟨hg, g, _⟩
    · rw [if_pos hg, List.foldl_append, pz_skip l1 _ (fun e he => (g e he).1)]
      have : List.foldl pzS (m, n, la) [⟨t, -1, 3, 0, 0⟩] = (max m ((if (t : Int) = la + 1 then n else 0) + 1), (if (t : Int) = la + 1 then n else 0) + 1, (t : Int)) := rfl
      rw [this]
      have en : (if (t : Int) = la + 1 then n else 0) = (pzR R t).2 := by
        by_cases q : la + 1 = (t : Int)
        · rw [if_pos q] at h3; rw [if_pos q.symm, h3]
        · rw [if_neg q] at h3; rw [if_neg (fun x => q x.symm), h3]
      rw [en]
      refine ⟨by simp only []; rw [h1], by simp only []; omega, ?_⟩
      simp only []
      rw [if_pos (by omega)]
      trivial
    · rw [if_neg hg, pz_skip l _ g]
      refine ⟨by simp only []; omega, by simp only []; omega, ?_⟩
      simp only []
      rw [if_neg (by omega)]
      trivial
theorem pzR_le {R : Rn} (hf : 1 ≤ R.fr) (hs : 0 ≤ R.sl ∧ R.sl < R.fr) : ∀ t : Nat, (pzR R t).1 ≤ R.sl ∧ (pzR R t).2 ≤ (t : Int) % R.fr
  | 0 => by simp [pzR]; omega
  | t + 1 => by
    obtain ⟨h1, h2⟩ := pzR_le hf hs t
    have hz := pzR_pos R t
    have m0 := Int.emod_nonneg (t : Int) (show R.fr ≠ 0 by omega)
    have m1 := Int.emod_nonneg ((t + 1 : Nat) : Int) (show R.fr ≠ 0 by omega)
    rw [pzR]
    split
    · rename_i hg
      have e : ((t + 1 : Nat) : Int) % R.fr = (t : Int) % R.fr + 1 := by
        rw [show ((t + 1 : Nat) : Int) = (t : Int) + 1 by omega, Int.add_emod, Int.emod_eq_of_lt (a := 1) (by omega) (by omega), Int.emod_eq_of_lt (by omega) (by omega)]
      rw [e]
      simp only []; omega
    · simp only []; omega
/-- how often a job was preempted: so far, the last entry of work -/
abbrev PS := Int × En
def preS (X : Nat → List Int) (s : PS) (e : En) : PS :=
  if e.w = 4 then (if 0 ≤ s.2.k ∧ (s.2.k ≠ e.k ∨ s.2.b ≠ e.b) ∧ ((((X s.2.k.toNat)[s.2.b.toNat]?).getD 0) < 0 ∨ e.m < (((X s.2.k.toNat)[s.2.b.toNat]?).getD 0)) then s.1 + 1 else s.1, e) else s
def preF (X : Nat → List Int) (o : List En) : PS := o.foldl (preS X) (0, ⟨0, -1, 0, 0, 0⟩)
theorem preS_bd (X : Nat → List Int) : ∀ (o : List En) (s : PS), s.1 ≤ (o.foldl (preS X) s).1 ∧ (o.foldl (preS X) s).1 ≤ s.1 + o.length
  | [], s => by simp
  | e :: o, s => by
    have h := preS_bd X o (preS X s e)
    have : s.1 ≤ (preS X s e).1 ∧ (preS X s e).1 ≤ s.1 + 1 := by
      unfold preS
      split
      · simp only []
        split <;> omega
      · omega
    rw [List.foldl_cons, List.length_cons]; omega
/-- work behind one while its job is there: b tells who is behind -/
def blkE (b : Int → Bool) (f e : Int) (x : En) : Bool := decide (x.w = 4) && (decide (f ≤ x.m) && ((decide (e < 0) || decide (x.m < e)) && b x.k))
end Go.Proofs.Ytlhnhmimhpcoaaa
namespace Go.Proofs.Ytlhnhmimhpcoaaa
open Go.RowKit
set_option linter.unusedSimpArgs false
set_option linter.unusedVariables false
def idleR (R : Rn) (t : Int) : Int × Int := if (runB R && inB t 0 2000) = true then (idleN R t.toNat, 0) else (0, 1)
def pauseR (R : Rn) (t : Int) : Int × Int := if (runB R && inB t 0 2000) = true then ((pzR R t.toNat).1, 0) else (0, 1)
theorem cnt_take {p : En → Bool} {o : List En} {k : Nat} {x : En} (h : o[k]? = some x) : cntE p (o.take (k + 1)) = cntE p (o.take k) + (if p x = true then 1 else 0) := by
  rw [take_one h, cntE_app]; simp [cntE]
theorem cnt_take_bd (p : En → Bool) (o : List En) (k : Nat) : 0 ≤ cntE p (o.take k) ∧ cntE p (o.take k) ≤ o.length := by
  have := cntE_bd p (o.take k)
  rw [List.length_take] at this; omega
set_option maxRecDepth 100000 in
set_option maxHeartbeats 4000000 in
theorem Idle_any (H : RunH) (R : Rn) (t : Int) (w : World) (hR : ReadRun w H R) : Calls Try.prog 39 #[runV H R.fr R.sl, .int .i64 t] w fun e w' => e = rII (idleR R t).1 (idleR R t).2 ∧ Below w.heap.size w w' := by
  obtain ⟨B, hB⟩ : ∃ B, (runB R && inB t 0 2000) = B := ⟨_, rfl⟩
  unfold idleR
  rw [hB]
  have HI := Lib.hid (fun w1 (hb : Below w.heap.size w w1) => is_any H R t w1 (hR.ext hb) hB)
  cases B
  · obtain ⟨fr, hfr⟩ : ∃ x, R.fr = x := ⟨_, rfl⟩
    obtain ⟨sl_, hsl⟩ : ∃ x, R.sl = x := ⟨_, rfl⟩
    rw [hfr, hsl] at HI ⊢
    obtain ⟨tA, tN, tC, eA, eN, eC, bA, bN, bC, sA, sN, sC⟩ := H
    unfold runV at HI ⊢
    simp only [] at HI ⊢
    clear hR hB hfr hsl
    go_enter Try.func39, Try.ntmps39
    go_wp2_with (go_at_call 45; (with_reducible refine (HI.out _ (by (repeat' (first | (with_reducible exact Below.refl _ _) | (with_reducible assumption) | (with_reducible refine Below.alloc ?_ ?_ _) | (with_reducible refine Below.drew ?_) | (with_reducible refine Below.draws ?_ _) | (with_reducible refine Below.setCell ?_ ?_ _) | (refine Below.then ?_ (by with_reducible assumption)) | go_size)))).mono ?_); rintro e w1 ⟨rfl, hb1⟩; have B1 : Hid (Below w.heap.size w w1) := Lib.hid (Below.trans (by (repeat' (first | (with_reducible exact Below.refl _ _) | (with_reducible assumption) | (with_reducible refine Below.alloc ?_ ?_ _) | (with_reducible refine Below.drew ?_) | (with_reducible refine Below.draws ?_ _) | (with_reducible refine Below.setCell ?_ ?_ _) | (refine Below.then ?_ (by with_reducible assumption)) | go_size))) (hb1.mono (by simp))); have z1 : w.heap.size < w1.heap.size := Nat.lt_of_lt_of_le (by simp) hb1.size; have c1_0 := (hb1.cell (p := ⟨w.heap.size, 0, none⟩) (by simp)).trans (by simp [go_sem]; rfl); have c1_1 := (hb1.cell (p := ⟨w.heap.size, 1, none⟩) (by simp)).trans (by simp [go_sem]; rfl); have c1_2 := (hb1.cell (p := ⟨w.heap.size, 2, none⟩) (by simp)).trans (by simp [go_sem]; rfl); have c1_3 := (hb1.cell (p := ⟨w.heap.size, 3, none⟩) (by simp)).trans (by simp [go_sem]; rfl); have c1_4 := (hb1.cell (p := ⟨w.heap.size, 4, none⟩) (by simp)).trans (by simp [go_sem]; rfl); have c1_5 := (hb1.cell (p := ⟨w.heap.size, 5, none⟩) (by simp)).trans (by simp [go_sem]; rfl); clear hb1)
    go_ret2
    exact ⟨rfl, B1.out⟩
  · rw [Bool.and_eq_true, inB_iff] at hB
    obtain ⟨tn, rfl⟩ := Int.eq_ofNat_of_zero_le hB.2.1
    rw [if_pos rfl, Int.toNat_natCast]
    unfold idleN
    have hol := plM_olen (run_ok hB.1).1 (show tn ≤ 2000 by omega)
    have htn : tn ≤ 2000 := by omega
    have HP := Lib.hid (fun w1 (hb : Below w.heap.size w w1) => play_any H R tn w1 (hR.ext hb).rd (run_ok hB.1).1 (by omega))
    obtain ⟨o, ho⟩ : ∃ x, (plM R tn).o = x := ⟨_, rfl⟩
    rw [ho] at HP hol ⊢
    obtain ⟨Z, hZ⟩ : ∃ Z, (tn : Int) - cntE isBusy o = Z := ⟨_, rfl⟩
    rw [hZ]
    have HZ := Lib.hid hZ
    obtain ⟨fr, hfr⟩ : ∃ x, R.fr = x := ⟨_, rfl⟩
    obtain ⟨sl_, hsl⟩ : ∃ x, R.sl = x := ⟨_, rfl⟩
    rw [hfr, hsl] at HI HP ⊢
    obtain ⟨tA, tN, tC, eA, eN, eC, bA, bN, bC, sA, sN, sC⟩ := H
    unfold runV at HI ⊢
    simp only [] at HI HP ⊢
    clear hR hB hfr hsl ho hZ
    go_enter Try.func39, Try.ntmps39
    go_wp2_with (first | (go_at_call 45; (with_reducible refine (HI.out _ (by (repeat' (first | (with_reducible exact Below.refl _ _) | (with_reducible assumption) | (with_reducible refine Below.alloc ?_ ?_ _) | (with_reducible refine Below.drew ?_) | (with_reducible refine Below.draws ?_ _) | (with_reducible refine Below.setCell ?_ ?_ _) | (refine Below.then ?_ (by with_reducible assumption)) | go_size)))).mono ?_); rintro e w1 ⟨rfl, hb1⟩; have B1 : Hid (Below w.heap.size w w1) := Lib.hid (Below.trans (by (repeat' (first | (with_reducible exact Below.refl _ _) | (with_reducible assumption) | (with_reducible refine Below.alloc ?_ ?_ _) | (with_reducible refine Below.drew ?_) | (with_reducible refine Below.draws ?_ _) | (with_reducible refine Below.setCell ?_ ?_ _) | (refine Below.then ?_ (by with_reducible assumption)) | go_size))) (hb1.mono (by simp))); have z1 : w.heap.size < w1.heap.size := Nat.lt_of_lt_of_le (by simp) hb1.size; have c1_0 := (hb1.cell (p := ⟨w.heap.size, 0, none⟩) (by simp)).trans (by simp [go_sem]; rfl); have c1_1 := (hb1.cell (p := ⟨w.heap.size, 1, none⟩) (by simp)).trans (by simp [go_sem]; rfl); have c1_2 := (hb1.cell (p := ⟨w.heap.size, 2, none⟩) (by simp)).trans (by simp [go_sem]; rfl); have c1_3 := (hb1.cell (p := ⟨w.heap.size, 3, none⟩) (by simp)).trans (by simp [go_sem]; rfl); have c1_4 := (hb1.cell (p := ⟨w.heap.size, 4, none⟩) (by simp)).trans (by simp [go_sem]; rfl); have c1_5 := (hb1.cell (p := ⟨w.heap.size, 5, none⟩) (by simp)).trans (by simp [go_sem]; rfl); clear hb1) | (go_at_call 46; (with_reducible refine (HP.out _ B1.out).mono ?_); rintro e w2 ⟨a2, n2, c2', rfl, h2, hb2⟩; have HO2 := Lib.hid (Rd.of_owns encE_len (by decide) h2); clear h2; have B2 := Lib.hid (Below.then B1.out hb2); have z2 : w.heap.size < w2.heap.size := Nat.lt_of_lt_of_le z1 hb2.size; have c2_0 := (hb2.cell (p := ⟨w.heap.size, 0, none⟩) z1).trans c1_0; have c2_1 := (hb2.cell (p := ⟨w.heap.size, 1, none⟩) z1).trans c1_1; have c2_2 := (hb2.cell (p := ⟨w.heap.size, 2, none⟩) z1).trans c1_2; have c2_3 := (hb2.cell (p := ⟨w.heap.size, 3, none⟩) z1).trans c1_3; have c2_4 := (hb2.cell (p := ⟨w.heap.size, 4, none⟩) z1).trans c1_4; have c2_5 := (hb2.cell (p := ⟨w.heap.size, 5, none⟩) z1).trans c1_5; clear hb2 c1_0 c1_1 c1_2 c1_3 c1_4 c1_5))
    have hn2 : n2 ≤ 504000 := by rw [← HO2.out.length]; exact hol
    go_loopw [1, 16] (fun v1 v16 wr => ∃ k : Nat, k ≤ n2 ∧ v1 = .int .i64 ((tn : Int) - cntE isBusy (o.take k)) ∧ v16 = .int .i64 k ∧ Below w2.heap.size w2 wr) (fun _ v _ => n2 - (intOf v).toNat)
    case atStart => exact ⟨0, Nat.zero_le _, by simp [cntE], rfl, Below.refl _ _⟩
    case round =>
      obtain ⟨k, hk, rfl, rfl, hB⟩ := hrel
      have HB := Lib.hid hB
      have hbd := cnt_take_bd isBusy o k
      by_cases hkn : k < n2
      · obtain ⟨x, b1, o1, rfl, hb1, hx, q0, q1, q2, q3, q4⟩ := (HO2.out.ext hB).en_at k hkn
        have htk := cnt_take (p := isBusy) hx
        obtain ⟨C, hC⟩ : ∃ C, cntE isBusy (o.take k) = C := ⟨_, rfl⟩
        rw [hC] at htk hbd ⊢
        have wr1 : IntKind.i64.wrap ((tn : Int) - C - 1) = (tn : Int) - C - 1 := IntWalk.i64_in _ (by omega)
        obtain ⟨m1, k1, w1', a1, c1⟩ := x
        simp only [] at q0 q1 q2 q3 q4
        by_cases h4 : w1' = 4
        · subst h4
          have e : (tn : Int) - C - 1 = (tn : Int) - cntE isBusy (o.take (k + 1)) := by rw [htk, if_pos (by simp [isBusy])]; omega
          have HE := Lib.hid e
          clear hB hx htk hC hbd e
          go_wp2
          go_roundw
          case rel => exact ⟨k + 1, hkn, by first | rfl | (rw [← HE.out]), by go_num, Below.then HB.out (by (repeat' (first | (with_reducible exact Below.refl _ _) | (with_reducible assumption) | (with_reducible refine Below.alloc ?_ ?_ _) | (with_reducible refine Below.drew ?_) | (with_reducible refine Below.draws ?_ _) | (with_reducible refine Below.setCell ?_ ?_ _) | (refine Below.then ?_ (by with_reducible assumption)) | go_size)))⟩
          case measure => simp [intOf]; omega
        · have h4' : (w1' == 4) = false := by simpa using h4
          by_cases h3 : w1' = 3
          · subst h3
            have e : (tn : Int) - C - 1 = (tn : Int) - cntE isBusy (o.take (k + 1)) := by rw [htk, if_pos (by simp [isBusy])]; omega
            have HE := Lib.hid e
            clear hB hx htk hC hbd e
            go_wp2
            go_roundw
            case rel => exact ⟨k + 1, hkn, by first | rfl | (rw [← HE.out]), by go_num, Below.then HB.out (by (repeat' (first | (with_reducible exact Below.refl _ _) | (with_reducible assumption) | (with_reducible refine Below.alloc ?_ ?_ _) | (with_reducible refine Below.drew ?_) | (with_reducible refine Below.draws ?_ _) | (with_reducible refine Below.setCell ?_ ?_ _) | (refine Below.then ?_ (by with_reducible assumption)) | go_size)))⟩
            case measure => simp [intOf]; omega
          · have h3' : (w1' == 3) = false := by simpa using h3
            have e : cntE isBusy (o.take (k + 1)) = C := by rw [htk, if_neg (by simp [isBusy, h3, h4])]; omega
            have HE := Lib.hid e
            clear hB hx htk hC hbd e
            go_wp2
            go_roundw
            case rel => exact ⟨k + 1, hkn, by rw [HE.out], by go_num, Below.then HB.out (by (repeat' (first | (with_reducible exact Below.refl _ _) | (with_reducible assumption) | (with_reducible refine Below.alloc ?_ ?_ _) | (with_reducible refine Below.drew ?_) | (with_reducible refine Below.draws ?_ _) | (with_reducible refine Below.setCell ?_ ?_ _) | (refine Below.then ?_ (by with_reducible assumption)) | go_size)))⟩
            case measure => simp [intOf]; omega
      · have e : (tn : Int) - cntE isBusy (o.take k) = Z := by rw [List.take_of_length_le (by rw [HO2.out.length]; omega), HZ.out]
        rw [e]
        clear hB hbd e
        go_wp2
        go_ret2
        exact ⟨rfl, B2.out.trans (HB.out.mono B2.out.size)⟩
theorem pzF_take {o : List En} {k : Nat} {x : En} (h : o[k]? = some x) : pzF (o.take (k + 1)) = pzS (pzF (o.take k)) x := by
  rw [take_one h]; unfold pzF; rw [List.foldl_append]; rfl
/-- bounds along the entries -/
theorem pz_bd {M : Int} : ∀ (l : List En) (s : PZ), (∀ e ∈ l, 0 ≤ e.m ∧ e.m ≤ M) → (0 ≤ s.1 ∧ 0 ≤ s.2.1 ∧ -1 ≤ s.2.2 ∧ s.2.2 ≤ M) → 0 ≤ M → s.1 ≤ s.1 + l.length ∧ 0 ≤ (l.foldl pzS s).1 ∧ 0 ≤ (l.foldl pzS s).2.1 ∧ (l.foldl pzS s).2.1 ≤ s.2.1 + l.length ∧ -1 ≤ (l.foldl pzS s).2.2 ∧ (l.foldl pzS s).2.2 ≤ M
  | [], s, _, h, _ => by simp; omega
  | e :: l, s, he, h, hM => by
    have h1 := he e (by simp)
    have ih := pz_bd (M := M) l (pzS s e) (fun x hx => he x (by simp [hx])) (by
      unfold pzS
      split
      · simp only []
        split <;> omega
      · exact h) hM
    have h2 : (pzS s e).2.1 ≤ s.2.1 + 1 := by
      unfold pzS
      split
      · simp only []
        split <;> omega
      · omega
    rw [List.foldl_cons, List.length_cons]
    refine ⟨by omega, ih.2.1, ih.2.2.1, by have := ih.2.2.2.1; omega, ih.2.2.2.2⟩
set_option maxRecDepth 100000 in
set_option maxHeartbeats 4000000 in
theorem Pause_any (H : RunH) (R : Rn) (t : Int) (w : World) (hR : ReadRun w H R) : Calls Try.prog 41 #[runV H R.fr R.sl, .int .i64 t] w fun e w' => e = rII (pauseR R t).1 (pauseR R t).2 ∧ Below w.heap.size w w' := by
  obtain ⟨B, hB⟩ : ∃ B, (runB R && inB t 0 2000) = B := ⟨_, rfl⟩
  unfold pauseR
  rw [hB]
  have HI := Lib.hid (fun w1 (hb : Below w.heap.size w w1) => is_any H R t w1 (hR.ext hb) hB)
  cases B
  · obtain ⟨fr, hfr⟩ : ∃ x, R.fr = x := ⟨_, rfl⟩
    obtain ⟨sl_, hsl⟩ : ∃ x, R.sl = x := ⟨_, rfl⟩
    rw [hfr, hsl] at HI ⊢
    obtain ⟨tA, tN, tC, eA, eN, eC, bA, bN, bC, sA, sN, sC⟩ := H
    unfold runV at HI ⊢
    simp only [] at HI ⊢
    clear hR hB hfr hsl
    go_enter Try.func41, Try.ntmps41
    go_wp2_with (go_at_call 45; (with_reducible refine (HI.out _ (by (repeat' (first | (with_reducible exact Below.refl _ _) | (with_reducible assumption) | (with_reducible refine Below.alloc ?_ ?_ _) | (with_reducible refine Below.drew ?_) | (with_reducible refine Below.draws ?_ _) | (with_reducible refine Below.setCell ?_ ?_ _) | (refine Below.then ?_ (by with_reducible assumption)) | go_size)))).mono ?_); rintro e w1 ⟨rfl, hb1⟩; have B1 : Hid (Below w.heap.size w w1) := Lib.hid (Below.trans (by (repeat' (first | (with_reducible exact Below.refl _ _) | (with_reducible assumption) | (with_reducible refine Below.alloc ?_ ?_ _) | (with_reducible refine Below.drew ?_) | (with_reducible refine Below.draws ?_ _) | (with_reducible refine Below.setCell ?_ ?_ _) | (refine Below.then ?_ (by with_reducible assumption)) | go_size))) (hb1.mono (by simp))); have z1 : w.heap.size < w1.heap.size := Nat.lt_of_lt_of_le (by simp) hb1.size; have c1_0 := (hb1.cell (p := ⟨w.heap.size, 0, none⟩) (by simp)).trans (by simp [go_sem]; rfl); have c1_1 := (hb1.cell (p := ⟨w.heap.size, 1, none⟩) (by simp)).trans (by simp [go_sem]; rfl); have c1_2 := (hb1.cell (p := ⟨w.heap.size, 2, none⟩) (by simp)).trans (by simp [go_sem]; rfl); have c1_3 := (hb1.cell (p := ⟨w.heap.size, 3, none⟩) (by simp)).trans (by simp [go_sem]; rfl); have c1_4 := (hb1.cell (p := ⟨w.heap.size, 4, none⟩) (by simp)).trans (by simp [go_sem]; rfl); have c1_5 := (hb1.cell (p := ⟨w.heap.size, 5, none⟩) (by simp)).trans (by simp [go_sem]; rfl); clear hb1)
    go_ret2
    exact ⟨rfl, B1.out⟩
  · rw [Bool.and_eq_true, inB_iff] at hB
    obtain ⟨tn, rfl⟩ := Int.eq_ofNat_of_zero_le hB.2.1
    rw [if_pos rfl, Int.toNat_natCast]
    rw [← (pz_same R tn).1]
    have hr := (run_ok hB.1).1
    have htn : tn ≤ 2000 := by omega
    have hol := plM_olen hr htn
    have hom : ∀ e ∈ (plM R tn).o, 0 ≤ e.m ∧ e.m ≤ 2000 := fun e he => by obtain ⟨_, _, h⟩ := plM_ei hr tn; have := h.okm e he; omega
    have HP := Lib.hid (fun w1 (hb : Below w.heap.size w w1) => play_any H R tn w1 (hR.ext hb).rd hr (by omega))
    obtain ⟨o, ho⟩ : ∃ x, (plM R tn).o = x := ⟨_, rfl⟩
    rw [ho] at HP hol hom ⊢
    have HOM := Lib.hid hom
    obtain ⟨Z, hZ⟩ : ∃ Z, pzF o = Z := ⟨_, rfl⟩
    rw [hZ]
    have HZ := Lib.hid hZ
    obtain ⟨fr, hfr⟩ : ∃ x, R.fr = x := ⟨_, rfl⟩
    obtain ⟨sl_, hsl⟩ : ∃ x, R.sl = x := ⟨_, rfl⟩
    rw [hfr, hsl] at HI HP ⊢
    obtain ⟨tA, tN, tC, eA, eN, eC, bA, bN, bC, sA, sN, sC⟩ := H
    unfold runV at HI ⊢
    simp only [] at HI HP ⊢
    clear hR hB hfr hsl ho hZ hr hom
    go_enter Try.func41, Try.ntmps41
    go_wp2_with (first | (go_at_call 45; (with_reducible refine (HI.out _ (by (repeat' (first | (with_reducible exact Below.refl _ _) | (with_reducible assumption) | (with_reducible refine Below.alloc ?_ ?_ _) | (with_reducible refine Below.drew ?_) | (with_reducible refine Below.draws ?_ _) | (with_reducible refine Below.setCell ?_ ?_ _) | (refine Below.then ?_ (by with_reducible assumption)) | go_size)))).mono ?_); rintro e w1 ⟨rfl, hb1⟩; have B1 : Hid (Below w.heap.size w w1) := Lib.hid (Below.trans (by (repeat' (first | (with_reducible exact Below.refl _ _) | (with_reducible assumption) | (with_reducible refine Below.alloc ?_ ?_ _) | (with_reducible refine Below.drew ?_) | (with_reducible refine Below.draws ?_ _) | (with_reducible refine Below.setCell ?_ ?_ _) | (refine Below.then ?_ (by with_reducible assumption)) | go_size))) (hb1.mono (by simp))); have z1 : w.heap.size < w1.heap.size := Nat.lt_of_lt_of_le (by simp) hb1.size; have c1_0 := (hb1.cell (p := ⟨w.heap.size, 0, none⟩) (by simp)).trans (by simp [go_sem]; rfl); have c1_1 := (hb1.cell (p := ⟨w.heap.size, 1, none⟩) (by simp)).trans (by simp [go_sem]; rfl); have c1_2 := (hb1.cell (p := ⟨w.heap.size, 2, none⟩) (by simp)).trans (by simp [go_sem]; rfl); have c1_3 := (hb1.cell (p := ⟨w.heap.size, 3, none⟩) (by simp)).trans (by simp [go_sem]; rfl); have c1_4 := (hb1.cell (p := ⟨w.heap.size, 4, none⟩) (by simp)).trans (by simp [go_sem]; rfl); have c1_5 := (hb1.cell (p := ⟨w.heap.size, 5, none⟩) (by simp)).trans (by simp [go_sem]; rfl); clear hb1) | (go_at_call 46; (with_reducible refine (HP.out _ B1.out).mono ?_); rintro e w2 ⟨a2, n2, c2', rfl, h2, hb2⟩; have HO2 := Lib.hid (Rd.of_owns encE_len (by decide) h2); clear h2; have B2 := Lib.hid (Below.then B1.out hb2); have z2 : w.heap.size < w2.heap.size := Nat.lt_of_lt_of_le z1 hb2.size; have c2_0 := (hb2.cell (p := ⟨w.heap.size, 0, none⟩) z1).trans c1_0; have c2_1 := (hb2.cell (p := ⟨w.heap.size, 1, none⟩) z1).trans c1_1; have c2_2 := (hb2.cell (p := ⟨w.heap.size, 2, none⟩) z1).trans c1_2; have c2_3 := (hb2.cell (p := ⟨w.heap.size, 3, none⟩) z1).trans c1_3; have c2_4 := (hb2.cell (p := ⟨w.heap.size, 4, none⟩) z1).trans c1_4; have c2_5 := (hb2.cell (p := ⟨w.heap.size, 5, none⟩) z1).trans c1_5; clear hb2 c1_0 c1_1 c1_2 c1_3 c1_4 c1_5))
    have hn2 : n2 ≤ 504000 := by rw [← HO2.out.length]; exact hol
    go_loopw [6, 7, 8, 19] (fun v6 v7 v8 v19 wr => ∃ k : Nat, k ≤ n2 ∧ v6 = .int .i64 (pzF (o.take k)).1 ∧ v7 = .int .i64 (pzF (o.take k)).2.1 ∧ v8 = .int .i64 (pzF (o.take k)).2.2 ∧ v19 = .int .i64 k ∧ Below w2.heap.size w2 wr) (fun _ _ _ v _ => n2 - (intOf v).toNat)
    case atStart => exact ⟨0, Nat.zero_le _, rfl, rfl, rfl, rfl, Below.refl _ _⟩
    case round =>
      obtain ⟨k, hk, rfl, rfl, rfl, rfl, hB⟩ := hrel
      have HB := Lib.hid hB
      have hbd := pz_bd (M := 2000) (o.take k) (0, 0, -1) (fun e he => HOM.out e (List.mem_of_mem_take he)) (by simp) (by omega)
      rw [show List.foldl pzS (0, 0, -1) (o.take k) = pzF (o.take k) from rfl, List.length_take] at hbd
      by_cases hkn : k < n2
      · obtain ⟨x, b1, o1, rfl, hb1, hx, q0, q1, q2, q3, q4⟩ := (HO2.out.ext hB).en_at k hkn
        have htk := pzF_take hx
        have hxm := HOM.out x (List.mem_of_getElem? hx)
        obtain ⟨⟨P, Nw, La⟩, hC⟩ : ∃ C, pzF (o.take k) = C := ⟨_, rfl⟩
        rw [hC] at htk hbd ⊢
        simp only [] at hbd ⊢
        obtain ⟨m1, k1, w1', a1, c1⟩ := x
        simp only [] at q0 q1 q2 q3 q4 hxm
        have wr1 : IntKind.i64.wrap (La + 1) = La + 1 := IntWalk.i64_in _ (by omega)
        have wr2 : IntKind.i64.wrap (Nw + 1) = Nw + 1 := IntWalk.i64_in _ (by omega)
        by_cases h3 : w1' = 3
        · subst h3
          unfold pzS at htk
          rw [if_pos rfl] at htk
          simp only [] at htk
          by_cases hm : m1 = La + 1
          · rw [if_pos hm] at htk
            have hm' : (m1 != La + 1) = false := by simpa using hm
            have hmx : (if P < Nw + 1 then Nw + 1 else P) = max P (Nw + 1) := by split <;> omega
            have HMM := Lib.hid hm
            have HTK := Lib.hid htk
            obtain ⟨X, hX⟩ : ∃ X, max P (Nw + 1) = X := ⟨_, rfl⟩
            rw [hX] at hmx
            have HX := Lib.hid hX
            have HMX := Lib.hid hmx
            clear hB hx htk hC hbd hX hmx hxm
            go_wp2_with (refine wp_region_later_lit (by kernel_rfl) (by kernel_rfl) ?_; (repeat (go_big_quiet_step (fail))); refine wpQuiet_nil ?_; intro w7 hb7)
            go_roundw
            case rel => exact ⟨k + 1, hkn, by rw [HTK.out] <;> first | rfl | (simp only []; rw [HX.out, HMX.out]) | (simp [HX.out, ← HMX.out]), by rw [HTK.out], by rw [HTK.out] <;> (first | rfl | (simp only []; rw [HMM.out]) | (simp only []; rw [← HMM.out])), by go_num, Below.then HB.out (Below.then (by (repeat' (first | (with_reducible exact Below.refl _ _) | (with_reducible assumption) | (with_reducible refine Below.alloc ?_ ?_ _) | (with_reducible refine Below.drew ?_) | (with_reducible refine Below.draws ?_ _) | (with_reducible refine Below.setCell ?_ ?_ _) | (refine Below.then ?_ (by with_reducible assumption)) | go_size))) hb7)⟩
            case measure => simp [intOf]; omega
          · rw [if_neg hm] at htk
            have hm' : (m1 != La + 1) = true := by simpa using hm
            have HTK := Lib.hid htk
            clear hB hx htk hC hbd hxm
            go_wp2_with (refine wp_region_later_lit (by kernel_rfl) (by kernel_rfl) ?_; (repeat (go_big_quiet_step (fail))); refine wpQuiet_nil ?_; intro w7 hb7)
            go_roundw
            case rel => exact ⟨k + 1, hkn, by rw [HTK.out] <;> first | rfl | (simp), by rw [HTK.out] <;> first | rfl | simp, by rw [HTK.out], by go_num, Below.then HB.out (Below.then (by (repeat' (first | (with_reducible exact Below.refl _ _) | (with_reducible assumption) | (with_reducible refine Below.alloc ?_ ?_ _) | (with_reducible refine Below.drew ?_) | (with_reducible refine Below.draws ?_ _) | (with_reducible refine Below.setCell ?_ ?_ _) | (refine Below.then ?_ (by with_reducible assumption)) | go_size))) hb7)⟩
            case measure => simp [intOf]; omega
        · have h3' : (w1' != 3) = true := by simpa using h3
          unfold pzS at htk
          rw [if_neg h3] at htk
          have HTK := Lib.hid htk
          clear hB hx htk hC hbd hxm
          go_wp2_with (refine wp_region_later_lit (by kernel_rfl) (by kernel_rfl) ?_; (repeat (go_big_quiet_step (fail))); refine wpQuiet_nil ?_; intro w7 hb7)
          go_roundw
          case rel => exact ⟨k + 1, hkn, by rw [HTK.out], by rw [HTK.out], by rw [HTK.out], by go_num, Below.then HB.out (by (repeat' (first | (with_reducible exact Below.refl _ _) | (with_reducible assumption) | (with_reducible refine Below.alloc ?_ ?_ _) | (with_reducible refine Below.drew ?_) | (with_reducible refine Below.draws ?_ _) | (with_reducible refine Below.setCell ?_ ?_ _) | (refine Below.then ?_ (by with_reducible assumption)) | go_size)))⟩
          case measure => simp [intOf]; omega
      · rw [List.take_of_length_le (by rw [HO2.out.length]; omega), HZ.out]
        clear hB hbd
        go_wp2
        go_ret2
        exact ⟨rfl, B2.out.trans (HB.out.mono B2.out.size)⟩
end Go.Proofs.Ytlhnhmimhpcoaaa
namespace Go.Proofs.Ytlhnhmimhpcoaaa
open Go.RowKit
set_option linter.unusedSimpArgs false
set_option linter.unusedVariables false
def workedR (R : Rn) (t : Int) : List Int × Int := if (runB R && inB t 0 2000) = true then (wkRow R.L.length (plM R t.toNat).o, 0) else ([], 1)
theorem wkRow_take4 {n i : Nat} {o : List En} {k : Nat} {x : En} (h : o[k]? = some x) (h4 : x.w = 4) (hi : x.k = (i : Int)) (hn : i < n) : wkRow n (o.take (k + 1)) = (wkRow n (o.take k)).set i (cntE (isWk i) (o.take k) + 1) := by
  rw [take_one h, wkRow_work h4 hi hn]
theorem wkRow_take {n : Nat} {o : List En} {k : Nat} {x : En} (h : o[k]? = some x) (h4 : x.w ≠ 4) : wkRow n (o.take (k + 1)) = wkRow n (o.take k) := by
  rw [take_one h, wkRow_other h4]
theorem plM_ok4 {R : Rn} (hr : RnOk R) (k : Nat) : ∀ e ∈ (plM R k).o, e.w = 4 → ∃ i p x : Nat, e.k = (i : Int) ∧ e.a = (p : Int) ∧ e.b = (x : Int) ∧ i < R.L.length ∧ p < (taAt R.L i).pcs.length ∧ x < (evA R i).length := by
  obtain ⟨_, _, h⟩ := plM_ei hr k
  exact h.ok4
theorem make_own (n : Nat) (hn : n ≤ 1000) (w : World) : (w.alloc (.cells (madeCells #[.int .i64 0] n) 3)).ownsRow w.heap.size 3 1 (.slice (some ⟨w.heap.size, 0, none⟩) n n) n ((List.replicate n (0 : Int)).flatMap enc1) := by
  have e : (madeCells #[Value.int .i64 0] n).toList = (List.replicate n (0 : Int)).flatMap enc1 := by
    rw [flat_enc1, List.map_replicate]; exact toList_madeCells_one _ n
  refine ⟨by rw [← e]; simp [madeCells], .inr ⟨w.heap.size, n, madeCells #[.int .i64 0] n, rfl, Nat.le_refl _, heap_alloc_new _ _, Nat.le_refl _, by unfold maxLen; omega, by simp [madeCells], ?_⟩⟩
  rw [← e, Nat.mul_one, List.take_of_length_le (by simp [madeCells])]
set_option maxRecDepth 100000 in
set_option maxHeartbeats 4000000 in
theorem Worked_any (H : RunH) (R : Rn) (t : Int) (w : World) (hR : ReadRun w H R) : Calls Try.prog 37 #[runV H R.fr R.sl, .int .i64 t] w (OutTE w.heap.size w (workedR R t).1 (workedR R t).2) := by
  obtain ⟨B, hB⟩ : ∃ B, (runB R && inB t 0 2000) = B := ⟨_, rfl⟩
  unfold workedR
  rw [hB]
  have HI := Lib.hid (fun w1 (hb : Below w.heap.size w w1) => is_any H R t w1 (hR.ext hb) hB)
  cases B
  · obtain ⟨fr, hfr⟩ : ∃ x, R.fr = x := ⟨_, rfl⟩
    obtain ⟨sl_, hsl⟩ : ∃ x, R.sl = x := ⟨_, rfl⟩
    rw [hfr, hsl] at HI ⊢
    obtain ⟨tA, tN, tC, eA, eN, eC, bA, bN, bC, sA, sN, sC⟩ := H
    unfold runV at HI ⊢
    simp only [] at HI ⊢
    clear hR hB hfr hsl
    go_enter Try.func37, Try.ntmps37
    go_wp2_with (go_at_call 45; (with_reducible refine (HI.out _ (by (repeat' (first | (with_reducible exact Below.refl _ _) | (with_reducible assumption) | (with_reducible refine Below.alloc ?_ ?_ _) | (with_reducible refine Below.drew ?_) | (with_reducible refine Below.draws ?_ _) | (with_reducible refine Below.setCell ?_ ?_ _) | (refine Below.then ?_ (by with_reducible assumption)) | go_size)))).mono ?_); rintro e w1 ⟨rfl, hb1⟩; have B1 : Hid (Below w.heap.size w w1) := Lib.hid (Below.trans (by (repeat' (first | (with_reducible exact Below.refl _ _) | (with_reducible assumption) | (with_reducible refine Below.alloc ?_ ?_ _) | (with_reducible refine Below.drew ?_) | (with_reducible refine Below.draws ?_ _) | (with_reducible refine Below.setCell ?_ ?_ _) | (refine Below.then ?_ (by with_reducible assumption)) | go_size))) (hb1.mono (by simp))); have z1 : w.heap.size < w1.heap.size := Nat.lt_of_lt_of_le (by simp) hb1.size; have c1_0 := (hb1.cell (p := ⟨w.heap.size, 0, none⟩) (by simp)).trans (by simp [go_sem]; rfl); have c1_1 := (hb1.cell (p := ⟨w.heap.size, 1, none⟩) (by simp)).trans (by simp [go_sem]; rfl); have c1_2 := (hb1.cell (p := ⟨w.heap.size, 2, none⟩) (by simp)).trans (by simp [go_sem]; rfl); have c1_3 := (hb1.cell (p := ⟨w.heap.size, 3, none⟩) (by simp)).trans (by simp [go_sem]; rfl); have c1_4 := (hb1.cell (p := ⟨w.heap.size, 4, none⟩) (by simp)).trans (by simp [go_sem]; rfl); have c1_5 := (hb1.cell (p := ⟨w.heap.size, 5, none⟩) (by simp)).trans (by simp [go_sem]; rfl); clear hb1)
    go_ret2
    exact OutTE.none B1.out
  · rw [Bool.and_eq_true, inB_iff] at hB
    obtain ⟨tn, rfl⟩ := Int.eq_ofNat_of_zero_le hB.2.1
    rw [if_pos rfl, Int.toNat_natCast]
    have hr := (run_ok hB.1).1
    have htn : tn ≤ 2000 := by omega
    have hol := plM_olen hr htn
    have hok := plM_ok4 hr tn
    have HP := Lib.hid (fun w1 (hb : Below w.heap.size w w1) => play_any H R tn w1 (hR.ext hb).rd hr (by omega))
    obtain ⟨o, ho⟩ : ∃ x, (plM R tn).o = x := ⟨_, rfl⟩
    rw [ho] at HP hol hok ⊢
    have hTN := hR.t.length
    have hL5 := hr.r.len
    obtain ⟨nL, hnL⟩ : ∃ x, R.L.length = x := ⟨_, rfl⟩
    rw [hnL] at hTN hL5 ⊢
    have HOK : Hid (∀ e ∈ o, e.w = 4 → ∃ i : Nat, e.k = (i : Int) ∧ i < nL) := Lib.hid (fun e he h4 => by obtain ⟨i, _, _, h1, _, _, h2, _⟩ := hok e he h4; exact ⟨i, h1, by rw [← hnL]; exact h2⟩)
    have HOL := Lib.hid hol
    obtain ⟨Z, hZ⟩ : ∃ Z, wkRow nL o = Z := ⟨_, rfl⟩
    rw [hZ]
    have HZ := Lib.hid hZ
    obtain ⟨fr, hfr⟩ : ∃ x, R.fr = x := ⟨_, rfl⟩
    obtain ⟨sl_, hsl⟩ : ∃ x, R.sl = x := ⟨_, rfl⟩
    rw [hfr, hsl] at HI HP ⊢
    obtain ⟨tA, tN, tC, eA, eN, eC, bA, bN, bC, sA, sN, sC⟩ := H
    unfold runV at HI ⊢
    simp only [] at HI HP hTN ⊢
    obtain rfl : nL = tN := hTN
    clear hR hB hfr hsl ho hZ hr hok hnL hol
    have hmk1 := run_make_row' (P := Try.prog) 26 3 (.int .i64 0) 8 Try.underlying26 (by kernel_rfl) rfl .i64 .i64 nL (by omega) (by omega)
    go_enter Try.func37, Try.ntmps37
    go_upto_region 4 with (go_at_call 45; (with_reducible refine (HI.out _ (by (repeat' (first | (with_reducible exact Below.refl _ _) | (with_reducible assumption) | (with_reducible refine Below.alloc ?_ ?_ _) | (with_reducible refine Below.drew ?_) | (with_reducible refine Below.draws ?_ _) | (with_reducible refine Below.setCell ?_ ?_ _) | (refine Below.then ?_ (by with_reducible assumption)) | go_size)))).mono ?_); rintro e w1 ⟨rfl, hb1⟩; have B1 : Hid (Below w.heap.size w w1) := Lib.hid (Below.trans (by (repeat' (first | (with_reducible exact Below.refl _ _) | (with_reducible assumption) | (with_reducible refine Below.alloc ?_ ?_ _) | (with_reducible refine Below.drew ?_) | (with_reducible refine Below.draws ?_ _) | (with_reducible refine Below.setCell ?_ ?_ _) | (refine Below.then ?_ (by with_reducible assumption)) | go_size))) (hb1.mono (by simp))); have z1 : w.heap.size < w1.heap.size := Nat.lt_of_lt_of_le (by simp) hb1.size; have c1_0 := (hb1.cell (p := ⟨w.heap.size, 0, none⟩) (by simp)).trans (by simp [go_sem]; rfl); have c1_1 := (hb1.cell (p := ⟨w.heap.size, 1, none⟩) (by simp)).trans (by simp [go_sem]; rfl); have c1_2 := (hb1.cell (p := ⟨w.heap.size, 2, none⟩) (by simp)).trans (by simp [go_sem]; rfl); have c1_3 := (hb1.cell (p := ⟨w.heap.size, 3, none⟩) (by simp)).trans (by simp [go_sem]; rfl); have c1_4 := (hb1.cell (p := ⟨w.heap.size, 4, none⟩) (by simp)).trans (by simp [go_sem]; rfl); have c1_5 := (hb1.cell (p := ⟨w.heap.size, 5, none⟩) (by simp)).trans (by simp [go_sem]; rfl); clear hb1)
    obtain ⟨w2, hw2⟩ : ∃ x, x = w1.alloc (.cells (madeCells #[.int .i64 0] nL) 3) := ⟨_, rfl⟩
    have hb2 : Below w1.heap.size w1 w2 := by rw [hw2]; (repeat' (first | (with_reducible exact Below.refl _ _) | (with_reducible assumption) | (with_reducible refine Below.alloc ?_ ?_ _) | (with_reducible refine Below.drew ?_) | (with_reducible refine Below.draws ?_ _) | (with_reducible refine Below.setCell ?_ ?_ _) | (refine Below.then ?_ (by with_reducible assumption)) | go_size))
    have HW2 : Hid (w2.ownsRow w1.heap.size 3 1 (.slice (some ⟨w1.heap.size, 0, none⟩) nL nL) nL ((wkRow nL (o.take 0)).flatMap enc1)) := Lib.hid (by rw [hw2, List.take_zero, wkRow_nil]; exact make_own nL (by omega) w1)
    have HZ2 : Hid (w1.heap.size < w2.heap.size) := Lib.hid (by rw [hw2]; simp)
    rw [← hw2]
    have B2 := Lib.hid (Below.then B1.out hb2); have z2 : w.heap.size < w2.heap.size := Nat.lt_of_lt_of_le z1 hb2.size; have c2_0 := (hb2.cell (p := ⟨w.heap.size, 0, none⟩) z1).trans c1_0; have c2_1 := (hb2.cell (p := ⟨w.heap.size, 1, none⟩) z1).trans c1_1; have c2_2 := (hb2.cell (p := ⟨w.heap.size, 2, none⟩) z1).trans c1_2; have c2_3 := (hb2.cell (p := ⟨w.heap.size, 3, none⟩) z1).trans c1_3; have c2_4 := (hb2.cell (p := ⟨w.heap.size, 4, none⟩) z1).trans c1_4; have c2_5 := (hb2.cell (p := ⟨w.heap.size, 5, none⟩) z1).trans c1_5; clear hb2 c1_0 c1_1 c1_2 c1_3 c1_4 c1_5
    clear hw2
    go_wp2_with (go_at_call 46; (with_reducible refine (HP.out _ B2.out).mono ?_); rintro e w3 ⟨a3, n3, c3', rfl, h3, hb3⟩; have HO3 := Lib.hid h3; have HW3 := Lib.hid (owns_ext HW2.out hb3); clear h3; have B3 := Lib.hid (Below.then B2.out hb3); have z3 : w.heap.size < w3.heap.size := Nat.lt_of_lt_of_le z2 hb3.size; have c3_0 := (hb3.cell (p := ⟨w.heap.size, 0, none⟩) z2).trans c2_0; have c3_1 := (hb3.cell (p := ⟨w.heap.size, 1, none⟩) z2).trans c2_1; have c3_2 := (hb3.cell (p := ⟨w.heap.size, 2, none⟩) z2).trans c2_2; have c3_3 := (hb3.cell (p := ⟨w.heap.size, 3, none⟩) z2).trans c2_3; have c3_4 := (hb3.cell (p := ⟨w.heap.size, 4, none⟩) z2).trans c2_4; have c3_5 := (hb3.cell (p := ⟨w.heap.size, 5, none⟩) z2).trans c2_5; clear hb3 c2_0 c2_1 c2_2 c2_3 c2_4 c2_5)
    have hn3 : n3 ≤ 504000 := by rw [← (Rd.of_owns encE_len (by decide) HO3.out).length]; exact HOL.out
    have hz2 : w1.heap.size < w2.heap.size := HZ2.out
    go_loopw [21] (fun v wr => ∃ k : Nat, k ≤ n3 ∧ v = .int .i64 k ∧ wr.ownsRow w1.heap.size 3 1 (.slice (some ⟨w1.heap.size, 0, none⟩) nL nL) nL ((wkRow nL (o.take k)).flatMap enc1) ∧ wr.ownsRow w2.heap.size 43 5 (.slice a3 n3 c3') n3 (o.flatMap encE) ∧ Below w.heap.size w wr) (fun v _ => n3 - (intOf v).toNat)
    case atStart => exact ⟨0, Nat.zero_le _, rfl, HW3.out, HO3.out, B3.out⟩
    case round =>
      clear HW3 HO3
      obtain ⟨k, hk, rfl, hW, hO, hB⟩ := hrel
      have HB := Lib.hid hB; have HW := Lib.hid hW; have HO := Lib.hid hO
      by_cases hkn : k < n3
      · obtain ⟨x, b1, o1, rfl, hb1, hx, q0, q1, q2, q3, q4⟩ := (Rd.of_owns encE_len (by decide) hO).en_at k hkn
        have HX := Lib.hid hx
        have hmem := List.mem_of_getElem? hx
        obtain ⟨m1, k1, w1', a1, c1⟩ := x
        simp only [] at q0 q1 q2 q3 q4
        by_cases h4 : w1' = 4
        · subst h4
          obtain ⟨i, hi, hil⟩ := HOK.out _ hmem rfl
          simp only [] at hi
          subst hi
          obtain ⟨y, hy, d1, f1, gl⟩ := ownsI_at hW i hil
          rw [wkRow_get hil] at hy
          have hyb := cnt_take_bd (isWk i) o k
          obtain rfl : cntE (isWk i) (o.take k) = y := by simpa using hy
          have wr1 : IntKind.i64.wrap (cntE (isWk i) (o.take k) + 1) = cntE (isWk i) (o.take k) + 1 := IntWalk.i64_in _ (by have := HOL.out; omega)
          obtain ⟨C, hC⟩ : ∃ C, cntE (isWk i) (o.take k) = C := ⟨_, rfl⟩
          rw [hC] at wr1 d1
          have htk := wkRow_take4 (n := nL) hx rfl rfl hil
          rw [hC] at htk
          have HTK := Lib.hid htk
          clear hW hO hB hx hmem hy hyb htk hC
          go_wp2
          go_roundw
          case rel =>
            refine ⟨k + 1, hkn, by go_num, ?_, ?_, ?_⟩
            · rw [HTK.out]
              exact owns_ext (ownsI_set HW.out i (C + 1)) (by (repeat' (first | (with_reducible exact Below.refl _ _) | (with_reducible assumption) | (with_reducible refine Below.alloc ?_ ?_ _) | (with_reducible refine Below.drew ?_) | (with_reducible refine Below.draws ?_ _) | (with_reducible refine Below.setCell ?_ ?_ _) | (refine Below.then ?_ (by with_reducible assumption)) | go_size)))
            · exact owns_ext (owns_far HO.out HZ2.out _) (by (repeat' (first | (with_reducible exact Below.refl _ _) | (with_reducible assumption) | (with_reducible refine Below.alloc ?_ ?_ _) | (with_reducible refine Below.drew ?_) | (with_reducible refine Below.draws ?_ _) | (with_reducible refine Below.setCell ?_ ?_ _) | (refine Below.then ?_ (by with_reducible assumption)) | go_size)))
            · exact Below.then (HB.out.setCell (p := ⟨w1.heap.size, i, none⟩) B1.out.size _) (by (repeat' (first | (with_reducible exact Below.refl _ _) | (with_reducible assumption) | (with_reducible refine Below.alloc ?_ ?_ _) | (with_reducible refine Below.drew ?_) | (with_reducible refine Below.draws ?_ _) | (with_reducible refine Below.setCell ?_ ?_ _) | (refine Below.then ?_ (by with_reducible assumption)) | go_size)))
          case measure => simp [intOf]; omega
        · have h4' : (w1' == 4) = false := by simpa using h4
          have htk := wkRow_take (n := nL) hx h4
          have HTK := Lib.hid htk
          clear hW hO hB hx hmem htk
          go_wp2
          go_roundw
          case rel => exact ⟨k + 1, hkn, by go_num, by rw [HTK.out]; exact owns_ext HW.out (by (repeat' (first | (with_reducible exact Below.refl _ _) | (with_reducible assumption) | (with_reducible refine Below.alloc ?_ ?_ _) | (with_reducible refine Below.drew ?_) | (with_reducible refine Below.draws ?_ _) | (with_reducible refine Below.setCell ?_ ?_ _) | (refine Below.then ?_ (by with_reducible assumption)) | go_size))), owns_ext HO.out (by (repeat' (first | (with_reducible exact Below.refl _ _) | (with_reducible assumption) | (with_reducible refine Below.alloc ?_ ?_ _) | (with_reducible refine Below.drew ?_) | (with_reducible refine Below.draws ?_ _) | (with_reducible refine Below.setCell ?_ ?_ _) | (refine Below.then ?_ (by with_reducible assumption)) | go_size))), Below.then HB.out (by (repeat' (first | (with_reducible exact Below.refl _ _) | (with_reducible assumption) | (with_reducible refine Below.alloc ?_ ?_ _) | (with_reducible refine Below.drew ?_) | (with_reducible refine Below.draws ?_ _) | (with_reducible refine Below.setCell ?_ ?_ _) | (refine Below.then ?_ (by with_reducible assumption)) | go_size)))⟩
          case measure => simp [intOf]; omega
      · rw [List.take_of_length_le (by rw [(Rd.of_owns encE_len (by decide) hO).length]; omega), HZ.out] at hW
        have HW := Lib.hid hW
        clear hW hO hB
        go_wp2
        go_ret2
        exact ⟨_, _, _, rfl, owns_mono HW.out B1.out.size, HB.out⟩
end Go.Proofs.Ytlhnhmimhpcoaaa
namespace Go.Proofs.Ytlhnhmimhpcoaaa
open Go.RowKit
set_option linter.unusedSimpArgs false
set_option linter.unusedVariables false
def preR (R : Rn) (t : Int) : Int × Int := if (runB R && inB t 0 2000) = true then ((preF (endX R t) (plM R t.toNat).o).1, 0) else (0, 1)
theorem preF_take {X : Nat → List Int} {o : List En} {k : Nat} {x : En} (h : o[k]? = some x) : preF X (o.take (k + 1)) = preS X (preF X (o.take k)) x := by
  rw [take_one h]; unfold preF; rw [List.foldl_append]; rfl
theorem preF_bd (X : Nat → List Int) (o : List En) (k : Nat) : 0 ≤ (preF X (o.take k)).1 ∧ (preF X (o.take k)).1 ≤ o.length := by
  have := preS_bd X (o.take k) (0, ⟨0, -1, 0, 0, 0⟩)
  rw [show List.foldl (preS X) (0, ⟨0, -1, 0, 0, 0⟩) (o.take k) = preF X (o.take k) from rfl, List.length_take] at this
  simp only [] at this
  omega
/-- the last entry of work is one, or none yet -/
def LastOk (n : Nat) (X : Nat → List Int) (e : En) : Prop := e.k < 0 ∨ ∃ i x : Nat, e.k = (i : Int) ∧ e.b = (x : Int) ∧ i < n ∧ x < (X i).length
/-- a block of five cells laid anew -/
def set5 (w : World) (L : Nat) (e : En) : World := ((((w.setCell ⟨L, 0, none⟩ (.int .i64 e.m)).setCell ⟨L, 1, none⟩ (.int .i64 e.k)).setCell ⟨L, 2, none⟩ (.int .i64 e.w)).setCell ⟨L, 3, none⟩ (.int .i64 e.a)).setCell ⟨L, 4, none⟩ (.int .i64 e.b)
structure Blk5 (w : World) (L : Nat) (e : En) : Prop where
  cm : w.cell? ⟨L, 0, none⟩ = some (.int .i64 e.m)
  ck : w.cell? ⟨L, 1, none⟩ = some (.int .i64 e.k)
  cw : w.cell? ⟨L, 2, none⟩ = some (.int .i64 e.w)
  ca : w.cell? ⟨L, 3, none⟩ = some (.int .i64 e.a)
  cb : w.cell? ⟨L, 4, none⟩ = some (.int .i64 e.b)
  f : ∀ j, w.frozen? ⟨L, j, none⟩ = false
  z : L < w.heap.size
theorem Blk5.ext {w w' : World} {L : Nat} {e : En} (h : Blk5 w L e) (hb : Below w.heap.size w w') : Blk5 w' L e :=
  ⟨(hb.cell (p := ⟨L, 0, none⟩) h.z).trans h.cm, (hb.cell (p := ⟨L, 1, none⟩) h.z).trans h.ck, (hb.cell (p := ⟨L, 2, none⟩) h.z).trans h.cw, (hb.cell (p := ⟨L, 3, none⟩) h.z).trans h.ca, (hb.cell (p := ⟨L, 4, none⟩) h.z).trans h.cb, fun j => (hb.frozen (p := ⟨L, j, none⟩) h.z).trans (h.f j), Nat.lt_of_lt_of_le h.z hb.size⟩
theorem Blk5.set {w : World} {L : Nat} {e x : En} (h : Blk5 w L e) : Blk5 (set5 w L x) L x := by
  have ne : ∀ i j : Nat, i ≠ j → (⟨L, i, none⟩ : Addr) ≠ ⟨L, j, none⟩ := fun i j hij => addr_neS (.inr hij)
  unfold set5
  have s1 : (w.setCell ⟨L, 0, none⟩ (.int .i64 x.m)).cell? ⟨L, 1, none⟩ = some (.int .i64 e.k) := (World.cell?_setCell_other _ _ _ _ (ne 0 1 (by decide))).trans h.ck
  have s2 : ((w.setCell ⟨L, 0, none⟩ (.int .i64 x.m)).setCell ⟨L, 1, none⟩ (.int .i64 x.k)).cell? ⟨L, 2, none⟩ = some (.int .i64 e.w) := (World.cell?_setCell_other _ _ _ _ (ne 1 2 (by decide))).trans ((World.cell?_setCell_other _ _ _ _ (ne 0 2 (by decide))).trans h.cw)
  have s3 : (((w.setCell ⟨L, 0, none⟩ (.int .i64 x.m)).setCell ⟨L, 1, none⟩ (.int .i64 x.k)).setCell ⟨L, 2, none⟩ (.int .i64 x.w)).cell? ⟨L, 3, none⟩ = some (.int .i64 e.a) := (World.cell?_setCell_other _ _ _ _ (ne 2 3 (by decide))).trans ((World.cell?_setCell_other _ _ _ _ (ne 1 3 (by decide))).trans ((World.cell?_setCell_other _ _ _ _ (ne 0 3 (by decide))).trans h.ca))
  have s4 : ((((w.setCell ⟨L, 0, none⟩ (.int .i64 x.m)).setCell ⟨L, 1, none⟩ (.int .i64 x.k)).setCell ⟨L, 2, none⟩ (.int .i64 x.w)).setCell ⟨L, 3, none⟩ (.int .i64 x.a)).cell? ⟨L, 4, none⟩ = some (.int .i64 e.b) := (World.cell?_setCell_other _ _ _ _ (ne 3 4 (by decide))).trans ((World.cell?_setCell_other _ _ _ _ (ne 2 4 (by decide))).trans ((World.cell?_setCell_other _ _ _ _ (ne 1 4 (by decide))).trans ((World.cell?_setCell_other _ _ _ _ (ne 0 4 (by decide))).trans h.cb)))
  refine ⟨?_, ?_, ?_, ?_, World.cell?_setCell_same _ _ _ s4, fun j => by simp only [World.frozen?_setCell]; exact h.f j, by simpa using h.z⟩
  · exact (World.cell?_setCell_other _ _ _ _ (ne 4 0 (by decide))).trans ((World.cell?_setCell_other _ _ _ _ (ne 3 0 (by decide))).trans ((World.cell?_setCell_other _ _ _ _ (ne 2 0 (by decide))).trans ((World.cell?_setCell_other _ _ _ _ (ne 1 0 (by decide))).trans (World.cell?_setCell_same _ _ _ h.cm))))
  · exact (World.cell?_setCell_other _ _ _ _ (ne 4 1 (by decide))).trans ((World.cell?_setCell_other _ _ _ _ (ne 3 1 (by decide))).trans ((World.cell?_setCell_other _ _ _ _ (ne 2 1 (by decide))).trans (World.cell?_setCell_same _ _ _ s1)))
  · exact (World.cell?_setCell_other _ _ _ _ (ne 4 2 (by decide))).trans ((World.cell?_setCell_other _ _ _ _ (ne 3 2 (by decide))).trans (World.cell?_setCell_same _ _ _ s2))
  · exact (World.cell?_setCell_other _ _ _ _ (ne 4 3 (by decide))).trans (World.cell?_setCell_same _ _ _ s3)
theorem set5_below {w0 w : World} {B L : Nat} {x : En} (h : Below B w0 w) (hL : B ≤ L) : Below B w0 (set5 w L x) :=
  ((((h.setCell (p := ⟨L, 0, none⟩) hL _).setCell (p := ⟨L, 1, none⟩) hL _).setCell (p := ⟨L, 2, none⟩) hL _).setCell (p := ⟨L, 3, none⟩) hL _).setCell (p := ⟨L, 4, none⟩) hL _
set_option maxRecDepth 100000 in
set_option maxHeartbeats 8000000 in
theorem Preempted_any (H : RunH) (R : Rn) (t : Int) (w : World) (hR : ReadRun w H R) : Calls Try.prog 43 #[runV H R.fr R.sl, .int .i64 t] w fun e w' => e = rII (preR R t).1 (preR R t).2 ∧ Below w.heap.size w w' := by
  obtain ⟨B, hB⟩ : ∃ B, (runB R && inB t 0 2000) = B := ⟨_, rfl⟩
  unfold preR
  rw [hB]
  have HI := Lib.hid (fun w1 (hb : Below w.heap.size w w1) => is_any H R t w1 (hR.ext hb) hB)
  cases B
  · obtain ⟨fr, hfr⟩ : ∃ x, R.fr = x := ⟨_, rfl⟩
    obtain ⟨sl_, hsl⟩ : ∃ x, R.sl = x := ⟨_, rfl⟩
    rw [hfr, hsl] at HI ⊢
    obtain ⟨tA, tN, tC, eA, eN, eC, bA, bN, bC, sA, sN, sC⟩ := H
    unfold runV at HI ⊢
    simp only [] at HI ⊢
    clear hR hB hfr hsl
    go_enter Try.func43, Try.ntmps43
    go_wp2_with (go_at_call 45; (with_reducible refine (HI.out _ (by (repeat' (first | (with_reducible exact Below.refl _ _) | (with_reducible assumption) | (with_reducible refine Below.alloc ?_ ?_ _) | (with_reducible refine Below.drew ?_) | (with_reducible refine Below.draws ?_ _) | (with_reducible refine Below.setCell ?_ ?_ _) | (refine Below.then ?_ (by with_reducible assumption)) | go_size)))).mono ?_); rintro e w1 ⟨rfl, hb1⟩; have B1 : Hid (Below w.heap.size w w1) := Lib.hid (Below.trans (by (repeat' (first | (with_reducible exact Below.refl _ _) | (with_reducible assumption) | (with_reducible refine Below.alloc ?_ ?_ _) | (with_reducible refine Below.drew ?_) | (with_reducible refine Below.draws ?_ _) | (with_reducible refine Below.setCell ?_ ?_ _) | (refine Below.then ?_ (by with_reducible assumption)) | go_size))) (hb1.mono (by simp))); have z1 : w.heap.size < w1.heap.size := Nat.lt_of_lt_of_le (by simp) hb1.size; have c1_0 := (hb1.cell (p := ⟨w.heap.size, 0, none⟩) (by simp)).trans (by simp [go_sem]; rfl); have c1_1 := (hb1.cell (p := ⟨w.heap.size, 1, none⟩) (by simp)).trans (by simp [go_sem]; rfl); have c1_2 := (hb1.cell (p := ⟨w.heap.size, 2, none⟩) (by simp)).trans (by simp [go_sem]; rfl); have c1_3 := (hb1.cell (p := ⟨w.heap.size, 3, none⟩) (by simp)).trans (by simp [go_sem]; rfl); have c1_4 := (hb1.cell (p := ⟨w.heap.size, 4, none⟩) (by simp)).trans (by simp [go_sem]; rfl); have c1_5 := (hb1.cell (p := ⟨w.heap.size, 5, none⟩) (by simp)).trans (by simp [go_sem]; rfl); clear hb1)
    go_ret2
    exact ⟨rfl, B1.out⟩
  · rw [Bool.and_eq_true, inB_iff] at hB
    obtain ⟨tn, rfl⟩ := Int.eq_ofNat_of_zero_le hB.2.1
    rw [if_pos rfl, Int.toNat_natCast]
    have hr := (run_ok hB.1).1
    have htn : tn ≤ 2000 := by omega
    have hol := plM_olen hr htn
    have hok := plM_ok4 hr tn
    have HP := Lib.hid (fun w1 (hb : Below w.heap.size w w1) => play_any H R tn w1 (hR.ext hb).rd hr (by omega))
    have HEN := Lib.hid (fun (w1 : World) (a : Option Addr) (n c : Nat) (hb : Below w.heap.size w w1) (hx : Rd w1 a n 5 ((plM R tn).o.map encE)) => ends_any H R (plM R tn).o a n c w1 (hR.ext hb).rd hr hx (by have h1 := hx.length; omega) (plM_ok5 hr tn))
    obtain ⟨X, hX⟩ : ∃ X, endX R (tn : Int) = X := ⟨_, rfl⟩
    have hX2 : endsRow R (plM R tn).o = X := by rw [← hX]; unfold endX; rw [Int.toNat_natCast]
    have hXl : ∀ i, (X i).length = (evA R i).length := fun i => by rw [← hX2]; exact endsRow_len _ _ _
    rw [hX2] at HEN
    rw [hX]
    obtain ⟨o, ho⟩ : ∃ x, (plM R tn).o = x := ⟨_, rfl⟩
    rw [ho] at HP HEN hol hok ⊢
    obtain ⟨nL, hnL⟩ : ∃ x, R.L.length = x := ⟨_, rfl⟩
    rw [hnL] at HEN
    have HOK : Hid (∀ e ∈ o, e.w = 4 → LastOk nL X e) := Lib.hid (fun e he h4 => by obtain ⟨i, _, x, h1, _, h3, h2, _, h5⟩ := hok e he h4; exact .inr ⟨i, x, h1, h3, by rw [← hnL]; exact h2, by rw [hXl]; exact h5⟩)
    obtain ⟨Z, hZ⟩ : ∃ Z, preF X o = Z := ⟨_, rfl⟩
    rw [hZ]
    have HZ := Lib.hid hZ
    obtain ⟨fr, hfr⟩ : ∃ x, R.fr = x := ⟨_, rfl⟩
    obtain ⟨sl_, hsl⟩ : ∃ x, R.sl = x := ⟨_, rfl⟩
    rw [hfr, hsl] at HI HP HEN ⊢
    obtain ⟨tA, tN, tC, eA, eN, eC, bA, bN, bC, sA, sN, sC⟩ := H
    unfold runV at HI ⊢
    simp only [] at HI HP HEN ⊢
    clear hR hB hfr hsl ho hZ hr hok hnL hX hX2 hXl
    go_enter Try.func43, Try.ntmps43
    go_wp2_with (first | (go_at_call 45; (with_reducible refine (HI.out _ (by (repeat' (first | (with_reducible exact Below.refl _ _) | (with_reducible assumption) | (with_reducible refine Below.alloc ?_ ?_ _) | (with_reducible refine Below.drew ?_) | (with_reducible refine Below.draws ?_ _) | (with_reducible refine Below.setCell ?_ ?_ _) | (refine Below.then ?_ (by with_reducible assumption)) | go_size)))).mono ?_); rintro e w1 ⟨rfl, hb1⟩; have B1 : Hid (Below w.heap.size w w1) := Lib.hid (Below.trans (by (repeat' (first | (with_reducible exact Below.refl _ _) | (with_reducible assumption) | (with_reducible refine Below.alloc ?_ ?_ _) | (with_reducible refine Below.drew ?_) | (with_reducible refine Below.draws ?_ _) | (with_reducible refine Below.setCell ?_ ?_ _) | (refine Below.then ?_ (by with_reducible assumption)) | go_size))) (hb1.mono (by simp))); have z1 : w.heap.size < w1.heap.size := Nat.lt_of_lt_of_le (by simp) hb1.size; have c1_0 := (hb1.cell (p := ⟨w.heap.size, 0, none⟩) (by simp)).trans (by simp [go_sem]; rfl); have c1_1 := (hb1.cell (p := ⟨w.heap.size, 1, none⟩) (by simp)).trans (by simp [go_sem]; rfl); have c1_2 := (hb1.cell (p := ⟨w.heap.size, 2, none⟩) (by simp)).trans (by simp [go_sem]; rfl); have c1_3 := (hb1.cell (p := ⟨w.heap.size, 3, none⟩) (by simp)).trans (by simp [go_sem]; rfl); have c1_4 := (hb1.cell (p := ⟨w.heap.size, 4, none⟩) (by simp)).trans (by simp [go_sem]; rfl); have c1_5 := (hb1.cell (p := ⟨w.heap.size, 5, none⟩) (by simp)).trans (by simp [go_sem]; rfl); clear hb1) | (go_at_call 46; (with_reducible refine (HP.out _ B1.out).mono ?_); rintro e w2 ⟨a2, n2, c2', rfl, h2, hb2⟩; have HO2 := Lib.hid (Rd.of_owns encE_len (by decide) h2); clear h2; have B2 := Lib.hid (Below.then B1.out hb2); have z2 : w.heap.size < w2.heap.size := Nat.lt_of_lt_of_le z1 hb2.size; have c2_0 := (hb2.cell (p := ⟨w.heap.size, 0, none⟩) z1).trans c1_0; have c2_1 := (hb2.cell (p := ⟨w.heap.size, 1, none⟩) z1).trans c1_1; have c2_2 := (hb2.cell (p := ⟨w.heap.size, 2, none⟩) z1).trans c1_2; have c2_3 := (hb2.cell (p := ⟨w.heap.size, 3, none⟩) z1).trans c1_3; have c2_4 := (hb2.cell (p := ⟨w.heap.size, 4, none⟩) z1).trans c1_4; have c2_5 := (hb2.cell (p := ⟨w.heap.size, 5, none⟩) z1).trans c1_5; clear hb2 c1_0 c1_1 c1_2 c1_3 c1_4 c1_5) | (go_at_call 66; (with_reducible refine (HEN.out _ _ _ _ B2.out HO2.out).mono ?_); rintro e w3 ⟨a3, rfl, h3, hb3⟩; have HX3 := Lib.hid h3; have HO3 := Lib.hid (HO2.out.ext hb3); clear h3; have B3 := Lib.hid (Below.then B2.out hb3); have z3 : w.heap.size < w3.heap.size := Nat.lt_of_lt_of_le z2 hb3.size; have c3_0 := (hb3.cell (p := ⟨w.heap.size, 0, none⟩) z2).trans c2_0; have c3_1 := (hb3.cell (p := ⟨w.heap.size, 1, none⟩) z2).trans c2_1; have c3_2 := (hb3.cell (p := ⟨w.heap.size, 2, none⟩) z2).trans c2_2; have c3_3 := (hb3.cell (p := ⟨w.heap.size, 3, none⟩) z2).trans c2_3; have c3_4 := (hb3.cell (p := ⟨w.heap.size, 4, none⟩) z2).trans c2_4; have c3_5 := (hb3.cell (p := ⟨w.heap.size, 5, none⟩) z2).trans c2_5; clear hb3 c2_0 c2_1 c2_2 c2_3 c2_4 c2_5))
    have hn2 : n2 ≤ 504000 := by rw [← HO2.out.length]; exact hol
    go_loopw [8, 26] (fun v8 v26 wr => ∃ k : Nat, k ≤ n2 ∧ v8 = .int .i64 (preF X (o.take k)).1 ∧ v26 = .int .i64 k ∧ Blk5 wr w3.heap.size (preF X (o.take k)).2 ∧ LastOk nL X (preF X (o.take k)).2 ∧ Below w3.heap.size w3 wr) (fun _ v _ => n2 - (intOf v).toNat)
    case atStart => exact ⟨0, Nat.zero_le _, rfl, rfl, ⟨by simp [go_sem]; rfl, by simp [go_sem]; rfl, by simp [go_sem]; rfl, by simp [go_sem]; rfl, by simp [go_sem]; rfl, fun j => by simp [go_sem], by simp⟩, .inl (show (-1 : Int) < 0 by decide), by (repeat' (first | (with_reducible exact Below.refl _ _) | (with_reducible assumption) | (with_reducible refine Below.alloc ?_ ?_ _) | (with_reducible refine Below.drew ?_) | (with_reducible refine Below.draws ?_ _) | (with_reducible refine Below.setCell ?_ ?_ _) | (refine Below.then ?_ (by with_reducible assumption)) | go_size))⟩
    case round =>
      obtain ⟨k, hk, rfl, rfl, hL5, hLO, hB⟩ := hrel
      have HB := Lib.hid hB; have HL5 := Lib.hid hL5; have HLO := Lib.hid hLO
      have hbd := preF_bd X o k
      by_cases hkn : k < n2
      · obtain ⟨x, b1, o1, rfl, hb1, hx, q0, q1, q2, q3, q4⟩ := (HO3.out.ext hB).en_at k hkn
        have htk := preF_take (X := X) hx
        have hmem := List.mem_of_getElem? hx
        have HX1 : Hid (x.w = 4 → LastOk nL X x) := Lib.hid (HOK.out x hmem)
        obtain ⟨⟨cn, l5⟩, hC⟩ : ∃ C, preF X (o.take k) = C := ⟨_, rfl⟩
        rw [hC] at htk hbd HLO HL5 ⊢
        obtain ⟨lm, lk, lw, la, lb⟩ := l5
        obtain ⟨m1, k1, w1', a1, c1⟩ := x
        have pz := hL5.z
        simp only [] at q0 q1 q2 q3 q4 hbd ⊢
        have wr1 : IntKind.i64.wrap (cn + 1) = cn + 1 := IntWalk.i64_in _ (by omega)
        have HX2 : Hid (w1' = 4 → LastOk nL X ⟨m1, k1, w1', a1, c1⟩) := Lib.hid HX1.out
        have hset : ∀ W0 W, Below wr.heap.size wr W0 → Below (set5 W0 w3.heap.size ⟨m1, k1, w1', a1, c1⟩).heap.size (set5 W0 w3.heap.size ⟨m1, k1, w1', a1, c1⟩) W → Blk5 W w3.heap.size ⟨m1, k1, w1', a1, c1⟩ ∧ Below w3.heap.size w3 W := fun W0 W h0 hW => ⟨((HL5.out.ext h0).set (x := ⟨m1, k1, w1', a1, c1⟩)).ext hW, Below.then (set5_below (Below.then HB.out h0) (Nat.le_refl _)) hW⟩
        have HSET := Lib.hid hset
        have HTK0 := Lib.hid htk
        clear hset hL5 hLO hB hx hC hmem hbd htk HX1
        go_upto_region 9 with fail
        (obtain ⟨we, hwe⟩ : ∃ x, x = wr.alloc (.cells #[.int .i64 m1, .int .i64 k1, .int .i64 w1', .int .i64 a1, .int .i64 c1] 43) := ⟨_, rfl⟩); have HBE : Hid (Below wr.heap.size wr we) := Lib.hid (by rw [hwe]; (repeat' (first | (with_reducible exact Below.refl _ _) | (with_reducible assumption) | (with_reducible refine Below.alloc ?_ ?_ _) | (with_reducible refine Below.drew ?_) | (with_reducible refine Below.draws ?_ _) | (with_reducible refine Below.setCell ?_ ?_ _) | (refine Below.then ?_ (by with_reducible assumption)) | go_size))); have HE5 : Hid (Blk5 we wr.heap.size ⟨m1, k1, w1', a1, c1⟩) := Lib.hid (by rw [hwe]; exact ⟨by simp [go_sem], by simp [go_sem], by simp [go_sem], by simp [go_sem], by simp [go_sem], fun j => by simp [go_sem], by simp⟩); rw [← hwe]; clear hwe
        have HBX := Lib.hid HBE.out
        obtain ⟨t0, t1, t2, t3, t4, tf, tz⟩ := HL5.out.ext HBE.out; obtain ⟨u0, u1, u2, u3, u4, uf, uz⟩ := HE5.out; simp only [] at t0 t1 t2 t3 t4 u0 u1 u2 u3 u4; have g0 := tf 0; have g1 := tf 1; have g2 := tf 2; have g3 := tf 3; have g4 := tf 4; clear tf uf
        by_cases h4 : w1' = 4
        · subst h4
          have htk := HTK0.out
          unfold preS at htk
          rw [if_pos rfl] at htk
          simp only [] at htk
          by_cases a1' : 0 ≤ lk
          · have b1' : decide (0 ≤ lk) = true := by simpa using a1'
            have hne : (lk ≠ k1 ∨ lb ≠ c1) ∨ (lk = k1 ∧ lb = c1) := by omega
            rcases hne with hne | ⟨rfl, rfl⟩
            · rcases HLO.out with g | ⟨i, xx, hi, hxx, hil, hxl⟩
              · exact absurd g (by simp only []; omega)
              simp only [] at hi hxx
              subst hi; subst hxx
              obtain ⟨xb, xoff, xa, en, xc, rfl, hxb, hxc, hxlen, hxR⟩ := (HX3.out.ext (Below.then HB.out HBX.out)).row hil
              obtain ⟨z, zb, zo, rfl, hzb, hzc, hz⟩ := hxR.idx xx (by omega)
              have hzz : ((X ((i : Nat) : Int).toNat)[((xx : Nat) : Int).toNat]?).getD 0 = z := by rw [Int.toNat_natCast, Int.toNat_natCast, hz]; rfl
              rw [hzz] at htk
              have hxen : xx < en := by omega
              have b2' : (((i : Int) != k1) = true ∨ (((i : Int) != k1) = false ∧ ((xx : Int) != c1) = true)) := by
                by_cases q : (i : Int) = k1
                · right; refine ⟨by simpa using q, ?_⟩
                  simp; omega
                · left; simpa using q
              have HTK1 := Lib.hid htk
              have HNE := Lib.hid hne
              clear htk hxR hz hzz hne hxlen hxl
              rcases b2' with b2' | ⟨b2', b3'⟩
              all_goals
                go_upto_region 11 with fail
                go_upto_region 12 with (refine wp_region_later_lit (by kernel_rfl) (by kernel_rfl) ?_; (repeat (go_big_quiet_step (fail))); refine wpQuiet_nil ?_; intro w7 hb7)
                have HBE := Lib.hid (Below.then HBX.out hb7)
                have HE5 := Lib.hid (HE5.out.ext hb7)
                clear t0 t1 t2 t3 t4 tz g0 g1 g2 g3 g4 u0 u1 u2 u3 u4 uz hzc hxc hb7
                obtain ⟨t0, t1, t2, t3, t4, tf, tz⟩ := HL5.out.ext HBE.out; obtain ⟨u0, u1, u2, u3, u4, uf, uz⟩ := HE5.out; simp only [] at t0 t1 t2 t3 t4 u0 u1 u2 u3 u4; have g0 := tf 0; have g1 := tf 1; have g2 := tf 2; have g3 := tf 3; have g4 := tf 4; clear tf uf
                have htk := HTK1.out
                have hq : (z < 0 ∨ m1 < z) ∨ ¬ (z < 0 ∨ m1 < z) := by omega
                rcases hq with hq | hq
                · rw [if_pos ⟨by omega, HNE.out, hq⟩] at htk
                  have HTK := Lib.hid htk
                  have hq' : decide (z < 0) = true ∨ (decide (z < 0) = false ∧ decide (m1 < z) = true) := by simp; omega
                  clear htk hq
                  rcases hq' with hq' | ⟨hq', hq''⟩
                  all_goals (go_wp2_with fail; go_roundw; (case rel => (obtain ⟨r1, r2⟩ := HSET.out _ _ HBE.out (by unfold set5; (repeat' (first | (with_reducible exact Below.refl _ _) | (with_reducible assumption) | (with_reducible refine Below.alloc ?_ ?_ _) | (with_reducible refine Below.drew ?_) | (with_reducible refine Below.draws ?_ _) | (with_reducible refine Below.setCell ?_ ?_ _) | (refine Below.then ?_ (by with_reducible assumption)) | go_size))); exact ⟨k + 1, hkn, by rw [HTK.out], by go_num, by rw [HTK.out]; exact r1, by rw [HTK.out]; exact HX2.out rfl, r2⟩)); (case measure => (simp [intOf]; omega)))
                · rw [if_neg (fun q => hq q.2.2)] at htk
                  have HTK := Lib.hid htk
                  have hq' : decide (z < 0) = false := by simp; omega
                  have hq'' : decide (m1 < z) = false := by simp; omega
                  clear htk hq
                  (go_wp2_with fail; go_roundw; (case rel => (obtain ⟨r1, r2⟩ := HSET.out _ _ HBE.out (by unfold set5; (repeat' (first | (with_reducible exact Below.refl _ _) | (with_reducible assumption) | (with_reducible refine Below.alloc ?_ ?_ _) | (with_reducible refine Below.drew ?_) | (with_reducible refine Below.draws ?_ _) | (with_reducible refine Below.setCell ?_ ?_ _) | (refine Below.then ?_ (by with_reducible assumption)) | go_size))); exact ⟨k + 1, hkn, by rw [HTK.out], by go_num, by rw [HTK.out]; exact r1, by rw [HTK.out]; exact HX2.out rfl, r2⟩)); (case measure => (simp [intOf]; omega)))
            · rw [if_neg (fun q => q.2.1.elim (fun h => h rfl) (fun h => h rfl))] at htk
              have HTK := Lib.hid htk
              clear htk
              (go_wp2_with fail; go_roundw; (case rel => (obtain ⟨r1, r2⟩ := HSET.out _ _ HBE.out (by unfold set5; (repeat' (first | (with_reducible exact Below.refl _ _) | (with_reducible assumption) | (with_reducible refine Below.alloc ?_ ?_ _) | (with_reducible refine Below.drew ?_) | (with_reducible refine Below.draws ?_ _) | (with_reducible refine Below.setCell ?_ ?_ _) | (refine Below.then ?_ (by with_reducible assumption)) | go_size))); exact ⟨k + 1, hkn, by rw [HTK.out], by go_num, by rw [HTK.out]; exact r1, by rw [HTK.out]; exact HX2.out rfl, r2⟩)); (case measure => (simp [intOf]; omega)))
          · have b1' : decide (0 ≤ lk) = false := by simpa using a1'
            rw [if_neg (fun q => a1' q.1)] at htk
            have HTK := Lib.hid htk
            clear htk
            (go_wp2_with fail; go_roundw; (case rel => (obtain ⟨r1, r2⟩ := HSET.out _ _ HBE.out (by unfold set5; (repeat' (first | (with_reducible exact Below.refl _ _) | (with_reducible assumption) | (with_reducible refine Below.alloc ?_ ?_ _) | (with_reducible refine Below.drew ?_) | (with_reducible refine Below.draws ?_ _) | (with_reducible refine Below.setCell ?_ ?_ _) | (refine Below.then ?_ (by with_reducible assumption)) | go_size))); exact ⟨k + 1, hkn, by rw [HTK.out], by go_num, by rw [HTK.out]; exact r1, by rw [HTK.out]; exact HX2.out rfl, r2⟩)); (case measure => (simp [intOf]; omega)))
        · have h4' : (w1' != 4) = true := by simpa using h4
          have htk := HTK0.out
          unfold preS at htk
          rw [if_neg h4] at htk
          have HTK := Lib.hid htk
          clear htk
          go_wp2_with fail
          go_roundw
          case rel => exact ⟨k + 1, hkn, by rw [HTK.out], by go_num, by rw [HTK.out]; exact HL5.out.ext HBE.out, by rw [HTK.out]; exact HLO.out, Below.then HB.out HBE.out⟩
          case measure => simp [intOf]; omega
      · rw [List.take_of_length_le (by rw [HO3.out.length]; omega), HZ.out]
        clear hL5 hLO hB hbd
        go_wp2
        go_ret2
        exact ⟨rfl, B3.out.trans (HB.out.mono B3.out.size)⟩
end Go.Proofs.Ytlhnhmimhpcoaaa
namespace Go.Proofs.Ytlhnhmimhpcoaaa
open Go.RowKit
set_option linter.unusedSimpArgs false
set_option linter.unusedVariables false
/-- sums -/
def sumL (f : Int → Int) : List Int → Int
  | [] => 0
  | k :: ks => f k + sumL f ks
theorem demL_sum {L : List Ta} {w : Int} : ∀ (ks : List Int) (n : Int), demL L w ks n = n + sumL (fun k => demT (taAt L k) w) ks
  | [], n => by simp [demL, sumL]
  | k :: ks, n => by
    have e : demL L w (k :: ks) n = demL L w ks (n + demT (taAt L k) w) := rfl
    rw [e, demL_sum ks, sumL]; omega
theorem sumL_le {f g : Int → Int} : ∀ (ks : List Int), (∀ k ∈ ks, f k ≤ g k) → sumL f ks ≤ sumL g ks
  | [], _ => Int.le_refl _
  | k :: ks, h => by
    have h1 := h k (by simp)
    have h2 := sumL_le ks (fun j hj => h j (by simp [hj]))
    rw [sumL, sumL]; omega
theorem sumL_add {f g : Int → Int} : ∀ (ks : List Int), sumL (fun k => f k + g k) ks = sumL f ks + sumL g ks
  | [] => rfl
  | k :: ks => by rw [sumL, sumL, sumL, sumL_add ks]; omega
theorem sumL_eq {f g : Int → Int} : ∀ (ks : List Int), (∀ k ∈ ks, f k = g k) → sumL f ks = sumL g ks
  | [], _ => rfl
  | k :: ks, h => by rw [sumL, sumL, h k (by simp), sumL_eq ks (fun j hj => h j (by simp [hj]))]
theorem sumL_app {f : Int → Int} : ∀ (ks js : List Int), sumL f (ks ++ js) = sumL f ks + sumL f js
  | [], js => by simp [sumL]
  | k :: ks, js => by rw [List.cons_append, sumL, sumL, sumL_app ks js]; omega
theorem sumL_upd {f g : Int → Int} {y d : Int} : ∀ (ks : List Int), ks.Nodup → y ∈ ks → g y = f y + d → (∀ k ∈ ks, k ≠ y → g k = f k) → sumL g ks = sumL f ks + d
  | [], _, h, _, _ => by simp at h
  | k :: ks, hn, hy, hg, hk => by
    rw [List.nodup_cons] at hn
    rw [sumL, sumL]
    by_cases e : k = y
    · subst e
      rw [hg, sumL_eq ks (fun j hj => hk j (by simp [hj]) (fun q => hn.1 (q ▸ hj)))]; omega
    · have hy' : y ∈ ks := by
        rcases List.mem_cons.1 hy with q | q
        · exact absurd q.symm e
        · exact q
      rw [hk k (by simp) e, sumL_upd ks hn.2 hy' hg (fun j hj hne => hk j (by simp [hj]) hne)]; omega
theorem sumL_zero {f : Int → Int} : ∀ (ks : List Int), (∀ k ∈ ks, 0 ≤ f k) → 0 ≤ sumL f ks ∧ (sumL f ks ≤ 0 → ∀ k ∈ ks, f k ≤ 0)
  | [], _ => ⟨Int.le_refl _, fun _ k hk => by simp at hk⟩
  | k :: ks, h => by
    have h1 := h k (by simp)
    obtain ⟨h2, h3⟩ := sumL_zero ks (fun j hj => h j (by simp [hj]))
    rw [sumL]
    refine ⟨by omega, fun h4 j hj => ?_⟩
    rcases List.mem_cons.1 hj with rfl | hj
    · omega
    · exact h3 (by omega) j hj
/-- the pieces that block -/
theorem blkP_has {L : List Ta} {t j : Int} : ∀ (ps : List P2) (k m : Nat) (p : P2), ps[m]? = some p → 0 ≤ p.2 → aheadB L t (ceilG L p.2) = false → (j, ((k + m : Nat) : Int)) ∈ blkP L t j k ps
  | [], _, _, _, h, _, _ => by simp at h
  | q :: ps, k, 0, p, h, h1, h2 => by
    simp at h; subst h
    rw [blkP, if_pos ⟨h1, h2⟩]; simp
  | q :: ps, k, m + 1, p, h, h1, h2 => by
    have := blkP_has (j := j) ps (k + 1) m p (by simpa using h) h1 h2
    rw [show k + 1 + m = k + (m + 1) by omega] at this
    rw [blkP]
    split
    · exact List.mem_cons_of_mem _ this
    · exact this
theorem blkFrom_has {L : List Ta} {t : Int} {y : Nat} {b : P2} (ha : aheadB L t y = true) (hb : b ∈ blkP L t y 0 (taAt L y).pcs) : ∀ (f j : Nat), j ≤ y → y < j + f → b ∈ blkFrom L t f j
  | 0, j, h1, h2 => by omega
  | f + 1, j, h1, h2 => by
    rw [blkFrom, List.mem_append]
    by_cases e : j = y
    · subst e; left; rw [if_pos ha]; exact hb
    · exact .inr (blkFrom_has ha hb f (j + 1) (by omega) (by omega))
theorem foldmax_ge {L : List Ta} {b : P2} : ∀ (bs : List P2) (m : Int), m ≤ bs.foldl (fun m b => max m (ticksAt L b)) m ∧ (b ∈ bs → ticksAt L b ≤ bs.foldl (fun m b => max m (ticksAt L b)) m)
  | [], m => ⟨Int.le_refl _, fun h => by simp at h⟩
  | c :: bs, m => by
    obtain ⟨h1, h2⟩ := foldmax_ge (L := L) (b := b) bs (max m (ticksAt L c))
    simp only [List.foldl_cons]
    refine ⟨by omega, fun h => ?_⟩
    rcases List.mem_cons.1 h with rfl | h
    · omega
    · exact h2 h
theorem blockN_ge {L : List Ta} {t : Int} {y p : Nat} (hy : y < L.length) (hp : p < (taAt L y).pcs.length) (ha : Ahead L t y) (hl : 0 ≤ lkA L y p) (hc : ¬ Ahead L t (ceilG L (lkA L y p))) : tkA L y p ≤ blockN L t := by
  have e : (taAt L y).pcs[p]? = some ((taAt L y).pcs[p]) := List.getElem?_eq_getElem hp
  have e2 : pcA L y p = (taAt L y).pcs[p] := by unfold pcA; rw [e]; rfl
  have h1 : ((y : Int), ((0 + p : Nat) : Int)) ∈ blkP L t y 0 (taAt L y).pcs := blkP_has _ 0 p _ e (by rw [← e2]; exact hl) (by rw [← e2]; exact aheadB_no.2 hc)
  have h2 := blkFrom_has (aheadB_iff.2 ha) h1 L.length 0 (Nat.zero_le _) (by omega)
  have h3 := (foldmax_ge (L := L) (b := ((y : Int), ((0 + p : Nat) : Int))) (blkFrom L t L.length 0) 0).2 h2
  have e3 : ticksAt L ((y : Int), ((0 + p : Nat) : Int)) = tkA L y p := by
    unfold ticksAt tkA pcA; simp
  rw [e3] at h3
  exact h3
/-- a job of a task behind i that is within a piece that blocks i -/
structure IsBk (L : List Ta) (s : Ms) (i y : Nat) : Prop where
  lt : y < L.length
  bh : cnt L i < cnt L y
  ins : insB L s y = true
  to_ : cnt L (toI L s y) ≤ cnt L i
section
variable {R : Rn} {s s' : Ms} {i y : Nat}
theorem IsBk.ticks (h : IsBk R.L s i y) (hm : MOk R s) (hi : i < R.L.length) : tkA R.L y (s.ja y).p ≤ blockN R.L i := by
  obtain ⟨h0, h1⟩ := insB_iff.1 h.ins
  have ht := (hm.to_ h.lt).1
  have e : toI R.L s y = ceilG R.L (lkA R.L y (s.ja y).p) := by unfold toI; rw [h.ins]; rfl
  refine blockN_ge h.lt (hm.pc y h.lt) ((cnt_ahead (by omega) (by omega) (by omega) (by have := h.lt; omega)).1 h.bh) h1 (fun q => ?_)
  rw [← e] at q
  have := (cnt_ahead (by omega) (by omega) ht.1 ht.2).2 q
  have := h.to_
  omega
theorem IsBk.one {z : Nat} (h : IsBk R.L s i y) (k : IsBk R.L s i z) (hm : MOk R s) : y = z := by
  by_cases e : y = z
  · exact e
  · have h1 := h.to_; have h2 := k.to_; have h3 := h.bh; have h4 := k.bh
    rcases hm.ce y z h.lt k.lt e h.ins k.ins with q | q <;> omega
theorem IsBk.of (h : IsBk R.L s' i y) (e : s'.ja y = s.ja y) : IsBk R.L s i y := ⟨h.lt, h.bh, by rw [← insB_eq e]; exact h.ins, by rw [← toI_eq e]; exact h.to_⟩
theorem IsBk.of2 (h : IsBk R.L s' i y) (e1 : (s'.ja y).p = (s.ja y).p) (e2 : (s'.ja y).t = (s.ja y).t) : IsBk R.L s i y := by
  have e : insB R.L s' y = insB R.L s y := by unfold insB; rw [e1, e2]
  have e3 : toI R.L s' y = toI R.L s y := by unfold toI; rw [e, e1]
  exact ⟨h.lt, h.bh, by rw [← e]; exact h.ins, by rw [← e3]; exact h.to_⟩
/-- while somebody not behind i is there, who works behind i blocks it -/
theorem Chosen.blk (h : Chosen R s y) (hm : MOk R s) {x : Nat} (hx : x < R.L.length) (hq : s.qa x ≠ []) (hc : cnt R.L x ≤ cnt R.L i) (hy : cnt R.L i < cnt R.L y) : IsBk R.L s i y := by
  have hk := h.le x hx hq
  have hto := (hm.to_ hx).2
  unfold keyI at hk
  have ho : ownI R.L s x ≤ 1 := by unfold ownI; split <;> omega
  have h1 : cnt R.L (toI R.L s y) ≤ cnt R.L i := by omega
  refine ⟨h.lt, hy, ?_, h1⟩
  cases hc : insB R.L s y
  · rw [toI_no hc] at h1; omega
  · rfl
theorem wkA_other {t : Int} (hm : MOk R s) (hy : y < R.L.length) {k : Nat} (hk : k ≠ y) : (wkA R t y s).ja k = s.ja k ∧ (wkA R t y s).qa k = s.qa k := by
  have hl : y < s.j.length := by rw [hm.jl]; exact hy
  have hql : y < s.q.length := by rw [hm.ql]; exact hy
  rw [wkA_cases]
  have h1 : (wk1 R t y s).ja k = s.ja k := by unfold wk1; rw [ja_set hl, if_neg hk]
  split
  · rw [fin_ja (by unfold wk1; simpa using hl), if_neg hk, fin_qa (by unfold wk1; exact hql), if_neg hk]
    exact ⟨h1, rfl⟩
  · split
    · exact ⟨by unfold wk2; rw [ja_set hl, if_neg hk], rfl⟩
    · exact ⟨h1, rfl⟩
theorem wkA_self {t : Int} (hm : MOk R s) (hy : y < R.L.length) :
    ((jbN R.L y (s.ja y)).p = (taAt R.L y).pcs.length ∧ (wkA R t y s).ja y = Jb.zero ∧ (wkA R t y s).qa y = (s.qa y).tail) ∨
    ((jbN R.L y (s.ja y)).p < (taAt R.L y).pcs.length ∧ (wkA R t y s).qa y = s.qa y ∧ ((wkA R t y s).ja y).p = (jbN R.L y (s.ja y)).p ∧ ((wkA R t y s).ja y).t = (jbN R.L y (s.ja y)).t ∧ ((wkA R t y s).ja y).d = (s.ja y).d + 1 ∧ (((wkA R t y s).ja y).s = (s.ja y).s ∨ (((s.ja y).d + 1 : Nat) : Int) = (R.bu[y]?).getD 0)) := by
  have hl : y < s.j.length := by rw [hm.jl]; exact hy
  have hql : y < s.q.length := by rw [hm.ql]; exact hy
  have hle : (jbN R.L y (s.ja y)).p ≤ (taAt R.L y).pcs.length := by
    have hpi := hm.pc y hy
    unfold jbN; split <;> simp only [] <;> omega
  have hs : (jbN R.L y (s.ja y)).s = (s.ja y).s := by unfold jbN; split <;> rfl
  rw [wkA_cases]
  split
  · rename_i e
    left
    rw [fin_ja (by unfold wk1; simpa using hl), if_pos rfl, fin_qa (by unfold wk1; exact hql), if_pos rfl]
    exact ⟨e, rfl, rfl⟩
  · rename_i e
    right
    refine ⟨by omega, ?_⟩
    split
    · rename_i e2
      refine ⟨rfl, ?_⟩
      unfold wk2
      rw [ja_set hl, if_pos rfl]
      rw [jbN_d] at e2
      exact ⟨rfl, rfl, jbN_d _ _ _, .inr e2⟩
    · refine ⟨rfl, ?_⟩
      unfold wk1
      rw [ja_set hl, if_pos rfl]
      exact ⟨rfl, rfl, jbN_d _ _ _, .inl hs⟩
/-- the budget of blocking -/
structure BkOk (L : List Ta) (s : Ms) (i : Nat) (b : Int) : Prop where
  pos : 0 ≤ b
  le : ∀ y, IsBk L s i y → tkA L y (s.ja y).p - (s.ja y).t ≤ b
theorem BkOk.start (hm : MOk R s) (hr : RnOk R) (hi : i < R.L.length) : BkOk R.L s i (blockN R.L i) :=
  ⟨(blockN_bd hr.r i).1, fun y h => by have := h.ticks hm hi; omega⟩
theorem BkOk.of {b : Int} (h : BkOk R.L s i b) (e : ∀ y, y < R.L.length → ((s'.ja y).p = (s.ja y).p ∧ (s'.ja y).t = (s.ja y).t) ∨ s'.ja y = Jb.zero) : BkOk R.L s' i b :=
  ⟨h.pos, fun y hy => by
    rcases e y hy.lt with ⟨e1, e2⟩ | e1
    · have := h.le y (hy.of2 e1 e2)
      rw [e1, e2]; exact this
    · have := hy.ins
      rw [ins_zero e1] at this; cases this⟩
/-- a tick of work, not behind i -/
theorem BkOk.fore {b : Int} {t : Int} (h : BkOk R.L s i b) (hm : MOk R s) (hy : y < R.L.length) (hc : cnt R.L y ≤ cnt R.L i) : BkOk R.L (wkA R t y s) i b :=
  ⟨h.pos, fun z hz => by
    have hne : z ≠ y := fun e => by have := hz.bh; rw [e] at this; omega
    have e := (wkA_other (t := t) hm hy hne).1
    have := h.le z (hz.of e)
    rw [e]; exact this⟩
/-- a tick of work behind i -/
theorem BkOk.back {b : Int} {t : Int} (h : BkOk R.L s i b) (hm : MOk R s) (hb : IsBk R.L s i y) : BkOk R.L (wkA R t y s) i (b - 1) := by
  have hy := hb.lt
  have h1 := h.le y hb
  have h2 := hm.tk y hy
  refine ⟨by omega, fun z hz => ?_⟩
  by_cases e : z = y
  · subst e
    rcases wkA_self (t := t) hm hy with ⟨_, e1, _⟩ | ⟨_, _, e1, e2, _⟩
    · have := hz.ins
      rw [ins_zero e1] at this; cases this
    · rw [e1, e2]
      have h3 := (insB_iff.1 hz.ins).1
      rw [e2] at h3
      unfold jbN at h3 ⊢
      split
      · rename_i q
        rw [if_pos q] at h3
        exact absurd h3 (Nat.lt_irrefl 0)
      · show tkA R.L z (s.ja z).p - (((s.ja z).t + 1 : Nat) : Int) ≤ b - 1
        omega
  · have e1 := (wkA_other (t := t) hm hy e).1
    exact absurd ((hz.of e1).one hb hm) e
end
/-- arrivals leave what has been done, or end jobs -/
theorem arr_ja {R : Rn} (hr : RnOk R) {t : Int} {s : Ms} (hm : MOk R s) (k : Nat) : (((arrA R t s).ja k).p = (s.ja k).p ∧ ((arrA R t s).ja k).t = (s.ja k).t) ∨ (arrA R t s).ja k = Jb.zero := by
  have hsig : ∀ (gs : List P2) {s : Ms}, MOk R s → (∀ g ∈ gs, 0 ≤ g.2 ∧ g.2 < R.L.length) → ((sigA t gs s).ja k).p = (s.ja k).p ∧ ((sigA t gs s).ja k).t = (s.ja k).t := by
    intro gs
    induction gs with
    | nil => exact fun _ _ => ⟨rfl, rfl⟩
    | cons g gs ih =>
      intro s hm hg
      obtain ⟨h1, h2⟩ := ih (hm.sigS t (hg g (by simp))) (fun x hx => hg x (by simp [hx]))
      rw [sigA, h1, h2]
      unfold sigS; split
      · unfold sig1
        have := hg g (by simp)
        rw [ja_set (by rw [hm.jl]; omega)]
        split
        · rename_i e; subst e; exact ⟨rfl, rfl⟩
        · exact ⟨rfl, rfl⟩
      · exact ⟨rfl, rfl⟩
  have hend : ∀ (f i : Nat) {s : Ms}, MOk R s → i + f = R.L.length → (endA R.L t f i s).ja k = s.ja k ∨ (endA R.L t f i s).ja k = Jb.zero := by
    intro f
    induction f with
    | zero => exact fun i s _ _ => .inl rfl
    | succ f ih =>
      intro i s hm e
      rw [endA]
      rcases ih (i + 1) (hm.endS hr t (by omega : i < R.L.length)) (by omega) with h | h
      · rw [h]
        unfold endS; split
        · rw [fin_ja (by rw [hm.jl]; omega)]
          split
          · exact .inr rfl
          · exact .inl rfl
        · exact .inl rfl
      · exact .inr h
  unfold arrA
  rcases hend R.L.length 0 (MOk.sigA t R.sg (hm.relA hr t) hr.sg) (by omega) with h | h
  · left
    rw [h]
    obtain ⟨h1, h2⟩ := hsig R.sg (hm.relA hr t) hr.sg
    rw [h1, h2, relA_ja hr hm]
    exact ⟨rfl, rfl⟩
  · exact .inr h
end Go.Proofs.Ytlhnhmimhpcoaaa
namespace Go.Proofs.Ytlhnhmimhpcoaaa
open Go.RowKit
set_option linter.unusedSimpArgs false
set_option linter.unusedVariables false
/-- the task whose rank a piece has -/
def raisA (L : List Ta) (y p : Nat) : Int := if 0 ≤ lkA L y p then ceilG L (lkA L y p) else y
/-- task x is ahead of the work of piece p of task y -/
def AheadW (L : List Ta) (x y p : Nat) : Prop := x < L.length ∧ cnt L x < cnt L y ∧ cnt L x < cnt L (raisA L y p)
structure RkI (R : Rn) (s : Ms) : Prop where
  h : ∀ e ∈ s.o, e.w = 4 → ∀ y p : Nat, e.k = (y : Int) → e.a = (p : Int) → ∀ x k : Nat, AheadW R.L x y p → k < (evA R x).length → relT (evA R x) k ≤ e.m → 0 ≤ endF s.o x k ∧ endF s.o x k ≤ e.m
theorem RkI.of {R : Rn} {s s' : Ms} (h : RkI R s) {l : List En} (ho : s'.o = s.o ++ l) (h5 : ∀ e ∈ l, e.w ≠ 5 ∧ e.w ≠ 4) : RkI R s' := by
  have he : ∀ i x, endF s'.o i x = endF s.o i x := fun i x => by rw [ho]; exact endF_app _ _ _ _ (fun e q r => (h5 e q).1 r.1)
  refine ⟨fun e q w4 y p hy hp x k ha hk hr => ?_⟩
  rw [he]
  rw [ho, List.mem_append] at q
  rcases q with q | q
  · exact h.h e q w4 y p hy hp x k ha hk hr
  · exact absurd w4 (h5 e q).2
theorem RkI.fin {R : Rn} {T : Int} {s : Ms} {at_ : List Nat} (h : RkI R s) (hE : EI R T s at_) {i a : Nat} {how : Int} (hi : i < R.L.length) (ha : at_[i]? = some a) (hx : (ordE (evA R i))[a]? = some (s.hd i)) : RkI R (fin1 T i how s) := by
  have ho : (fin1 T i how s).o = s.o ++ [⟨T, i, 5, s.hd i, how⟩] := rfl
  refine ⟨fun e q w4 y p hy hp x k hA hk hr => ?_⟩
  rw [ho, List.mem_append] at q
  rcases q with q | q
  · have h0 := h.h e q w4 y p hy hp x k hA hk hr
    have e1 : endF (fin1 T i how s).o x k = endF s.o x k := by
      rw [ho, endF_one]
      unfold endG
      rw [if_neg]
      rintro ⟨_, h1, h2⟩
      simp only [] at h1 h2
      have : i = x := by omega
      subst this
      have := hE.new i a a _ ha hx (Nat.le_refl _)
      rw [h2] at this
      omega
    rw [e1]; exact h0
  · simp at q; subst q; simp at w4
theorem ahead_idle {R : Rn} {s : Ms} {y : Nat} (hm : MOk R s) (hch : Chosen R s y) {x : Nat} (hA : AheadW R.L x y (s.ja y).p) : s.qa x = [] := by
  obtain ⟨hx, h1, h2⟩ := hA
  by_cases hq : s.qa x = []
  · exact hq
  · exfalso
    have hk := hch.le x hx hq
    have hto := (hm.to_ hx).2
    unfold keyI at hk
    have ho : ownI R.L s x ≤ 1 := by unfold ownI; split <;> omega
    have hle : cnt R.L (toI R.L s y) ≤ cnt R.L x := by omega
    cases hc : insB R.L s y
    · rw [toI_no hc] at hle; omega
    · have hl := (insB_iff.1 hc).2
      have e : toI R.L s y = raisA R.L y (s.ja y).p := by
        unfold toI raisA
        rw [hc, if_pos hl]; rfl
      rw [e] at hle; omega
theorem idle_ends {R : Rn} {t T : Int} {s : Ms} {at_ : List Nat} (hq : QR R t s at_) (hE : EI R T s at_) {x k : Nat} (hx : x < R.L.length) (h0 : s.qa x = []) (hk : k < (evA R x).length) (hr : relT (evA R x) k ≤ t) : 0 ≤ endF s.o x k ∧ endF s.o x k ≤ T := by
  have hil : x < at_.length := by rw [hq.len]; exact hx
  have ha := List.getElem?_eq_getElem hil
  obtain ⟨j, hj⟩ := List.getElem?_of_mem (ordE_mem (l := evA R x).2 ⟨show (0 : Int) ≤ (k : Int) by omega, by omega⟩)
  obtain ⟨g1, g2⟩ := hq.q x _ ha
  rw [h0] at g1
  have h2 := congrArg List.length g1
  rw [List.length_drop] at h2
  simp only [List.length_nil] at h2
  have hlt := ((outE_facts (evA R x) t).2 j _ hj).1 hr
  exact hE.old x _ j _ ha hj (by omega)
theorem RkI.work {R : Rn} {t : Int} {s : Ms} {at_ : List Nat} {i a : Nat} (h : RkI R s) (hE : EI R t s at_) (hm : MOk R s) (hq : QR R t s at_) (hch : Chosen R s i) (ha : at_[i]? = some a) : RkI R (wk1 R t i s) := by
  have ho : (wk1 R t i s).o = s.o ++ [⟨t, i, 4, (s.ja i).p, s.hd i⟩] := rfl
  refine ⟨fun e q w4 y p hy hp x k hA hk hr => ?_⟩
  have e1 : endF (wk1 R t i s).o x k = endF s.o x k := by rw [ho]; exact endF_app _ _ _ _ (fun e q r => by simp at q; subst q; simp at r)
  rw [e1]
  rw [ho, List.mem_append] at q
  rcases q with q | q
  · exact h.h e q w4 y p hy hp x k hA hk hr
  · simp at q; subst q
    simp only [] at hy hp hr ⊢
    obtain rfl : i = y := by omega
    obtain rfl : (s.ja i).p = p := by omega
    exact idle_ends hq hE hA.1 (ahead_idle hm hch hA) hk hr
theorem rk_steps {R : Rn} (hr : RnOk R) : Steps R (fun t s at_ => EI R t s at_ ∧ RkI R s) (fun t s at_ => EI R (t + 1) s at_ ∧ RkI R s) := by
  have hE := ends_steps hr
  refine ⟨?_, ?_, ?_, ?_, ?_, ?_, ?_, ?_⟩
  · intro t s at_ hm hq hp
    obtain ⟨l, h1, h2⟩ := relA_newE t R.ev 0 s
    exact ⟨hE.rel t s at_ hm hq hp.1, hp.2.of h1 (fun e q => by rw [(h2 e q).2]; decide)⟩
  · intro t s at_ i hm hq hi hn hp
    exact ⟨hE.sig t s at_ i hm hq hi hn hp.1, hp.2.of (l := [⟨t, i, 2, 0, 0⟩]) rfl (fun e q => by simp at q; subst q; simp)⟩
  · intro t s at_ i a hm hq hi hn ha hs hin hp
    exact ⟨hE.fin t s at_ i a hm hq hi hn ha hs hin hp.1, hp.2.fin hp.1 hi ha (hq.event ha hn)⟩
  · intro t s at_ hm hq hs hg hp
    exact ⟨hE.gc t s at_ hm hq hs hg hp.1, hp.2.of (l := [⟨t, -1, 3, 0, 0⟩]) rfl (fun e q => by simp at q; subst q; simp)⟩
  · intro t s at_ hm hq hs hg hn hp
    exact ⟨hE.idle t s at_ hm hq hs hg hn hp.1, hp.2⟩
  · intro t s at_ i a hm hq hs hg hch ha hfin hp
    refine ⟨hE.w0 t s at_ i a hm hq hs hg hch ha hfin hp.1, ?_⟩
    have h1 := hp.1.work hm hq hch ha
    exact (hp.2.work hp.1 hm hq hch ha).fin (s := wk1 R t i s) h1 hch.lt ha (hq.event ha hch.rd)
  · intro t s at_ i a hm hq hs hg hch ha hpl hbu hp
    exact ⟨hE.w1 t s at_ i a hm hq hs hg hch ha hpl hbu hp.1, hp.2.work hp.1 hm hq hch ha⟩
  · intro t s at_ i a hm hq hs hg hch ha hpl hbu hp
    refine ⟨hE.w2 t s at_ i a hm hq hs hg hch ha hpl hbu hp.1, ?_⟩
    exact (hp.2.work hp.1 hm hq hch ha).of (s' := wk2 R t i s) (l := [⟨t + 1, i, 6, s.hd i, 0⟩]) rfl (fun e q => by simp at q; subst q; simp)
theorem plM_rk {R : Rn} (hr : RnOk R) (k : Nat) : RkI R (plM R k) := by
  obtain ⟨at_, _, h1, h2⟩ := (rk_steps hr).run hr ⟨EI.zero hr, ⟨fun e q => by simp [ms0] at q⟩⟩ k
  exact h2
/-- those ahead of both, as the law takes them from the ranks -/
theorem ranks_before {L : List Ta} {i : Nat} {x : Int} (hx : (rankL L)[i]? = some x) {y r : Int} (hy0 : 0 ≤ y ∧ y < L.length) (hr0 : 0 ≤ r ∧ r < L.length) (h : ∀ j, j ≤ i → (rankL L)[j]? ≠ some r ∧ (rankL L)[j]? ≠ some y) : cnt L x < cnt L y ∧ cnt L x < cnt L r := by
  have e := rank_cnt hx
  have ey := rank_at hy0.1 hy0.2
  have er := rank_at hr0.1 hr0.2
  constructor
  · rcases Nat.lt_or_ge (cnt L x) (cnt L y) with q | q
    · exact q
    · exact absurd ey (h _ (by omega)).2
  · rcases Nat.lt_or_ge (cnt L x) (cnt L r) with q | q
    · exact q
    · exact absurd er (h _ (by omega)).1
end Go.Proofs.Ytlhnhmimhpcoaaa
namespace Go.Proofs.Ytlhnhmimhpcoaaa
open Go.RowKit
set_option linter.unusedSimpArgs false
set_option linter.unusedVariables false
def bhd (L : List Ta) (i : Nat) (k : Int) : Bool := decide (cnt L i < cnt L k)
def blkC (L : List Ta) (i : Nat) (r E : Int) (o : List En) : Int := cntE (blkE (bhd L i) r E) o
theorem cntE_eq {p q : En → Bool} : ∀ (a : List En), (∀ e ∈ a, p e = q e) → cntE p a = cntE q a
  | [], _ => rfl
  | e :: a, h => by rw [cntE, cntE, h e (by simp), cntE_eq a (fun x hx => h x (by simp [hx]))]
theorem blkE_no4 {b : Int → Bool} {r E : Int} {e : En} (h : e.w ≠ 4) : blkE b r E e = false := by unfold blkE; rw [decide_eq_false h]; rfl
theorem blkC_app {L : List Ta} {i : Nat} {r E : Int} (o l : List En) (h : ∀ e ∈ l, e.w ≠ 4) : blkC L i r E (o ++ l) = blkC L i r E o := by
  unfold blkC
  rw [cntE_app, cntE_none _ l (fun e he => blkE_no4 (h e he))]; omega
theorem blkC_early {L : List Ta} {i : Nat} {r E : Int} {o : List En} (h : ∀ e ∈ o, e.w = 4 → e.m < r) : blkC L i r E o = 0 := by
  unfold blkC
  refine cntE_none _ _ (fun e he => ?_)
  by_cases h4 : e.w = 4
  · unfold blkE
    have : ¬ r ≤ e.m := by have := h e he h4; omega
    simp [this]
  · exact blkE_no4 h4
/-- the end does not matter while all work lies ahead of it -/
theorem blkC_end {L : List Ta} {i : Nat} {r E E' : Int} {o : List En} (h1 : ∀ e ∈ o, e.w = 4 → E < 0 ∨ e.m < E) (h2 : ∀ e ∈ o, e.w = 4 → E' < 0 ∨ e.m < E') : blkC L i r E o = blkC L i r E' o := by
  unfold blkC
  refine cntE_eq _ (fun e he => ?_)
  by_cases h4 : e.w = 4
  · unfold blkE
    have a : (decide (E < 0) || decide (e.m < E)) = true := by have := h1 e he h4; simpa using this
    have b : (decide (E' < 0) || decide (e.m < E')) = true := by have := h2 e he h4; simpa using this
    rw [a, b]
  · rw [blkE_no4 h4, blkE_no4 h4]
structure BI (R : Rn) (i : Nat) (x r : Int) (s : Ms) : Prop where
  a : endF s.o i x < 0 → ∃ b, BkOk R.L s i b ∧ blkC R.L i r (-1) s.o + b ≤ blockN R.L i
  b : 0 ≤ endF s.o i x → blkC R.L i r (endF s.o i x) s.o ≤ blockN R.L i
section
variable {R : Rn} {i : Nat} {x r : Int} {s s' : Ms}
/-- entries without work and without ends; jobs as they were, or over -/
theorem BI.of (h : BI R i x r s) {l : List En} (ho : s'.o = s.o ++ l) (hl : ∀ e ∈ l, e.w ≠ 4 ∧ e.w ≠ 5) (e : ∀ y, y < R.L.length → ((s'.ja y).p = (s.ja y).p ∧ (s'.ja y).t = (s.ja y).t) ∨ s'.ja y = Jb.zero) : BI R i x r s' := by
  have he : endF s'.o i x = endF s.o i x := by rw [ho]; exact endF_app _ _ _ _ (fun e q r => (hl e q).2 r.1)
  have hc : ∀ E, blkC R.L i r E s'.o = blkC R.L i r E s.o := fun E => by rw [ho]; exact blkC_app _ _ (fun e q => (hl e q).1)
  refine ⟨fun h0 => ?_, fun h0 => ?_⟩
  · rw [he] at h0
    obtain ⟨b, h1, h2⟩ := h.a h0
    exact ⟨b, h1.of e, by rw [hc]; exact h2⟩
  · rw [he] at h0 ⊢
    rw [hc]; exact h.b h0
/-- a job is over at T: all work lies ahead of T -/
theorem BI.fin {T : Int} {at_ : List Nat} (h : BI R i x r s) (hm : MOk R s) (hE : EI R T s at_) {k a : Nat} {how : Int} (hk : k < R.L.length) (ha : at_[k]? = some a) (hx : (ordE (evA R k))[a]? = some (s.hd k)) : BI R i x r (fin1 T k how s) := by
  have ho : (fin1 T k how s).o = s.o ++ [⟨T, k, 5, s.hd k, how⟩] := rfl
  have hc : ∀ E, blkC R.L i r E (fin1 T k how s).o = blkC R.L i r E s.o := fun E => by rw [ho]; exact blkC_app _ _ (fun e q => by simp at q; subst q; simp)
  have hj := fun y => fin_ja (m := T) (how := how) (i := k) (k := y) (s := s) (by rw [hm.jl]; exact hk)
  have e : ∀ y, y < R.L.length → (((fin1 T k how s).ja y).p = (s.ja y).p ∧ ((fin1 T k how s).ja y).t = (s.ja y).t) ∨ (fin1 T k how s).ja y = Jb.zero := fun y _ => by
    rw [hj]
    by_cases q : y = k
    · rw [if_pos q]; exact .inr rfl
    · rw [if_neg q]; exact .inl ⟨rfl, rfl⟩
  by_cases q : k = i ∧ s.hd k = x
  · obtain ⟨rfl, q2⟩ := q
    have h0 : endF s.o k x = -1 := hE.new k a a x ha (by rw [hx, q2]) (Nat.le_refl _)
    have h1 : endF (fin1 T k how s).o k x = T := by
      rw [ho, endF_one]; unfold endG; rw [if_pos ⟨rfl, rfl, q2⟩]
    have hT := hE.pos
    refine ⟨fun h2 => by omega, fun _ => ?_⟩
    rw [h1, hc]
    obtain ⟨b, g1, g2⟩ := h.a (by omega)
    have := g1.pos
    have e2 : blkC R.L k r T s.o = blkC R.L k r (-1) s.o := blkC_end (fun e he w => .inr ((hE.okm e he).2.2 (.inr w))) (fun e he w => .inl (by omega))
    rw [e2]; omega
  · have h1 : endF (fin1 T k how s).o i x = endF s.o i x := by
      rw [ho, endF_one]; unfold endG
      rw [if_neg]
      rintro ⟨_, g1, g2⟩
      simp only [] at g1 g2
      exact q ⟨by omega, g2⟩
    refine ⟨fun h2 => ?_, fun h2 => ?_⟩
    · rw [h1] at h2
      obtain ⟨b, g1, g2⟩ := h.a h2
      exact ⟨b, g1.of e, by rw [hc]; exact g2⟩
    · rw [h1] at h2 ⊢
      rw [hc]; exact h.b h2
theorem wkA_o4 (R : Rn) (t : Int) (y : Nat) (s : Ms) : ∃ l2, (wkA R t y s).o = s.o ++ (⟨t, y, 4, (s.ja y).p, s.hd y⟩ :: l2) ∧ (∀ e ∈ l2, e.w ≠ 4) ∧ ((∀ e ∈ l2, e.w ≠ 5) ∨ l2 = [⟨t + 1, y, 5, s.hd y, 0⟩]) := by
  rw [wkA_cases]
  split
  · exact ⟨[⟨t + 1, y, 5, s.hd y, 0⟩], by simp [fin1, wk1]; rfl, fun e he => by simp at he; subst he; simp, .inr rfl⟩
  · split
    · exact ⟨[⟨t + 1, y, 6, s.hd y, 0⟩], by simp [wk2], fun e he => by simp at he; subst he; simp, .inl (fun e he => by simp at he; subst he; simp)⟩
    · exact ⟨[], by simp [wk1], fun e he => by simp at he, .inl (fun e he => by simp at he)⟩
theorem BI.work {t : Int} {at_ : List Nat} {y a : Nat} {xn : Nat} (h : BI R i xn r s) (hr : RnOk R) (hi : i < R.L.length) (hxl : xn < (evA R i).length) (hrel : relT (evA R i) xn = r) (hm : MOk R s) (hq : QR R t s at_) (hE : EI R t s at_) (hch : Chosen R s y) (ha : at_[y]? = some a) : BI R i xn r (wkA R t y s) := by
  have hx := hq.event ha hch.rd
  have hT := hE.pos
  obtain ⟨l2, ho, h4, h5⟩ := wkA_o4 R t y s
  have hmo := hm.wkA hr t hch.lt hch.le hch.rd
  -- the count
  have hone : ∀ E, blkC R.L i r E (wkA R t y s).o = blkC R.L i r E s.o + (if blkE (bhd R.L i) r E ⟨t, y, 4, (s.ja y).p, s.hd y⟩ = true then 1 else 0) := fun E => by
    unfold blkC
    rw [ho, cntE_app, cntE, cntE_none _ l2 (fun e he => blkE_no4 (h4 e he))]; omega
  have hend : endF (wkA R t y s).o i xn = endF s.o i xn ∨ (y = i ∧ s.hd y = xn ∧ endF s.o i xn = -1 ∧ endF (wkA R t y s).o i xn = t + 1) := by
    rcases h5 with h5 | rfl
    · left
      rw [ho]
      exact endF_app _ _ _ _ (fun e he q => by
        rcases List.mem_cons.1 he with rfl | he
        · simp at q
        · exact h5 e he q.1)
    · have e1 : endF (wkA R t y s).o i xn = endG i xn (endF s.o i xn) ⟨t + 1, y, 5, s.hd y, 0⟩ := by
        rw [ho, List.append_cons, endF_one]
        congr 1
        exact endF_app _ _ _ _ (fun e he q => by simp at he; subst he; simp at q)
      by_cases q : y = i ∧ s.hd y = xn
      · right
        refine ⟨q.1, q.2, ?_, ?_⟩
        · obtain ⟨rfl, q2⟩ := q
          exact hE.new y a a _ ha (by rw [hx, q2]) (Nat.le_refl _)
        · rw [e1]; unfold endG; rw [if_pos ⟨rfl, by simp only []; omega, q.2⟩]
      · left
        rw [e1]; unfold endG
        rw [if_neg]
        rintro ⟨_, g1, g2⟩
        simp only [] at g1 g2
        exact q ⟨by omega, g2⟩
  -- what the tick does while the job is not over
  have hopen : endF s.o i xn < 0 → ∃ b, BkOk R.L (wkA R t y s) i b ∧ blkC R.L i r (-1) (wkA R t y s).o + b ≤ blockN R.L i := by
    intro h0
    rcases Int.lt_or_le t r with htr | htr
    · refine ⟨_, BkOk.start hmo hr hi, ?_⟩
      rw [blkC_early (fun e he w => ?_)]
      · omega
      · rw [ho] at he
        rcases List.mem_append.1 he with he | he
        · have := (hE.okm e he).2.2 (.inr w); omega
        · rcases List.mem_cons.1 he with rfl | he
          · exact htr
          · exact absurd w (h4 e he)
    · obtain ⟨b, h1, h2⟩ := h.a h0
      have hqi : s.qa i ≠ [] := fun q => by
        have := idle_ends hq hE hi q hxl (by rw [hrel]; exact htr)
        omega
      rw [hone]
      by_cases hyb : cnt R.L i < cnt R.L y
      · have hbk := hch.blk hm hi hqi (Nat.le_refl _) hyb
        refine ⟨b - 1, h1.back hm hbk, ?_⟩
        split <;> omega
      · refine ⟨b, h1.fore hm hch.lt (by omega), ?_⟩
        rw [if_neg]
        · omega
        · unfold blkE bhd
          simp only []
          rw [decide_eq_false hyb]; simp
  refine ⟨fun h0 => ?_, fun h0 => ?_⟩
  · rcases hend with e | ⟨_, _, _, e⟩
    · rw [e] at h0; exact hopen h0
    · omega
  · rcases hend with e | ⟨rfl, q2, q3, e⟩
    · rw [e] at h0 ⊢
      rw [hone]
      have hle : endF s.o i xn ≤ t := by
        obtain ⟨j, hj⟩ := List.getElem?_of_mem (ordE_mem (l := evA R i).2 ⟨show (0 : Int) ≤ (xn : Int) by omega, by omega⟩)
        have hil : i < at_.length := by rw [hq.len]; exact hi
        have ha' := List.getElem?_eq_getElem hil
        rcases Nat.lt_or_ge j at_[i] with g | g
        · exact (hE.old i _ j _ ha' hj g).2
        · have := hE.new i _ j _ ha' hj g; omega
      rw [if_neg]
      · have := h.b h0; omega
      · unfold blkE
        simp only []
        rw [show (decide (endF s.o i xn < 0) || decide (t < endF s.o i xn)) = false by simp; omega]; simp
    · obtain ⟨b, g1, g2⟩ := hopen (by omega)
      have := g1.pos
      rw [e]
      have e2 : blkC R.L y r (t + 1) (wkA R t y s).o = blkC R.L y r (-1) (wkA R t y s).o := blkC_end (fun e he w => .inr (by
        rw [ho] at he
        rcases List.mem_append.1 he with he | he
        · have := (hE.okm e he).2.2 (.inr w); omega
        · rcases List.mem_cons.1 he with rfl | he
          · simp only []; omega
          · exact absurd w (h4 e he))) (fun e he w => .inl (by omega))
      rw [e2]; omega
end
theorem blk_steps {R : Rn} (hr : RnOk R) {i x : Nat} (hi : i < R.L.length) (hx : x < (evA R i).length) :
    Steps R (fun t s at_ => EI R t s at_ ∧ BI R i x (relT (evA R i) x) s) (fun t s at_ => EI R (t + 1) s at_ ∧ BI R i x (relT (evA R i) x) s) := by
  have hE := ends_steps hr
  refine ⟨?_, ?_, ?_, ?_, ?_, ?_, ?_, ?_⟩
  · intro t s at_ hm hq hp
    obtain ⟨l, h1, h2⟩ := relA_newE t R.ev 0 s
    exact ⟨hE.rel t s at_ hm hq hp.1, hp.2.of h1 (fun e q => by rw [(h2 e q).2]; decide) (fun y _ => .inl (by rw [relA_ja hr hm]; exact ⟨rfl, rfl⟩))⟩
  · intro t s at_ k hm hq hk hn hp
    refine ⟨hE.sig t s at_ k hm hq hk hn hp.1, hp.2.of (l := [⟨t, k, 2, 0, 0⟩]) rfl (fun e q => by simp at q; subst q; simp) (fun y _ => .inl ?_)⟩
    unfold sig1
    rw [ja_set (by rw [hm.jl]; exact hk)]
    split
    · rename_i e; subst e; exact ⟨rfl, rfl⟩
    · exact ⟨rfl, rfl⟩
  · intro t s at_ k a hm hq hk hn ha hs hin hp
    exact ⟨hE.fin t s at_ k a hm hq hk hn ha hs hin hp.1, hp.2.fin hm hp.1 hk ha (hq.event ha hn)⟩
  · intro t s at_ hm hq hs hg hp
    exact ⟨hE.gc t s at_ hm hq hs hg hp.1, hp.2.of (l := [⟨t, -1, 3, 0, 0⟩]) rfl (fun e q => by simp at q; subst q; simp) (fun y _ => .inl ⟨rfl, rfl⟩)⟩
  · intro t s at_ hm hq hs hg hn hp
    exact ⟨hE.idle t s at_ hm hq hs hg hn hp.1, hp.2⟩
  · intro t s at_ y a hm hq hs hg hch ha hfin hp
    have := hp.2.work hr hi hx rfl hm hq hp.1 hch ha
    rw [wkA_cases, if_pos hfin] at this
    exact ⟨hE.w0 t s at_ y a hm hq hs hg hch ha hfin hp.1, this⟩
  · intro t s at_ y a hm hq hs hg hch ha hpl hbu hp
    have := hp.2.work hr hi hx rfl hm hq hp.1 hch ha
    rw [wkA_cases, if_neg (by omega), if_neg hbu] at this
    exact ⟨hE.w1 t s at_ y a hm hq hs hg hch ha hpl hbu hp.1, this⟩
  · intro t s at_ y a hm hq hs hg hch ha hpl hbu hp
    have := hp.2.work hr hi hx rfl hm hq hp.1 hch ha
    rw [wkA_cases, if_neg (by omega), if_pos hbu] at this
    exact ⟨hE.w2 t s at_ y a hm hq hs hg hch ha hpl hbu hp.1, this⟩
theorem blk_le {R : Rn} (hr : RnOk R) {i x : Nat} (hi : i < R.L.length) (hx : x < (evA R i).length) (k : Nat) : blkC R.L i (relT (evA R i) x) (endF (plM R k).o i x) (plM R k).o ≤ blockN R.L i := by
  have h0 : BI R i x (relT (evA R i) x) (ms0 R.L.length) := by
    refine ⟨fun _ => ⟨_, BkOk.start (MOk.zero hr) hr hi, ?_⟩, fun h => ?_⟩
    · show (0 : Int) + _ ≤ _
      omega
    · exact absurd h (show ¬ (0 : Int) ≤ -1 by decide)
  obtain ⟨at_, _, h1, h2⟩ := (blk_steps hr hi hx).run hr ⟨EI.zero hr, h0⟩ k
  by_cases hc : endF (plM R k).o i x < 0
  · obtain ⟨b, g1, g2⟩ := h2.a hc
    have := g1.pos
    rw [blkC_end (E' := -1) (fun e _ _ => .inl hc) (fun e _ _ => .inl (by omega))]; omega
  · exact h2.b (by omega)
end Go.Proofs.Ytlhnhmimhpcoaaa
namespace Go.Proofs.Ytlhnhmimhpcoaaa
open Go.RowKit
set_option linter.unusedSimpArgs false
set_option linter.unusedVariables false
section
variable {P : Program} {md : Region.Mode} {Q : Exit → Act → World → Prop} {S : World → Prop} {fuel : Nat} {listed : Array Bool} {a : Act} {w : World} {v : Value} {o0 o1 o2 o3 o4 o5 o6 o7 o8 o9 o10 o11 o12 o13 o14 o15 o16 o17 o18 o19 o20 o21 o22 o23 o24 o25 o26 o27 o28 o29 : Oper}
theorem tk30_0 (hs : Region.noSelect #[o0, o1, o2, o3, o4, o5, o6, o7, o8, o9, o10, o11, o12, o13, o14, o15, o16, o17, o18, o19, o20, o21, o22, o23, o24, o25, o26, o27, o28, o29] = true) (hf : Region.free md #[o0, o1, o2, o3, o4, o5, o6, o7, o8, o9, o10, o11, o12, o13, o14, o15, o16, o17, o18, o19, o20, o21, o22, o23, o24, o25, o26, o27, o28, o29] listed 0 = true) (hr : (Region.ready md #[o0, o1, o2, o3, o4, o5, o6, o7, o8, o9, o10, o11, o12, o13, o14, o15, o16, o17, o18, o19, o20, o21, o22, o23, o24, o25, o26, o27, o28, o29] listed).contains 0 = true) (hQ : ∀ c a w, Q (.panic c) (a.put o0.dst v) w → Q (.panic c) a w) (hy : YieldsIf P #[o0, o1, o2, o3, o4, o5, o6, o7, o8, o9, o10, o11, o12, o13, o14, o15, o16, o17, o18, o19, o20, o21, o22, o23, o24, o25, o26, o27, o28, o29] S o0 v a) (hS : S w) (h : wpAnyH P md #[o0, o1, o2, o3, o4, o5, o6, o7, o8, o9, o10, o11, o12, o13, o14, o15, o16, o17, o18, o19, o20, o21, o22, o23, o24, o25, o26, o27, o28, o29] Q S fuel (listed.setIfInBounds 0 true) (a.put o0.dst v) w) : wpAnyH P md #[o0, o1, o2, o3, o4, o5, o6, o7, o8, o9, o10, o11, o12, o13, o14, o15, o16, o17, o18, o19, o20, o21, o22, o23, o24, o25, o26, o27, o28, o29] Q S (fuel + 1) listed a w := wpAnyH_take (i := 0) (oi := o0) rfl hs hf hr hQ hy hS h
theorem tk30_1 (hs : Region.noSelect #[o0, o1, o2, o3, o4, o5, o6, o7, o8, o9, o10, o11, o12, o13, o14, o15, o16, o17, o18, o19, o20, o21, o22, o23, o24, o25, o26, o27, o28, o29] = true) (hf : Region.free md #[o0, o1, o2, o3, o4, o5, o6, o7, o8, o9, o10, o11, o12, o13, o14, o15, o16, o17, o18, o19, o20, o21, o22, o23, o24, o25, o26, o27, o28, o29] listed 1 = true) (hr : (Region.ready md #[o0, o1, o2, o3, o4, o5, o6, o7, o8, o9, o10, o11, o12, o13, o14, o15, o16, o17, o18, o19, o20, o21, o22, o23, o24, o25, o26, o27, o28, o29] listed).contains 1 = true) (hQ : ∀ c a w, Q (.panic c) (a.put o1.dst v) w → Q (.panic c) a w) (hy : YieldsIf P #[o0, o1, o2, o3, o4, o5, o6, o7, o8, o9, o10, o11, o12, o13, o14, o15, o16, o17, o18, o19, o20, o21, o22, o23, o24, o25, o26, o27, o28, o29] S o1 v a) (hS : S w) (h : wpAnyH P md #[o0, o1, o2, o3, o4, o5, o6, o7, o8, o9, o10, o11, o12, o13, o14, o15, o16, o17, o18, o19, o20, o21, o22, o23, o24, o25, o26, o27, o28, o29] Q S fuel (listed.setIfInBounds 1 true) (a.put o1.dst v) w) : wpAnyH P md #[o0, o1, o2, o3, o4, o5, o6, o7, o8, o9, o10, o11, o12, o13, o14, o15, o16, o17, o18, o19, o20, o21, o22, o23, o24, o25, o26, o27, o28, o29] Q S (fuel + 1) listed a w := wpAnyH_take (i := 1) (oi := o1) rfl hs hf hr hQ hy hS h
theorem tk30_2 (hs : Region.noSelect #[o0, o1, o2, o3, o4, o5, o6, o7, o8, o9, o10, o11, o12, o13, o14, o15, o16, o17, o18, o19, o20, o21, o22, o23, o24, o25, o26, o27, o28, o29] = true) (hf : Region.free md #[o0, o1, o2, o3, o4, o5, o6, o7, o8, o9, o10, o11, o12, o13, o14, o15, o16, o17, o18, o19, o20, o21, o22, o23, o24, o25, o26, o27, o28, o29] listed 2 = true) (hr : (Region.ready md #[o0, o1, o2, o3, o4, o5, o6, o7, o8, o9, o10, o11, o12, o13, o14, o15, o16, o17, o18, o19, o20, o21, o22, o23, o24, o25, o26, o27, o28, o29] listed).contains 2 = true) (hQ : ∀ c a w, Q (.panic c) (a.put o2.dst v) w → Q (.panic c) a w) (hy : YieldsIf P #[o0, o1, o2, o3, o4, o5, o6, o7, o8, o9, o10, o11, o12, o13, o14, o15, o16, o17, o18, o19, o20, o21, o22, o23, o24, o25, o26, o27, o28, o29] S o2 v a) (hS : S w) (h : wpAnyH P md #[o0, o1, o2, o3, o4, o5, o6, o7, o8, o9, o10, o11, o12, o13, o14, o15, o16, o17, o18, o19, o20, o21, o22, o23, o24, o25, o26, o27, o28, o29] Q S fuel (listed.setIfInBounds 2 true) (a.put o2.dst v) w) : wpAnyH P md #[o0, o1, o2, o3, o4, o5, o6, o7, o8, o9, o10, o11, o12, o13, o14, o15, o16, o17, o18, o19, o20, o21, o22, o23, o24, o25, o26, o27, o28, o29] Q S (fuel + 1) listed a w := wpAnyH_take (i := 2) (oi := o2) rfl hs hf hr hQ hy hS h
theorem tk30_3 (hs : Region.noSelect #[o0, o1, o2, o3, o4, o5, o6, o7, o8, o9, o10, o11, o12, o13, o14, o15, o16, o17, o18, o19, o20, o21, o22, o23, o24, o25, o26, o27, o28, o29] = true) (hf : Region.free md #[o0, o1, o2, o3, o4, o5, o6, o7, o8, o9, o10, o11, o12, o13, o14, o15, o16, o17, o18, o19, o20, o21, o22, o23, o24, o25, o26, o27, o28, o29] listed 3 = true) (hr : (Region.ready md #[o0, o1, o2, o3, o4, o5, o6, o7, o8, o9, o10, o11, o12, o13, o14, o15, o16, o17, o18, o19, o20, o21, o22, o23, o24, o25, o26, o27, o28, o29] listed).contains 3 = true) (hQ : ∀ c a w, Q (.panic c) (a.put o3.dst v) w → Q (.panic c) a w) (hy : YieldsIf P #[o0, o1, o2, o3, o4, o5, o6, o7, o8, o9, o10, o11, o12, o13, o14, o15, o16, o17, o18, o19, o20, o21, o22, o23, o24, o25, o26, o27, o28, o29] S o3 v a) (hS : S w) (h : wpAnyH P md #[o0, o1, o2, o3, o4, o5, o6, o7, o8, o9, o10, o11, o12, o13, o14, o15, o16, o17, o18, o19, o20, o21, o22, o23, o24, o25, o26, o27, o28, o29] Q S fuel (listed.setIfInBounds 3 true) (a.put o3.dst v) w) : wpAnyH P md #[o0, o1, o2, o3, o4, o5, o6, o7, o8, o9, o10, o11, o12, o13, o14, o15, o16, o17, o18, o19, o20, o21, o22, o23, o24, o25, o26, o27, o28, o29] Q S (fuel + 1) listed a w := wpAnyH_take (i := 3) (oi := o3) rfl hs hf hr hQ hy hS h
theorem tk30_4 (hs : Region.noSelect #[o0, o1, o2, o3, o4, o5, o6, o7, o8, o9, o10, o11, o12, o13, o14, o15, o16, o17, o18, o19, o20, o21, o22, o23, o24, o25, o26, o27, o28, o29] = true) (hf : Region.free md #[o0, o1, o2, o3, o4, o5, o6, o7, o8, o9, o10, o11, o12, o13, o14, o15, o16, o17, o18, o19, o20, o21, o22, o23, o24, o25, o26, o27, o28, o29] listed 4 = true) (hr : (Region.ready md #[o0, o1, o2, o3, o4, o5, o6, o7, o8, o9, o10, o11, o12, o13, o14, o15, o16, o17, o18, o19, o20, o21, o22, o23, o24, o25, o26, o27, o28, o29] listed).contains 4 = true) (hQ : ∀ c a w, Q (.panic c) (a.put o4.dst v) w → Q (.panic c) a w) (hy : YieldsIf P #[o0, o1, o2, o3, o4, o5, o6, o7, o8, o9, o10, o11, o12, o13, o14, o15, o16, o17, o18, o19, o20, o21, o22, o23, o24, o25, o26, o27, o28, o29] S o4 v a) (hS : S w) (h : wpAnyH P md #[o0, o1, o2, o3, o4, o5, o6, o7, o8, o9, o10, o11, o12, o13, o14, o15, o16, o17, o18, o19, o20, o21, o22, o23, o24, o25, o26, o27, o28, o29] Q S fuel (listed.setIfInBounds 4 true) (a.put o4.dst v) w) : wpAnyH P md #[o0, o1, o2, o3, o4, o5, o6, o7, o8, o9, o10, o11, o12, o13, o14, o15, o16, o17, o18, o19, o20, o21, o22, o23, o24, o25, o26, o27, o28, o29] Q S (fuel + 1) listed a w := wpAnyH_take (i := 4) (oi := o4) rfl hs hf hr hQ hy hS h
theorem tk30_5 (hs : Region.noSelect #[o0, o1, o2, o3, o4, o5, o6, o7, o8, o9, o10, o11, o12, o13, o14, o15, o16, o17, o18, o19, o20, o21, o22, o23, o24, o25, o26, o27, o28, o29] = true) (hf : Region.free md #[o0, o1, o2, o3, o4, o5, o6, o7, o8, o9, o10, o11, o12, o13, o14, o15, o16, o17, o18, o19, o20, o21, o22, o23, o24, o25, o26, o27, o28, o29] listed 5 = true) (hr : (Region.ready md #[o0, o1, o2, o3, o4, o5, o6, o7, o8, o9, o10, o11, o12, o13, o14, o15, o16, o17, o18, o19, o20, o21, o22, o23, o24, o25, o26, o27, o28, o29] listed).contains 5 = true) (hQ : ∀ c a w, Q (.panic c) (a.put o5.dst v) w → Q (.panic c) a w) (hy : YieldsIf P #[o0, o1, o2, o3, o4, o5, o6, o7, o8, o9, o10, o11, o12, o13, o14, o15, o16, o17, o18, o19, o20, o21, o22, o23, o24, o25, o26, o27, o28, o29] S o5 v a) (hS : S w) (h : wpAnyH P md #[o0, o1, o2, o3, o4, o5, o6, o7, o8, o9, o10, o11, o12, o13, o14, o15, o16, o17, o18, o19, o20, o21, o22, o23, o24, o25, o26, o27, o28, o29] Q S fuel (listed.setIfInBounds 5 true) (a.put o5.dst v) w) : wpAnyH P md #[o0, o1, o2, o3, o4, o5, o6, o7, o8, o9, o10, o11, o12, o13, o14, o15, o16, o17, o18, o19, o20, o21, o22, o23, o24, o25, o26, o27, o28, o29] Q S (fuel + 1) listed a w := wpAnyH_take (i := 5) (oi := o5) rfl hs hf hr hQ hy hS h
theorem tk30_6 (hs : Region.noSelect #[o0, o1, o2, o3, o4, o5, o6, o7, o8, o9, o10, o11, o12, o13, o14, o15, o16, o17, o18, o19, o20, o21, o22, o23, o24, o25, o26, o27, o28, o29] = true) (hf : Region.free md #[o0, o1, o2, o3, o4, o5, o6, o7, o8, o9, o10, o11, o12, o13, o14, o15, o16, o17, o18, o19, o20, o21, o22, o23, o24, o25, o26, o27, o28, o29] listed 6 = true) (hr : (Region.ready md #[o0, o1, o2, o3, o4, o5, o6, o7, o8, o9, o10, o11, o12, o13, o14, o15, o16, o17, o18, o19, o20, o21, o22, o23, o24, o25, o26, o27, o28, o29] listed).contains 6 = true) (hQ : ∀ c a w, Q (.panic c) (a.put o6.dst v) w → Q (.panic c) a w) (hy : YieldsIf P #[o0, o1, o2, o3, o4, o5, o6, o7, o8, o9, o10, o11, o12, o13, o14, o15, o16, o17, o18, o19, o20, o21, o22, o23, o24, o25, o26, o27, o28, o29] S o6 v a) (hS : S w) (h : wpAnyH P md #[o0, o1, o2, o3, o4, o5, o6, o7, o8, o9, o10, o11, o12, o13, o14, o15, o16, o17, o18, o19, o20, o21, o22, o23, o24, o25, o26, o27, o28, o29] Q S fuel (listed.setIfInBounds 6 true) (a.put o6.dst v) w) : wpAnyH P md #[o0, o1, o2, o3, o4, o5, o6, o7, o8, o9, o10, o11, o12, o13, o14, o15, o16, o17, o18, o19, o20, o21, o22, o23, o24, o25, o26, o27, o28, o29] Q S (fuel + 1) listed a w := wpAnyH_take (i := 6) (oi := o6) rfl hs hf hr hQ hy hS h
theorem tk30_7 (hs : Region.noSelect #[o0, o1, o2, o3, o4, o5, o6, o7, o8, o9, o10, o11, o12, o13, o14, o15, o16, o17, o18, o19, o20, o21, o22, o23, o24, o25, o26, o27, o28, o29] = true) (hf : Region.free md #[o0, o1, o2, o3, o4, o5, o6, o7, o8, o9, o10, o11, o12, o13, o14, o15, o16, o17, o18, o19, o20, o21, o22, o23, o24, o25, o26, o27, o28, o29] listed 7 = true) (hr : (Region.ready md #[o0, o1, o2, o3, o4, o5, o6, o7, o8, o9, o10, o11, o12, o13, o14, o15, o16, o17, o18, o19, o20, o21, o22, o23, o24, o25, o26, o27, o28, o29] listed).contains 7 = true) (hQ : ∀ c a w, Q (.panic c) (a.put o7.dst v) w → Q (.panic c) a w) (hy : YieldsIf P #[o0, o1, o2, o3, o4, o5, o6, o7, o8, o9, o10, o11, o12, o13, o14, o15, o16, o17, o18, o19, o20, o21, o22, o23, o24, o25, o26, o27, o28, o29] S o7 v a) (hS : S w) (h : wpAnyH P md #[o0, o1, o2, o3, o4, o5, o6, o7, o8, o9, o10, o11, o12, o13, o14, o15, o16, o17, o18, o19, o20, o21, o22, o23, o24, o25, o26, o27, o28, o29] Q S fuel (listed.setIfInBounds 7 true) (a.put o7.dst v) w) : wpAnyH P md #[o0, o1, o2, o3, o4, o5, o6, o7, o8, o9, o10, o11, o12, o13, o14, o15, o16, o17, o18, o19, o20, o21, o22, o23, o24, o25, o26, o27, o28, o29] Q S (fuel + 1) listed a w := wpAnyH_take (i := 7) (oi := o7) rfl hs hf hr hQ hy hS h
theorem tk30_8 (hs : Region.noSelect #[o0, o1, o2, o3, o4, o5, o6, o7, o8, o9, o10, o11, o12, o13, o14, o15, o16, o17, o18, o19, o20, o21, o22, o23, o24, o25, o26, o27, o28, o29] = true) (hf : Region.free md #[o0, o1, o2, o3, o4, o5, o6, o7, o8, o9, o10, o11, o12, o13, o14, o15, o16, o17, o18, o19, o20, o21, o22, o23, o24, o25, o26, o27, o28, o29] listed 8 = true) (hr : (Region.ready md #[o0, o1, o2, o3, o4, o5, o6, o7, o8, o9, o10, o11, o12, o13, o14, o15, o16, o17, o18, o19, o20, o21, o22, o23, o24, o25, o26, o27, o28, o29] listed).contains 8 = true) (hQ : ∀ c a w, Q (.panic c) (a.put o8.dst v) w → Q (.panic c) a w) (hy : YieldsIf P #[o0, o1, o2, o3, o4, o5, o6, o7, o8, o9, o10, o11, o12, o13, o14, o15, o16, o17, o18, o19, o20, o21, o22, o23, o24, o25, o26, o27, o28, o29] S o8 v a) (hS : S w) (h : wpAnyH P md #[o0, o1, o2, o3, o4, o5, o6, o7, o8, o9, o10, o11, o12, o13, o14, o15, o16, o17, o18, o19, o20, o21, o22, o23, o24, o25, o26, o27, o28, o29] Q S fuel (listed.setIfInBounds 8 true) (a.put o8.dst v) w) : wpAnyH P md #[o0, o1, o2, o3, o4, o5, o6, o7, o8, o9, o10, o11, o12, o13, o14, o15, o16, o17, o18, o19, o20, o21, o22, o23, o24, o25, o26, o27, o28, o29] Q S (fuel + 1) listed a w := wpAnyH_take (i := 8) (oi := o8) rfl hs hf hr hQ hy hS h
theorem tk30_9 (hs : Region.noSelect #[o0, o1, o2, o3, o4, o5, o6, o7, o8, o9, o10, o11, o12, o13, o14, o15, o16, o17, o18, o19, o20, o21, o22, o23, o24, o25, o26, o27, o28, o29] = true) (hf : Region.free md #[o0, o1, o2, o3, o4, o5, o6, o7, o8, o9, o10, o11, o12, o13, o14, o15, o16, o17, o18, o19, o20, o21, o22, o23, o24, o25, o26, o27, o28, o29] listed 9 = true) (hr : (Region.ready md #[o0, o1, o2, o3, o4, o5, o6, o7, o8, o9, o10, o11, o12, o13, o14, o15, o16, o17, o18, o19, o20, o21, o22, o23, o24, o25, o26, o27, o28, o29] listed).contains 9 = true) (hQ : ∀ c a w, Q (.panic c) (a.put o9.dst v) w → Q (.panic c) a w) (hy : YieldsIf P #[o0, o1, o2, o3, o4, o5, o6, o7, o8, o9, o10, o11, o12, o13, o14, o15, o16, o17, o18, o19, o20, o21, o22, o23, o24, o25, o26, o27, o28, o29] S o9 v a) (hS : S w) (h : wpAnyH P md #[o0, o1, o2, o3, o4, o5, o6, o7, o8, o9, o10, o11, o12, o13, o14, o15, o16, o17, o18, o19, o20, o21, o22, o23, o24, o25, o26, o27, o28, o29] Q S fuel (listed.setIfInBounds 9 true) (a.put o9.dst v) w) : wpAnyH P md #[o0, o1, o2, o3, o4, o5, o6, o7, o8, o9, o10, o11, o12, o13, o14, o15, o16, o17, o18, o19, o20, o21, o22, o23, o24, o25, o26, o27, o28, o29] Q S (fuel + 1) listed a w := wpAnyH_take (i := 9) (oi := o9) rfl hs hf hr hQ hy hS h
theorem tk30_10 (hs : Region.noSelect #[o0, o1, o2, o3, o4, o5, o6, o7, o8, o9, o10, o11, o12, o13, o14, o15, o16, o17, o18, o19, o20, o21, o22, o23, o24, o25, o26, o27, o28, o29] = true) (hf : Region.free md #[o0, o1, o2, o3, o4, o5, o6, o7, o8, o9, o10, o11, o12, o13, o14, o15, o16, o17, o18, o19, o20, o21, o22, o23, o24, o25, o26, o27, o28, o29] listed 10 = true) (hr : (Region.ready md #[o0, o1, o2, o3, o4, o5, o6, o7, o8, o9, o10, o11, o12, o13, o14, o15, o16, o17, o18, o19, o20, o21, o22, o23, o24, o25, o26, o27, o28, o29] listed).contains 10 = true) (hQ : ∀ c a w, Q (.panic c) (a.put o10.dst v) w → Q (.panic c) a w) (hy : YieldsIf P #[o0, o1, o2, o3, o4, o5, o6, o7, o8, o9, o10, o11, o12, o13, o14, o15, o16, o17, o18, o19, o20, o21, o22, o23, o24, o25, o26, o27, o28, o29] S o10 v a) (hS : S w) (h : wpAnyH P md #[o0, o1, o2, o3, o4, o5, o6, o7, o8, o9, o10, o11, o12, o13, o14, o15, o16, o17, o18, o19, o20, o21, o22, o23, o24, o25, o26, o27, o28, o29] Q S fuel (listed.setIfInBounds 10 true) (a.put o10.dst v) w) : wpAnyH P md #[o0, o1, o2, o3, o4, o5, o6, o7, o8, o9, o10, o11, o12, o13, o14, o15, o16, o17, o18, o19, o20, o21, o22, o23, o24, o25, o26, o27, o28, o29] Q S (fuel + 1) listed a w := wpAnyH_take (i := 10) (oi := o10) rfl hs hf hr hQ hy hS h
theorem tk30_11 (hs : Region.noSelect #[o0, o1, o2, o3, o4, o5, o6, o7, o8, o9, o10, o11, o12, o13, o14, o15, o16, o17, o18, o19, o20, o21, o22, o23, o24, o25, o26, o27, o28, o29] = true) (hf : Region.free md #[o0, o1, o2, o3, o4, o5, o6, o7, o8, o9, o10, o11, o12, o13, o14, o15, o16, o17, o18, o19, o20, o21, o22, o23, o24, o25, o26, o27, o28, o29] listed 11 = true) (hr : (Region.ready md #[o0, o1, o2, o3, o4, o5, o6, o7, o8, o9, o10, o11, o12, o13, o14, o15, o16, o17, o18, o19, o20, o21, o22, o23, o24, o25, o26, o27, o28, o29] listed).contains 11 = true) (hQ : ∀ c a w, Q (.panic c) (a.put o11.dst v) w → Q (.panic c) a w) (hy : YieldsIf P #[o0, o1, o2, o3, o4, o5, o6, o7, o8, o9, o10, o11, o12, o13, o14, o15, o16, o17, o18, o19, o20, o21, o22, o23, o24, o25, o26, o27, o28, o29] S o11 v a) (hS : S w) (h : wpAnyH P md #[o0, o1, o2, o3, o4, o5, o6, o7, o8, o9, o10, o11, o12, o13, o14, o15, o16, o17, o18, o19, o20, o21, o22, o23, o24, o25, o26, o27, o28, o29] Q S fuel (listed.setIfInBounds 11 true) (a.put o11.dst v) w) : wpAnyH P md #[o0, o1, o2, o3, o4, o5, o6, o7, o8, o9, o10, o11, o12, o13, o14, o15, o16, o17, o18, o19, o20, o21, o22, o23, o24, o25, o26, o27, o28, o29] Q S (fuel + 1) listed a w := wpAnyH_take (i := 11) (oi := o11) rfl hs hf hr hQ hy hS h
theorem tk30_12 (hs : Region.noSelect #[o0, o1, o2, o3, o4, o5, o6, o7, o8, o9, o10, o11, o12, o13, o14, o15, o16, o17, o18, o19, o20, o21, o22, o23, o24, o25, o26, o27, o28, o29] = true) (hf : Region.free md #[o0, o1, o2, o3, o4, o5, o6, o7, o8, o9, o10, o11, o12, o13, o14, o15, o16, o17, o18, o19, o20, o21, o22, o23, o24, o25, o26, o27, o28, o29] listed 12 = true) (hr : (Region.ready md #[o0, o1, o2, o3, o4, o5, o6, o7, o8, o9, o10, o11, o12, o13, o14, o15, o16, o17, o18, o19, o20, o21, o22, o23, o24, o25, o26, o27, o28, o29] listed).contains 12 = true) (hQ : ∀ c a w, Q (.panic c) (a.put o12.dst v) w → Q (.panic c) a w) (hy : YieldsIf P #[o0, o1, o2, o3, o4, o5, o6, o7, o8, o9, o10, o11, o12, o13, o14, o15, o16, o17, o18, o19, o20, o21, o22, o23, o24, o25, o26, o27, o28, o29] S o12 v a) (hS : S w) (h : wpAnyH P md #[o0, o1, o2, o3, o4, o5, o6, o7, o8, o9, o10, o11, o12, o13, o14, o15, o16, o17, o18, o19, o20, o21, o22, o23, o24, o25, o26, o27, o28, o29] Q S fuel (listed.setIfInBounds 12 true) (a.put o12.dst v) w) : wpAnyH P md #[o0, o1, o2, o3, o4, o5, o6, o7, o8, o9, o10, o11, o12, o13, o14, o15, o16, o17, o18, o19, o20, o21, o22, o23, o24, o25, o26, o27, o28, o29] Q S (fuel + 1) listed a w := wpAnyH_take (i := 12) (oi := o12) rfl hs hf hr hQ hy hS h
theorem tk30_13 (hs : Region.noSelect #[o0, o1, o2, o3, o4, o5, o6, o7, o8, o9, o10, o11, o12, o13, o14, o15, o16, o17, o18, o19, o20, o21, o22, o23, o24, o25, o26, o27, o28, o29] = true) (hf : Region.free md #[o0, o1, o2, o3, o4, o5, o6, o7, o8, o9, o10, o11, o12, o13, o14, o15, o16, o17, o18, o19, o20, o21, o22, o23, o24, o25, o26, o27, o28, o29] listed 13 = true) (hr : (Region.ready md #[o0, o1, o2, o3, o4, o5, o6, o7, o8, o9, o10, o11, o12, o13, o14, o15, o16, o17, o18, o19, o20, o21, o22, o23, o24, o25, o26, o27, o28, o29] listed).contains 13 = true) (hQ : ∀ c a w, Q (.panic c) (a.put o13.dst v) w → Q (.panic c) a w) (hy : YieldsIf P #[o0, o1, o2, o3, o4, o5, o6, o7, o8, o9, o10, o11, o12, o13, o14, o15, o16, o17, o18, o19, o20, o21, o22, o23, o24, o25, o26, o27, o28, o29] S o13 v a) (hS : S w) (h : wpAnyH P md #[o0, o1, o2, o3, o4, o5, o6, o7, o8, o9, o10, o11, o12, o13, o14, o15, o16, o17, o18, o19, o20, o21, o22, o23, o24, o25, o26, o27, o28, o29] Q S fuel (listed.setIfInBounds 13 true) (a.put o13.dst v) w) : wpAnyH P md #[o0, o1, o2, o3, o4, o5, o6, o7, o8, o9, o10, o11, o12, o13, o14, o15, o16, o17, o18, o19, o20, o21, o22, o23, o24, o25, o26, o27, o28, o29] Q S (fuel + 1) listed a w := wpAnyH_take (i := 13) (oi := o13) rfl hs hf hr hQ hy hS h
theorem tk30_14 (hs : Region.noSelect #[o0, o1, o2, o3, o4, o5, o6, o7, o8, o9, o10, o11, o12, o13, o14, o15, o16, o17, o18, o19, o20, o21, o22, o23, o24, o25, o26, o27, o28, o29] = true) (hf : Region.free md #[o0, o1, o2, o3, o4, o5, o6, o7, o8, o9, o10, o11, o12, o13, o14, o15, o16, o17, o18, o19, o20, o21, o22, o23, o24, o25, o26, o27, o28, o29] listed 14 = true) (hr : (Region.ready md #[o0, o1, o2, o3, o4, o5, o6, o7, o8, o9, o10, o11, o12, o13, o14, o15, o16, o17, o18, o19, o20, o21, o22, o23, o24, o25, o26, o27, o28, o29] listed).contains 14 = true) (hQ : ∀ c a w, Q (.panic c) (a.put o14.dst v) w → Q (.panic c) a w) (hy : YieldsIf P #[o0, o1, o2, o3, o4, o5, o6, o7, o8, o9, o10, o11, o12, o13, o14, o15, o16, o17, o18, o19, o20, o21, o22, o23, o24, o25, o26, o27, o28, o29] S o14 v a) (hS : S w) (h : wpAnyH P md #[o0, o1, o2, o3, o4, o5, o6, o7, o8, o9, o10, o11, o12, o13, o14, o15, o16, o17, o18, o19, o20, o21, o22, o23, o24, o25, o26, o27, o28, o29] Q S fuel (listed.setIfInBounds 14 true) (a.put o14.dst v) w) : wpAnyH P md #[o0, o1, o2, o3, o4, o5, o6, o7, o8, o9, o10, o11, o12, o13, o14, o15, o16, o17, o18, o19, o20, o21, o22, o23, o24, o25, o26, o27, o28, o29] Q S (fuel + 1) listed a w := wpAnyH_take (i := 14) (oi := o14) rfl hs hf hr hQ hy hS h
theorem tk30_15 (hs : Region.noSelect #[o0, o1, o2, o3, o4, o5, o6, o7, o8, o9, o10, o11, o12, o13, o14, o15, o16, o17, o18, o19, o20, o21, o22, o23, o24, o25, o26, o27, o28, o29] = true) (hf : Region.free md #[o0, o1, o2, o3, o4, o5, o6, o7, o8, o9, o10, o11, o12, o13, o14, o15, o16, o17, o18, o19, o20, o21, o22, o23, o24, o25, o26, o27, o28, o29] listed 15 = true) (hr : (Region.ready md #[o0, o1, o2, o3, o4, o5, o6, o7, o8, o9, o10, o11, o12, o13, o14, o15, o16, o17, o18, o19, o20, o21, o22, o23, o24, o25, o26, o27, o28, o29] listed).contains 15 = true) (hQ : ∀ c a w, Q (.panic c) (a.put o15.dst v) w → Q (.panic c) a w) (hy : YieldsIf P #[o0, o1, o2, o3, o4, o5, o6, o7, o8, o9, o10, o11, o12, o13, o14, o15, o16, o17, o18, o19, o20, o21, o22, o23, o24, o25, o26, o27, o28, o29] S o15 v a) (hS : S w) (h : wpAnyH P md #[o0, o1, o2, o3, o4, o5, o6, o7, o8, o9, o10, o11, o12, o13, o14, o15, o16, o17, o18, o19, o20, o21, o22, o23, o24, o25, o26, o27, o28, o29] Q S fuel (listed.setIfInBounds 15 true) (a.put o15.dst v) w) : wpAnyH P md #[o0, o1, o2, o3, o4, o5, o6, o7, o8, o9, o10, o11, o12, o13, o14, o15, o16, o17, o18, o19, o20, o21, o22, o23, o24, o25, o26, o27, o28, o29] Q S (fuel + 1) listed a w := wpAnyH_take (i := 15) (oi := o15) rfl hs hf hr hQ hy hS h
theorem tk30_16 (hs : Region.noSelect #[o0, o1, o2, o3, o4, o5, o6, o7, o8, o9, o10, o11, o12, o13, o14, o15, o16, o17, o18, o19, o20, o21, o22, o23, o24, o25, o26, o27, o28, o29] = true) (hf : Region.free md #[o0, o1, o2, o3, o4, o5, o6, o7, o8, o9, o10, o11, o12, o13, o14, o15, o16, o17, o18, o19, o20, o21, o22, o23, o24, o25, o26, o27, o28, o29] listed 16 = true) (hr : (Region.ready md #[o0, o1, o2, o3, o4, o5, o6, o7, o8, o9, o10, o11, o12, o13, o14, o15, o16, o17, o18, o19, o20, o21, o22, o23, o24, o25, o26, o27, o28, o29] listed).contains 16 = true) (hQ : ∀ c a w, Q (.panic c) (a.put o16.dst v) w → Q (.panic c) a w) (hy : YieldsIf P #[o0, o1, o2, o3, o4, o5, o6, o7, o8, o9, o10, o11, o12, o13, o14, o15, o16, o17, o18, o19, o20, o21, o22, o23, o24, o25, o26, o27, o28, o29] S o16 v a) (hS : S w) (h : wpAnyH P md #[o0, o1, o2, o3, o4, o5, o6, o7, o8, o9, o10, o11, o12, o13, o14, o15, o16, o17, o18, o19, o20, o21, o22, o23, o24, o25, o26, o27, o28, o29] Q S fuel (listed.setIfInBounds 16 true) (a.put o16.dst v) w) : wpAnyH P md #[o0, o1, o2, o3, o4, o5, o6, o7, o8, o9, o10, o11, o12, o13, o14, o15, o16, o17, o18, o19, o20, o21, o22, o23, o24, o25, o26, o27, o28, o29] Q S (fuel + 1) listed a w := wpAnyH_take (i := 16) (oi := o16) rfl hs hf hr hQ hy hS h
theorem tk30_17 (hs : Region.noSelect #[o0, o1, o2, o3, o4, o5, o6, o7, o8, o9, o10, o11, o12, o13, o14, o15, o16, o17, o18, o19, o20, o21, o22, o23, o24, o25, o26, o27, o28, o29] = true) (hf : Region.free md #[o0, o1, o2, o3, o4, o5, o6, o7, o8, o9, o10, o11, o12, o13, o14, o15, o16, o17, o18, o19, o20, o21, o22, o23, o24, o25, o26, o27, o28, o29] listed 17 = true) (hr : (Region.ready md #[o0, o1, o2, o3, o4, o5, o6, o7, o8, o9, o10, o11, o12, o13, o14, o15, o16, o17, o18, o19, o20, o21, o22, o23, o24, o25, o26, o27, o28, o29] listed).contains 17 = true) (hQ : ∀ c a w, Q (.panic c) (a.put o17.dst v) w → Q (.panic c) a w) (hy : YieldsIf P #[o0, o1, o2, o3, o4, o5, o6, o7, o8, o9, o10, o11, o12, o13, o14, o15, o16, o17, o18, o19, o20, o21, o22, o23, o24, o25, o26, o27, o28, o29] S o17 v a) (hS : S w) (h : wpAnyH P md #[o0, o1, o2, o3, o4, o5, o6, o7, o8, o9, o10, o11, o12, o13, o14, o15, o16, o17, o18, o19, o20, o21, o22, o23, o24, o25, o26, o27, o28, o29] Q S fuel (listed.setIfInBounds 17 true) (a.put o17.dst v) w) : wpAnyH P md #[o0, o1, o2, o3, o4, o5, o6, o7, o8, o9, o10, o11, o12, o13, o14, o15, o16, o17, o18, o19, o20, o21, o22, o23, o24, o25, o26, o27, o28, o29] Q S (fuel + 1) listed a w := wpAnyH_take (i := 17) (oi := o17) rfl hs hf hr hQ hy hS h
theorem tk30_18 (hs : Region.noSelect #[o0, o1, o2, o3, o4, o5, o6, o7, o8, o9, o10, o11, o12, o13, o14, o15, o16, o17, o18, o19, o20, o21, o22, o23, o24, o25, o26, o27, o28, o29] = true) (hf : Region.free md #[o0, o1, o2, o3, o4, o5, o6, o7, o8, o9, o10, o11, o12, o13, o14, o15, o16, o17, o18, o19, o20, o21, o22, o23, o24, o25, o26, o27, o28, o29] listed 18 = true) (hr : (Region.ready md #[o0, o1, o2, o3, o4, o5, o6, o7, o8, o9, o10, o11, o12, o13, o14, o15, o16, o17, o18, o19, o20, o21, o22, o23, o24, o25, o26, o27, o28, o29] listed).contains 18 = true) (hQ : ∀ c a w, Q (.panic c) (a.put o18.dst v) w → Q (.panic c) a w) (hy : YieldsIf P #[o0, o1, o2, o3, o4, o5, o6, o7, o8, o9, o10, o11, o12, o13, o14, o15, o16, o17, o18, o19, o20, o21, o22, o23, o24, o25, o26, o27, o28, o29] S o18 v a) (hS : S w) (h : wpAnyH P md #[o0, o1, o2, o3, o4, o5, o6, o7, o8, o9, o10, o11, o12, o13, o14, o15, o16, o17, o18, o19, o20, o21, o22, o23, o24, o25, o26, o27, o28, o29] Q S fuel (listed.setIfInBounds 18 true) (a.put o18.dst v) w) : wpAnyH P md #[o0, o1, o2, o3, o4, o5, o6, o7, o8, o9, o10, o11, o12, o13, o14, o15, o16, o17, o18, o19, o20, o21, o22, o23, o24, o25, o26, o27, o28, o29] Q S (fuel + 1) listed a w := wpAnyH_take (i := 18) (oi := o18) rfl hs hf hr hQ hy hS h
theorem tk30_19 (hs : Region.noSelect #[o0, o1, o2, o3, o4, o5, o6, o7, o8, o9, o10, o11, o12, o13, o14, o15, o16, o17, o18, o19, o20, o21, o22, o23, o24, o25, o26, o27, o28, o29] = true) (hf : Region.free md #[o0, o1, o2, o3, o4, o5, o6, o7, o8, o9, o10, o11, o12, o13, o14, o15, o16, o17, o18, o19, o20, o21, o22, o23, o24, o25, o26, o27, o28, o29] listed 19 = true) (hr : (Region.ready md #[o0, o1, o2, o3, o4, o5, o6, o7, o8, o9, o10, o11, o12, o13, o14, o15, o16, o17, o18, o19, o20, o21, o22, o23, o24, o25, o26, o27, o28, o29] listed).contains 19 = true) (hQ : ∀ c a w, Q (.panic c) (a.put o19.dst v) w → Q (.panic c) a w) (hy : YieldsIf P #[o0, o1, o2, o3, o4, o5, o6, o7, o8, o9, o10, o11, o12, o13, o14, o15, o16, o17, o18, o19, o20, o21, o22, o23, o24, o25, o26, o27, o28, o29] S o19 v a) (hS : S w) (h : wpAnyH P md #[o0, o1, o2, o3, o4, o5, o6, o7, o8, o9, o10, o11, o12, o13, o14, o15, o16, o17, o18, o19, o20, o21, o22, o23, o24, o25, o26, o27, o28, o29] Q S fuel (listed.setIfInBounds 19 true) (a.put o19.dst v) w) : wpAnyH P md #[o0, o1, o2, o3, o4, o5, o6, o7, o8, o9, o10, o11, o12, o13, o14, o15, o16, o17, o18, o19, o20, o21, o22, o23, o24, o25, o26, o27, o28, o29] Q S (fuel + 1) listed a w := wpAnyH_take (i := 19) (oi := o19) rfl hs hf hr hQ hy hS h
theorem tk30_20 (hs : Region.noSelect #[o0, o1, o2, o3, o4, o5, o6, o7, o8, o9, o10, o11, o12, o13, o14, o15, o16, o17, o18, o19, o20, o21, o22, o23, o24, o25, o26, o27, o28, o29] = true) (hf : Region.free md #[o0, o1, o2, o3, o4, o5, o6, o7, o8, o9, o10, o11, o12, o13, o14, o15, o16, o17, o18, o19, o20, o21, o22, o23, o24, o25, o26, o27, o28, o29] listed 20 = true) (hr : (Region.ready md #[o0, o1, o2, o3, o4, o5, o6, o7, o8, o9, o10, o11, o12, o13, o14, o15, o16, o17, o18, o19, o20, o21, o22, o23, o24, o25, o26, o27, o28, o29] listed).contains 20 = true) (hQ : ∀ c a w, Q (.panic c) (a.put o20.dst v) w → Q (.panic c) a w) (hy : YieldsIf P #[o0, o1, o2, o3, o4, o5, o6, o7, o8, o9, o10, o11, o12, o13, o14, o15, o16, o17, o18, o19, o20, o21, o22, o23, o24, o25, o26, o27, o28, o29] S o20 v a) (hS : S w) (h : wpAnyH P md #[o0, o1, o2, o3, o4, o5, o6, o7, o8, o9, o10, o11, o12, o13, o14, o15, o16, o17, o18, o19, o20, o21, o22, o23, o24, o25, o26, o27, o28, o29] Q S fuel (listed.setIfInBounds 20 true) (a.put o20.dst v) w) : wpAnyH P md #[o0, o1, o2, o3, o4, o5, o6, o7, o8, o9, o10, o11, o12, o13, o14, o15, o16, o17, o18, o19, o20, o21, o22, o23, o24, o25, o26, o27, o28, o29] Q S (fuel + 1) listed a w := wpAnyH_take (i := 20) (oi := o20) rfl hs hf hr hQ hy hS h
theorem tk30_22 (hs : Region.noSelect #[o0, o1, o2, o3, o4, o5, o6, o7, o8, o9, o10, o11, o12, o13, o14, o15, o16, o17, o18, o19, o20, o21, o22, o23, o24, o25, o26, o27, o28, o29] = true) (hf : Region.free md #[o0, o1, o2, o3, o4, o5, o6, o7, o8, o9, o10, o11, o12, o13, o14, o15, o16, o17, o18, o19, o20, o21, o22, o23, o24, o25, o26, o27, o28, o29] listed 22 = true) (hr : (Region.ready md #[o0, o1, o2, o3, o4, o5, o6, o7, o8, o9, o10, o11, o12, o13, o14, o15, o16, o17, o18, o19, o20, o21, o22, o23, o24, o25, o26, o27, o28, o29] listed).contains 22 = true) (hQ : ∀ c a w, Q (.panic c) (a.put o22.dst v) w → Q (.panic c) a w) (hy : YieldsIf P #[o0, o1, o2, o3, o4, o5, o6, o7, o8, o9, o10, o11, o12, o13, o14, o15, o16, o17, o18, o19, o20, o21, o22, o23, o24, o25, o26, o27, o28, o29] S o22 v a) (hS : S w) (h : wpAnyH P md #[o0, o1, o2, o3, o4, o5, o6, o7, o8, o9, o10, o11, o12, o13, o14, o15, o16, o17, o18, o19, o20, o21, o22, o23, o24, o25, o26, o27, o28, o29] Q S fuel (listed.setIfInBounds 22 true) (a.put o22.dst v) w) : wpAnyH P md #[o0, o1, o2, o3, o4, o5, o6, o7, o8, o9, o10, o11, o12, o13, o14, o15, o16, o17, o18, o19, o20, o21, o22, o23, o24, o25, o26, o27, o28, o29] Q S (fuel + 1) listed a w := wpAnyH_take (i := 22) (oi := o22) rfl hs hf hr hQ hy hS h
theorem tk30_23 (hs : Region.noSelect #[o0, o1, o2, o3, o4, o5, o6, o7, o8, o9, o10, o11, o12, o13, o14, o15, o16, o17, o18, o19, o20, o21, o22, o23, o24, o25, o26, o27, o28, o29] = true) (hf : Region.free md #[o0, o1, o2, o3, o4, o5, o6, o7, o8, o9, o10, o11, o12, o13, o14, o15, o16, o17, o18, o19, o20, o21, o22, o23, o24, o25, o26, o27, o28, o29] listed 23 = true) (hr : (Region.ready md #[o0, o1, o2, o3, o4, o5, o6, o7, o8, o9, o10, o11, o12, o13, o14, o15, o16, o17, o18, o19, o20, o21, o22, o23, o24, o25, o26, o27, o28, o29] listed).contains 23 = true) (hQ : ∀ c a w, Q (.panic c) (a.put o23.dst v) w → Q (.panic c) a w) (hy : YieldsIf P #[o0, o1, o2, o3, o4, o5, o6, o7, o8, o9, o10, o11, o12, o13, o14, o15, o16, o17, o18, o19, o20, o21, o22, o23, o24, o25, o26, o27, o28, o29] S o23 v a) (hS : S w) (h : wpAnyH P md #[o0, o1, o2, o3, o4, o5, o6, o7, o8, o9, o10, o11, o12, o13, o14, o15, o16, o17, o18, o19, o20, o21, o22, o23, o24, o25, o26, o27, o28, o29] Q S fuel (listed.setIfInBounds 23 true) (a.put o23.dst v) w) : wpAnyH P md #[o0, o1, o2, o3, o4, o5, o6, o7, o8, o9, o10, o11, o12, o13, o14, o15, o16, o17, o18, o19, o20, o21, o22, o23, o24, o25, o26, o27, o28, o29] Q S (fuel + 1) listed a w := wpAnyH_take (i := 23) (oi := o23) rfl hs hf hr hQ hy hS h
theorem tk30_25 (hs : Region.noSelect #[o0, o1, o2, o3, o4, o5, o6, o7, o8, o9, o10, o11, o12, o13, o14, o15, o16, o17, o18, o19, o20, o21, o22, o23, o24, o25, o26, o27, o28, o29] = true) (hf : Region.free md #[o0, o1, o2, o3, o4, o5, o6, o7, o8, o9, o10, o11, o12, o13, o14, o15, o16, o17, o18, o19, o20, o21, o22, o23, o24, o25, o26, o27, o28, o29] listed 25 = true) (hr : (Region.ready md #[o0, o1, o2, o3, o4, o5, o6, o7, o8, o9, o10, o11, o12, o13, o14, o15, o16, o17, o18, o19, o20, o21, o22, o23, o24, o25, o26, o27, o28, o29] listed).contains 25 = true) (hQ : ∀ c a w, Q (.panic c) (a.put o25.dst v) w → Q (.panic c) a w) (hy : YieldsIf P #[o0, o1, o2, o3, o4, o5, o6, o7, o8, o9, o10, o11, o12, o13, o14, o15, o16, o17, o18, o19, o20, o21, o22, o23, o24, o25, o26, o27, o28, o29] S o25 v a) (hS : S w) (h : wpAnyH P md #[o0, o1, o2, o3, o4, o5, o6, o7, o8, o9, o10, o11, o12, o13, o14, o15, o16, o17, o18, o19, o20, o21, o22, o23, o24, o25, o26, o27, o28, o29] Q S fuel (listed.setIfInBounds 25 true) (a.put o25.dst v) w) : wpAnyH P md #[o0, o1, o2, o3, o4, o5, o6, o7, o8, o9, o10, o11, o12, o13, o14, o15, o16, o17, o18, o19, o20, o21, o22, o23, o24, o25, o26, o27, o28, o29] Q S (fuel + 1) listed a w := wpAnyH_take (i := 25) (oi := o25) rfl hs hf hr hQ hy hS h
theorem tk30_26 (hs : Region.noSelect #[o0, o1, o2, o3, o4, o5, o6, o7, o8, o9, o10, o11, o12, o13, o14, o15, o16, o17, o18, o19, o20, o21, o22, o23, o24, o25, o26, o27, o28, o29] = true) (hf : Region.free md #[o0, o1, o2, o3, o4, o5, o6, o7, o8, o9, o10, o11, o12, o13, o14, o15, o16, o17, o18, o19, o20, o21, o22, o23, o24, o25, o26, o27, o28, o29] listed 26 = true) (hr : (Region.ready md #[o0, o1, o2, o3, o4, o5, o6, o7, o8, o9, o10, o11, o12, o13, o14, o15, o16, o17, o18, o19, o20, o21, o22, o23, o24, o25, o26, o27, o28, o29] listed).contains 26 = true) (hQ : ∀ c a w, Q (.panic c) (a.put o26.dst v) w → Q (.panic c) a w) (hy : YieldsIf P #[o0, o1, o2, o3, o4, o5, o6, o7, o8, o9, o10, o11, o12, o13, o14, o15, o16, o17, o18, o19, o20, o21, o22, o23, o24, o25, o26, o27, o28, o29] S o26 v a) (hS : S w) (h : wpAnyH P md #[o0, o1, o2, o3, o4, o5, o6, o7, o8, o9, o10, o11, o12, o13, o14, o15, o16, o17, o18, o19, o20, o21, o22, o23, o24, o25, o26, o27, o28, o29] Q S fuel (listed.setIfInBounds 26 true) (a.put o26.dst v) w) : wpAnyH P md #[o0, o1, o2, o3, o4, o5, o6, o7, o8, o9, o10, o11, o12, o13, o14, o15, o16, o17, o18, o19, o20, o21, o22, o23, o24, o25, o26, o27, o28, o29] Q S (fuel + 1) listed a w := wpAnyH_take (i := 26) (oi := o26) rfl hs hf hr hQ hy hS h
theorem tk30_28 (hs : Region.noSelect #[o0, o1, o2, o3, o4, o5, o6, o7, o8, o9, o10, o11, o12, o13, o14, o15, o16, o17, o18, o19, o20, o21, o22, o23, o24, o25, o26, o27, o28, o29] = true) (hf : Region.free md #[o0, o1, o2, o3, o4, o5, o6, o7, o8, o9, o10, o11, o12, o13, o14, o15, o16, o17, o18, o19, o20, o21, o22, o23, o24, o25, o26, o27, o28, o29] listed 28 = true) (hr : (Region.ready md #[o0, o1, o2, o3, o4, o5, o6, o7, o8, o9, o10, o11, o12, o13, o14, o15, o16, o17, o18, o19, o20, o21, o22, o23, o24, o25, o26, o27, o28, o29] listed).contains 28 = true) (hQ : ∀ c a w, Q (.panic c) (a.put o28.dst v) w → Q (.panic c) a w) (hy : YieldsIf P #[o0, o1, o2, o3, o4, o5, o6, o7, o8, o9, o10, o11, o12, o13, o14, o15, o16, o17, o18, o19, o20, o21, o22, o23, o24, o25, o26, o27, o28, o29] S o28 v a) (hS : S w) (h : wpAnyH P md #[o0, o1, o2, o3, o4, o5, o6, o7, o8, o9, o10, o11, o12, o13, o14, o15, o16, o17, o18, o19, o20, o21, o22, o23, o24, o25, o26, o27, o28, o29] Q S fuel (listed.setIfInBounds 28 true) (a.put o28.dst v) w) : wpAnyH P md #[o0, o1, o2, o3, o4, o5, o6, o7, o8, o9, o10, o11, o12, o13, o14, o15, o16, o17, o18, o19, o20, o21, o22, o23, o24, o25, o26, o27, o28, o29] Q S (fuel + 1) listed a w := wpAnyH_take (i := 28) (oi := o28) rfl hs hf hr hQ hy hS h
theorem tk30_29 (hs : Region.noSelect #[o0, o1, o2, o3, o4, o5, o6, o7, o8, o9, o10, o11, o12, o13, o14, o15, o16, o17, o18, o19, o20, o21, o22, o23, o24, o25, o26, o27, o28, o29] = true) (hf : Region.free md #[o0, o1, o2, o3, o4, o5, o6, o7, o8, o9, o10, o11, o12, o13, o14, o15, o16, o17, o18, o19, o20, o21, o22, o23, o24, o25, o26, o27, o28, o29] listed 29 = true) (hr : (Region.ready md #[o0, o1, o2, o3, o4, o5, o6, o7, o8, o9, o10, o11, o12, o13, o14, o15, o16, o17, o18, o19, o20, o21, o22, o23, o24, o25, o26, o27, o28, o29] listed).contains 29 = true) (hQ : ∀ c a w, Q (.panic c) (a.put o29.dst v) w → Q (.panic c) a w) (hy : YieldsIf P #[o0, o1, o2, o3, o4, o5, o6, o7, o8, o9, o10, o11, o12, o13, o14, o15, o16, o17, o18, o19, o20, o21, o22, o23, o24, o25, o26, o27, o28, o29] S o29 v a) (hS : S w) (h : wpAnyH P md #[o0, o1, o2, o3, o4, o5, o6, o7, o8, o9, o10, o11, o12, o13, o14, o15, o16, o17, o18, o19, o20, o21, o22, o23, o24, o25, o26, o27, o28, o29] Q S fuel (listed.setIfInBounds 29 true) (a.put o29.dst v) w) : wpAnyH P md #[o0, o1, o2, o3, o4, o5, o6, o7, o8, o9, o10, o11, o12, o13, o14, o15, o16, o17, o18, o19, o20, o21, o22, o23, o24, o25, o26, o27, o28, o29] Q S (fuel + 1) listed a w := wpAnyH_take (i := 29) (oi := o29) rfl hs hf hr hQ hy hS h
theorem br30_21 (hr : Region.ready md #[o0, o1, o2, o3, o4, o5, o6, o7, o8, o9, o10, o11, o12, o13, o14, o15, o16, o17, o18, o19, o20, o21, o22, o23, o24, o25, o26, o27, o28, o29] listed = [21]) (h : ∀ K' : Act → World → Prop, Shut (∀ a w, S w → (S w → wpAnyH P md #[o0, o1, o2, o3, o4, o5, o6, o7, o8, o9, o10, o11, o12, o13, o14, o15, o16, o17, o18, o19, o20, o21, o22, o23, o24, o25, o26, o27, o28, o29] Q S fuel (listed.setIfInBounds 21 true) a w) → K' a w) → if Region.wanted o21 (yielded #[o0, o1, o2, o3, o4, o5, o6, o7, o8, o9, o10, o11, o12, o13, o14, o15, o16, o17, o18, o19, o20, o21, o22, o23, o24, o25, o26, o27, o28, o29] a.tmps) = true then Oper.wp P o21 a w K' Q else K' (a.put o21.dst undef) w) : wpAnyH P md #[o0, o1, o2, o3, o4, o5, o6, o7, o8, o9, o10, o11, o12, o13, o14, o15, o16, o17, o18, o19, o20, o21, o22, o23, o24, o25, o26, o27, o28, o29] Q S (fuel + 1) listed a w := wpAnyH_ready hr (by simp) (AllReadyH.cons (o := o21) rfl h AllReadyH.nil)
theorem br30_24 (hr : Region.ready md #[o0, o1, o2, o3, o4, o5, o6, o7, o8, o9, o10, o11, o12, o13, o14, o15, o16, o17, o18, o19, o20, o21, o22, o23, o24, o25, o26, o27, o28, o29] listed = [24]) (h : ∀ K' : Act → World → Prop, Shut (∀ a w, S w → (S w → wpAnyH P md #[o0, o1, o2, o3, o4, o5, o6, o7, o8, o9, o10, o11, o12, o13, o14, o15, o16, o17, o18, o19, o20, o21, o22, o23, o24, o25, o26, o27, o28, o29] Q S fuel (listed.setIfInBounds 24 true) a w) → K' a w) → if Region.wanted o24 (yielded #[o0, o1, o2, o3, o4, o5, o6, o7, o8, o9, o10, o11, o12, o13, o14, o15, o16, o17, o18, o19, o20, o21, o22, o23, o24, o25, o26, o27, o28, o29] a.tmps) = true then Oper.wp P o24 a w K' Q else K' (a.put o24.dst undef) w) : wpAnyH P md #[o0, o1, o2, o3, o4, o5, o6, o7, o8, o9, o10, o11, o12, o13, o14, o15, o16, o17, o18, o19, o20, o21, o22, o23, o24, o25, o26, o27, o28, o29] Q S (fuel + 1) listed a w := wpAnyH_ready hr (by simp) (AllReadyH.cons (o := o24) rfl h AllReadyH.nil)
theorem br30_27 (hr : Region.ready md #[o0, o1, o2, o3, o4, o5, o6, o7, o8, o9, o10, o11, o12, o13, o14, o15, o16, o17, o18, o19, o20, o21, o22, o23, o24, o25, o26, o27, o28, o29] listed = [27]) (h : ∀ K' : Act → World → Prop, Shut (∀ a w, S w → (S w → wpAnyH P md #[o0, o1, o2, o3, o4, o5, o6, o7, o8, o9, o10, o11, o12, o13, o14, o15, o16, o17, o18, o19, o20, o21, o22, o23, o24, o25, o26, o27, o28, o29] Q S fuel (listed.setIfInBounds 27 true) a w) → K' a w) → if Region.wanted o27 (yielded #[o0, o1, o2, o3, o4, o5, o6, o7, o8, o9, o10, o11, o12, o13, o14, o15, o16, o17, o18, o19, o20, o21, o22, o23, o24, o25, o26, o27, o28, o29] a.tmps) = true then Oper.wp P o27 a w K' Q else K' (a.put o27.dst undef) w) : wpAnyH P md #[o0, o1, o2, o3, o4, o5, o6, o7, o8, o9, o10, o11, o12, o13, o14, o15, o16, o17, o18, o19, o20, o21, o22, o23, o24, o25, o26, o27, o28, o29] Q S (fuel + 1) listed a w := wpAnyH_ready hr (by simp) (AllReadyH.cons (o := o27) rfl h AllReadyH.nil)
end
end Go.Proofs.Ytlhnhmimhpcoaaa
namespace Go.Proofs.Ytlhnhmimhpcoaaa
open Go.RowKit
set_option linter.unusedSimpArgs false
set_option linter.unusedVariables false
/-- the place of x -/
theorem indexR_any (a : Option Addr) (n c p : Nat) (xs : List Int) (x : Int) (w : World) (hR : Rd w a n 1 (xs.map enc1)) (hx : xs[p]? = some x) (hn : xs.Nodup) :
    Calls Try.prog 72 #[.slice a n c, .int .i64 x] w fun e w' => e = .returned (.int .i64 (p : Nat)) ∧ w = w' := by
  have hs := hR.small
  have hpl := (List.getElem?_eq_some_iff.1 hx).1
  rw [hR.length] at hpl
  have HR := Lib.hid hR
  have HU : Hid (∀ k y, xs[k]? = some y → y = x → k = p) := Lib.hid (fun k y hk e => by
    obtain ⟨h1, e1⟩ := List.getElem?_eq_some_iff.1 hk
    obtain ⟨h2, e2⟩ := List.getElem?_eq_some_iff.1 hx
    exact (List.getElem_inj hn).1 (by rw [e1, e2, e]))
  have HX := Lib.hid hx
  clear hR hn hx
  go_enter Try.func72, Try.ntmps72
  go_wp2
  go_loop [8] (fun i => ∃ k : Nat, k ≤ p ∧ i = .int .i64 k) (fun i => n - (intOf i).toNat)
  case atStart => exact ⟨0, Nat.zero_le _, rfl⟩
  case round =>
    obtain ⟨k, hk, rfl⟩ := hrel
    have hlt : k < n := by omega
    obtain ⟨y, b, off, rfl, hb, hc, hy⟩ := HR.out.idx k hlt
    by_cases hxy : y = x
    · obtain rfl := HU.out k y hy hxy
      subst hxy
      clear hy
      go_wp2
      go_ret
      exact ⟨rfl, rfl⟩
    · have hxy' : (x == y) = false := by simpa using fun q => hxy (q.symm)
      have hkp : k ≠ p := by
        rintro rfl
        rw [HX.out] at hy
        exact hxy (by simpa using hy.symm)
      clear hy
      go_wp2
      go_round
      case rel => exact ⟨k + 1, by omega, by go_num⟩
      case measure => simp [intOf]; omega
theorem bcost_is {t : Ta} {pa : Option Addr} {pn pc : Nat} {x : Int} {w : World} (hp : Rd w pa pn 2 (t.pcs.map enc2)) (hv : ∀ q ∈ t.pcs, 1 ≤ q.1 ∧ q.1 ≤ 200) (hn : pn ≤ 8) (h : costT t = x) :
    Calls Try.prog 90 #[.agg #[.int .i64 t.pri, .int .i64 t.dl, .int .i64 t.first, .int .i64 t.gap, .int .i64 t.jit, .slice pa pn pc]] w fun e w' => e = .returned (.int .i64 x) ∧ Below w.heap.size w w' := by
  subst h; exact cost_any _ _ _ _ _ pa pn pc t.pcs w hp hv hn
theorem rcost_is {t : Ta} {pa : Option Addr} {pn pc : Nat} {x : Int} {w : World} (hp : Rd w pa pn 2 (t.pcs.map enc2)) (hv : ∀ q ∈ t.pcs, 1 ≤ q.1 ∧ q.1 ≤ 200) (hn : pn ≤ 8) (h : costT t = x) :
    Calls Try.prog 92 #[.agg #[.int .i64 t.pri, .int .i64 t.dl, .int .i64 t.first, .int .i64 t.gap, .int .i64 t.jit, .slice pa pn pc]] w fun e w' => e = .returned (.int .i64 x) ∧ Below w.heap.size w w' := by
  subst h; exact rcost_any _ _ _ _ _ pa pn pc t.pcs w hp hv hn
theorem Blocking_is {a : Option Addr} {n c : Nat} {L : List Ta} {t x e : Int} {w : World} (hL : RdL w a n L) (h : blkgR L t = (x, e)) :
    Calls Try.prog 36 #[.slice a n c, .int .i64 t] w fun en w' => en = rII x e ∧ Below w.heap.size w w' := by
  have := Blocking_any a n c L t w hL
  rw [h] at this; exact this
/-- what the closure of demand has captured -/
structure DemC (L : List Ta) (q : Nat) (a : Option Addr) (n c o h b : Nat) (w : World) : Prop where
  own : w.cell? ⟨o, 0, none⟩ = some (.int .i64 (ownN L q))
  box : w.cell? ⟨b, 0, none⟩ = some (.slice a n c)
  ho : o < w.heap.size
  hb : b < w.heap.size
  hh : h < w.heap.size
  ahead : ∃ (a2 : Option Addr) (c2 : Nat), w.cell? ⟨h, 0, none⟩ = some (.slice a2 (cnt L q) c2) ∧ Rd w a2 (cnt L q) 1 (((rankL L).take (cnt L q)).map enc1)
  rd : RdL w a n L
theorem DemC.ext {L : List Ta} {q : Nat} {a : Option Addr} {n c o h b : Nat} {w w' : World} (hc : DemC L q a n c o h b w) (hb : Below w.heap.size w w') : DemC L q a n c o h b w' := by
  obtain ⟨a2, c2, h1, h2⟩ := hc.ahead
  exact ⟨(hb.cell (p := ⟨o, 0, none⟩) hc.ho).trans hc.own, (hb.cell (p := ⟨b, 0, none⟩) hc.hb).trans hc.box, Nat.lt_of_lt_of_le hc.ho hb.size, Nat.lt_of_lt_of_le hc.hb hb.size, Nat.lt_of_lt_of_le hc.hh hb.size,
    ⟨a2, c2, (hb.cell (p := ⟨h, 0, none⟩) hc.hh).trans h1, h2.ext hb⟩, hc.rd.ext hb⟩
theorem owns_capR {w : World} {B e k n c : Nat} {a : Option Addr} {xs : List Value} (h : w.ownsRow B e k (.slice a n c) n xs) : n ≤ c := by
  rcases h.2 with ⟨hv, h8⟩ | ⟨g, cap, cur, hv, _, _, hle, _⟩
  · omega
  · simp at hv
    obtain ⟨_, rfl⟩ := hv
    omega
/-- a task's cells, in every later world -/
theorem RdL.cells {w : World} {a : Option Addr} {n : Nat} {L : List Ta} (h : RdL w a n L) (k : Nat) (hk : k < n) : ∃ (t : Ta) (b off : Nat) (pa : Option Addr) (pn pc : Nat), a = some ⟨b, off, none⟩ ∧ b < w.heap.size ∧ L[k]? = some t ∧ t.pcs.length = pn ∧ Hid (∀ wx : World, Below w.heap.size w wx →
    wx.cell? ⟨b, off + k * 6, none⟩ = some (.int .i64 t.pri) ∧ wx.cell? ⟨b, off + k * 6 + 1, none⟩ = some (.int .i64 t.dl) ∧ wx.cell? ⟨b, off + k * 6 + 2, none⟩ = some (.int .i64 t.first) ∧ wx.cell? ⟨b, off + k * 6 + 3, none⟩ = some (.int .i64 t.gap) ∧
    wx.cell? ⟨b, off + k * 6 + 4, none⟩ = some (.int .i64 t.jit) ∧ wx.cell? ⟨b, off + k * 6 + 5, none⟩ = some (.slice pa pn pc) ∧ b < wx.heap.size ∧ Rd wx pa pn 2 (t.pcs.map enc2)) := by
  obtain ⟨t, b, off, pa, pn, pc, rfl, hb, c0, c1, c2, c3, c4, c5, hp, _, hg, _⟩ := h.at_ k hk
  exact ⟨t, b, off, pa, pn, pc, rfl, hb, hg, hp.length, fun wx h => ⟨(h.cell (p := ⟨b, off + k * 6, none⟩) hb).trans c0, (h.cell (p := ⟨b, off + k * 6 + 1, none⟩) hb).trans c1, (h.cell (p := ⟨b, off + k * 6 + 2, none⟩) hb).trans c2, (h.cell (p := ⟨b, off + k * 6 + 3, none⟩) hb).trans c3, (h.cell (p := ⟨b, off + k * 6 + 4, none⟩) hb).trans c4, (h.cell (p := ⟨b, off + k * 6 + 5, none⟩) hb).trans c5, Nat.lt_of_lt_of_le hb h.size, hp.ext h⟩⟩
theorem Rd.take1 {w : World} {a : Option Addr} {n k : Nat} {xs : List Int} (h : Rd w a n 1 (xs.map enc1)) (hk : k ≤ n) : Rd w a k 1 ((xs.take k).map enc1) := by
  have hl := h.length
  refine ⟨by simp; omega, Nat.le_trans hk h.small, fun h0 => ?_⟩
  obtain ⟨b, off, rfl, hb, hc⟩ := h.at_ (by omega)
  refine ⟨b, off, rfl, hb, fun i hi j hj => ?_⟩
  have hi' : i < xs.length := by simp at hi; omega
  have := hc i (by simpa using hi') j hj
  rw [this]
  simp
theorem demL_cons {L : List Ta} {w : Int} {k : Int} {ks : List Int} {n : Int} : demL L w (k :: ks) n = demL L w ks (n + demT (taAt L k) w) := rfl
end Go.Proofs.Ytlhnhmimhpcoaaa
namespace Go.Proofs.Ytlhnhmimhpcoaaa
open Go.RowKit
set_option linter.unusedSimpArgs false
set_option linter.unusedVariables false
/-- whether task and event are there -/
def isEv (R : Rn) (i x : Int) : Bool := inB i 0 ((R.L.length : Int) - 1) && inB x 0 (((evA R i.toNat).length : Int) - 1)
def blockedR (R : Rn) (t i x : Int) : Int × Int :=
  if (runB R && inB t 0 2000) = true ∧ isEv R i x = true then (blkC R.L i.toNat (relT (evA R i.toNat) x) (endF (plM R t.toNat).o i.toNat x) (plM R t.toNat).o, 0) else (0, 1)
theorem rank_nodup2 (L : List Ta) : (rankL L).Nodup := by
  rw [List.nodup_iff_pairwise_ne, List.pairwise_iff_getElem]
  intro i j hi hj hij e
  have h1 := rank_cnt (List.getElem?_eq_getElem hi)
  have h2 := rank_cnt (List.getElem?_eq_getElem hj)
  rw [e] at h1
  omega
set_option maxRecDepth 100000 in
set_option maxHeartbeats 8000000 in
theorem Blocked_any (H : RunH) (R : Rn) (t i x : Int) (w : World) (hR : ReadRun w H R) (hi : -9223372036854775808 ≤ i ∧ i ≤ 9223372036854775807) (hx : -9223372036854775808 ≤ x ∧ x ≤ 9223372036854775807) :
    Calls Try.prog 34 #[runV H R.fr R.sl, .int .i64 t, .int .i64 i, .int .i64 x] w fun e w' => e = rII (blockedR R t i x).1 (blockedR R t i x).2 ∧ Below w.heap.size w w' := by
  obtain ⟨B, hB⟩ : ∃ B, (runB R && inB t 0 2000) = B := ⟨_, rfl⟩
  unfold blockedR isEv
  rw [hB]
  have HI := Lib.hid (fun w1 (hb : Below w.heap.size w w1) => is_any H R t w1 (hR.ext hb) hB)
  cases B
  · rw [if_neg (by simp)]
    obtain ⟨fr, hfr⟩ : ∃ x, R.fr = x := ⟨_, rfl⟩
    obtain ⟨sl_, hsl⟩ : ∃ x, R.sl = x := ⟨_, rfl⟩
    rw [hfr, hsl] at HI ⊢
    obtain ⟨tA, tN, tC, eA, eN, eC, bA, bN, bC, sA, sN, sC⟩ := H
    unfold runV at HI ⊢
    simp only [] at HI ⊢
    clear hR hB hfr hsl
    go_enter Try.func34, Try.ntmps34
    go_wp2_with (go_at_call 45; (with_reducible refine (HI.out _ (by (repeat' (first | (with_reducible exact Below.refl _ _) | (with_reducible assumption) | (with_reducible refine Below.alloc ?_ ?_ _) | (with_reducible refine Below.drew ?_) | (with_reducible refine Below.draws ?_ _) | (with_reducible refine Below.setCell ?_ ?_ _) | (refine Below.then ?_ (by with_reducible assumption)) | go_size)))).mono ?_); rintro e w1 ⟨rfl, hb1⟩; have B1 : Hid (Below w.heap.size w w1) := Lib.hid (Below.trans (by (repeat' (first | (with_reducible exact Below.refl _ _) | (with_reducible assumption) | (with_reducible refine Below.alloc ?_ ?_ _) | (with_reducible refine Below.drew ?_) | (with_reducible refine Below.draws ?_ _) | (with_reducible refine Below.setCell ?_ ?_ _) | (refine Below.then ?_ (by with_reducible assumption)) | go_size))) (hb1.mono (by simp))); have z1 : w.heap.size < w1.heap.size := Nat.lt_of_lt_of_le (by simp) hb1.size; have c1_0 := (hb1.cell (p := ⟨w.heap.size, 0, none⟩) (by simp)).trans (by simp [go_sem]; rfl); have c1_1 := (hb1.cell (p := ⟨w.heap.size, 1, none⟩) (by simp)).trans (by simp [go_sem]; rfl); have c1_2 := (hb1.cell (p := ⟨w.heap.size, 2, none⟩) (by simp)).trans (by simp [go_sem]; rfl); have c1_3 := (hb1.cell (p := ⟨w.heap.size, 3, none⟩) (by simp)).trans (by simp [go_sem]; rfl); have c1_4 := (hb1.cell (p := ⟨w.heap.size, 4, none⟩) (by simp)).trans (by simp [go_sem]; rfl); have c1_5 := (hb1.cell (p := ⟨w.heap.size, 5, none⟩) (by simp)).trans (by simp [go_sem]; rfl); clear hb1)
    go_ret2
    exact ⟨rfl, B1.out⟩
  · rw [Bool.and_eq_true, inB_iff] at hB
    obtain ⟨tn, rfl⟩ := Int.eq_ofNat_of_zero_le hB.2.1
    have hr := (run_ok hB.1).1
    have htn : tn ≤ 2000 := by omega
    have hTN := hR.t.length
    have hL5 := hr.r.len
    obtain ⟨C1, hC1⟩ : ∃ C, inB i 0 ((R.L.length : Int) - 1) = C := ⟨_, rfl⟩
    rw [hC1]
    have hC1' : inB i 0 ((H.tN : Int) - 1) = C1 := by rw [← hTN]; exact hC1
    have HC1 := Lib.hid hC1'
    have wl : IntKind.i64.wrap ((H.tN : Int) - 1) = (H.tN : Int) - 1 := IntWalk.i64_in _ (by omega)
    cases C1
    · rw [if_neg (by simp)]
      obtain ⟨fr, hfr⟩ : ∃ x, R.fr = x := ⟨_, rfl⟩
      obtain ⟨sl_, hsl⟩ : ∃ x, R.sl = x := ⟨_, rfl⟩
      rw [hfr, hsl] at HI ⊢
      obtain ⟨tA, tN, tC, eA, eN, eC, bA, bN, bC, sA, sN, sC⟩ := H
      unfold runV at HI ⊢
      simp only [] at HI HC1 wl ⊢
      clear hR hB hfr hsl hC1 hC1' hTN hL5 hr
      go_enter Try.func34, Try.ntmps34
      go_wp2_with (first | (go_at_call 45; (with_reducible refine (HI.out _ (by (repeat' (first | (with_reducible exact Below.refl _ _) | (with_reducible assumption) | (with_reducible refine Below.alloc ?_ ?_ _) | (with_reducible refine Below.drew ?_) | (with_reducible refine Below.draws ?_ _) | (with_reducible refine Below.setCell ?_ ?_ _) | (refine Below.then ?_ (by with_reducible assumption)) | go_size)))).mono ?_); rintro e w1 ⟨rfl, hb1⟩; have B1 : Hid (Below w.heap.size w w1) := Lib.hid (Below.trans (by (repeat' (first | (with_reducible exact Below.refl _ _) | (with_reducible assumption) | (with_reducible refine Below.alloc ?_ ?_ _) | (with_reducible refine Below.drew ?_) | (with_reducible refine Below.draws ?_ _) | (with_reducible refine Below.setCell ?_ ?_ _) | (refine Below.then ?_ (by with_reducible assumption)) | go_size))) (hb1.mono (by simp))); have z1 : w.heap.size < w1.heap.size := Nat.lt_of_lt_of_le (by simp) hb1.size; have c1_0 := (hb1.cell (p := ⟨w.heap.size, 0, none⟩) (by simp)).trans (by simp [go_sem]; rfl); have c1_1 := (hb1.cell (p := ⟨w.heap.size, 1, none⟩) (by simp)).trans (by simp [go_sem]; rfl); have c1_2 := (hb1.cell (p := ⟨w.heap.size, 2, none⟩) (by simp)).trans (by simp [go_sem]; rfl); have c1_3 := (hb1.cell (p := ⟨w.heap.size, 3, none⟩) (by simp)).trans (by simp [go_sem]; rfl); have c1_4 := (hb1.cell (p := ⟨w.heap.size, 4, none⟩) (by simp)).trans (by simp [go_sem]; rfl); have c1_5 := (hb1.cell (p := ⟨w.heap.size, 5, none⟩) (by simp)).trans (by simp [go_sem]; rfl); clear hb1) | (go_at_call 59; (with_reducible refine (cwithin_is HC1.out).mono ?_); rintro e wq ⟨rfl, rfl⟩))
      go_ret2
      exact ⟨rfl, B1.out⟩
    · rw [inB_iff] at hC1
      obtain ⟨i, rfl⟩ := Int.eq_ofNat_of_zero_le hC1.1
      rw [Int.toNat_natCast]
      have hil : i < R.L.length := by omega
      have hiev : i < R.ev.length := by rw [hr.ev]; exact hil
      have hie : i < H.eN := by have := hR.rd.e.len; omega
      obtain ⟨eb, eo, ea, en, ec, hea, heb, hec, hRd⟩ := hR.rd.e.at_ i hie
      have hlen : (evA R i).length = en := hRd.length
      have hel := hr.el (evA R i) (by unfold evA; rw [List.getElem?_eq_getElem hiev]; exact List.getElem_mem hiev)
      obtain ⟨C2, hC2⟩ : ∃ C, inB x 0 (((evA R i).length : Int) - 1) = C := ⟨_, rfl⟩
      rw [hC2]
      have hC2' : inB x 0 ((en : Int) - 1) = C2 := by rw [← hlen]; exact hC2
      have HC2 := Lib.hid hC2'
      have hen40 : en ≤ 40 := by omega
      have wl2 : IntKind.i64.wrap ((en : Int) - 1) = (en : Int) - 1 := IntWalk.i64_in _ (by omega)
      have HEC : Hid (∀ wz, Below w.heap.size w wz → wz.cell? ⟨eb, eo + i, none⟩ = some (.slice ea en ec)) := Lib.hid (fun wz hz => (hz.cell (p := ⟨eb, eo + i, none⟩) heb).trans hec)
      cases C2
      · rw [if_neg (by simp)]
        obtain ⟨fr, hfr⟩ : ∃ x, R.fr = x := ⟨_, rfl⟩
        obtain ⟨sl_, hsl⟩ : ∃ x, R.sl = x := ⟨_, rfl⟩
        rw [hfr, hsl] at HI ⊢
        obtain ⟨tA, tN, tC, eA, eN, eC, bA, bN, bC, sA, sN, sC⟩ := H
        unfold runV at HI ⊢
        simp only [] at HI HC1 wl hea hie ⊢
        subst hea
        clear hR hB hfr hsl hC1 hC1' hTN hL5 hr hil hiev hRd hlen hel hC2 hC2' hec
        go_enter Try.func34, Try.ntmps34
        go_wp2_with (first | (go_at_call 45; (with_reducible refine (HI.out _ (by (repeat' (first | (with_reducible exact Below.refl _ _) | (with_reducible assumption) | (with_reducible refine Below.alloc ?_ ?_ _) | (with_reducible refine Below.drew ?_) | (with_reducible refine Below.draws ?_ _) | (with_reducible refine Below.setCell ?_ ?_ _) | (refine Below.then ?_ (by with_reducible assumption)) | go_size)))).mono ?_); rintro e w1 ⟨rfl, hb1⟩; have B1 : Hid (Below w.heap.size w w1) := Lib.hid (Below.trans (by (repeat' (first | (with_reducible exact Below.refl _ _) | (with_reducible assumption) | (with_reducible refine Below.alloc ?_ ?_ _) | (with_reducible refine Below.drew ?_) | (with_reducible refine Below.draws ?_ _) | (with_reducible refine Below.setCell ?_ ?_ _) | (refine Below.then ?_ (by with_reducible assumption)) | go_size))) (hb1.mono (by simp))); have z1 : w.heap.size < w1.heap.size := Nat.lt_of_lt_of_le (by simp) hb1.size; have c1_0 := (hb1.cell (p := ⟨w.heap.size, 0, none⟩) (by simp)).trans (by simp [go_sem]; rfl); have c1_1 := (hb1.cell (p := ⟨w.heap.size, 1, none⟩) (by simp)).trans (by simp [go_sem]; rfl); have c1_2 := (hb1.cell (p := ⟨w.heap.size, 2, none⟩) (by simp)).trans (by simp [go_sem]; rfl); have c1_3 := (hb1.cell (p := ⟨w.heap.size, 3, none⟩) (by simp)).trans (by simp [go_sem]; rfl); have c1_4 := (hb1.cell (p := ⟨w.heap.size, 4, none⟩) (by simp)).trans (by simp [go_sem]; rfl); have c1_5 := (hb1.cell (p := ⟨w.heap.size, 5, none⟩) (by simp)).trans (by simp [go_sem]; rfl); clear hb1; have e1 := HEC.out _ B1.out; have e2 := World.block_lt_of_cell? _ _ e1; simp only [] at e2) | (go_at_call 59; (with_reducible refine (cwithin_is HC1.out).mono ?_); rintro e wq ⟨rfl, rfl⟩) | (go_at_call 59; (with_reducible refine (cwithin_is HC2.out).mono ?_); rintro e wq ⟨rfl, rfl⟩))
        go_ret2
        exact ⟨rfl, B1.out⟩
      · rw [inB_iff] at hC2
        obtain ⟨xn, rfl⟩ := Int.eq_ofNat_of_zero_le hC2.1
        rw [if_pos ⟨rfl, rfl⟩, Int.toNat_natCast]
        have hxn : xn < en := by omega
        obtain ⟨e0, e1, vb, vo, rfl, hvb, g0, g1, hg, _⟩ := hRd.pc_at' xn hxn
        have hel2 := hel.2 _ (List.mem_of_getElem? hg)
        simp only [] at hel2
        have hrel : relT (evA R i) (xn : Int) = e0 + e1 := relT_of hg
        rw [hrel]
        have wadd : IntKind.i64.wrap (e0 + e1) = e0 + e1 := IntWalk.i64_in _ (by omega)
        have HVC : Hid (∀ wz, Below w.heap.size w wz → wz.cell? ⟨vb, vo + xn * 2, none⟩ = some (.int .i64 e0) ∧ wz.cell? ⟨vb, vo + xn * 2 + 1, none⟩ = some (.int .i64 e1)) := Lib.hid (fun wz hz => ⟨(hz.cell (p := ⟨vb, vo + xn * 2, none⟩) hvb).trans g0, (hz.cell (p := ⟨vb, vo + xn * 2 + 1, none⟩) hvb).trans g1⟩)
        have hol := plM_olen hr htn
        have hok := plM_ok4 hr tn
        have HP := Lib.hid (fun w1 (hb : Below w.heap.size w w1) => play_any H R tn w1 (hR.ext hb).rd hr (by omega))
        have HEN := Lib.hid (fun (w1 : World) (a : Option Addr) (n c : Nat) (hb : Below w.heap.size w w1) (hx : Rd w1 a n 5 ((plM R tn).o.map encE)) => ends_any H R (plM R tn).o a n c w1 (hR.ext hb).rd hr hx (by have h1 := hx.length; omega) (plM_ok5 hr tn))
        have HRD := Lib.hid (fun w1 (hb : Below w.heap.size w w1) => (hR.ext hb).rd.t)
        have HRK := Lib.hid (ranks_ok hr.r)
        obtain ⟨o, ho⟩ : ∃ x, (plM R tn).o = x := ⟨_, rfl⟩
        rw [ho] at HP HEN hol hok ⊢
        obtain ⟨X, hX⟩ : ∃ X, endsRow R o = X := ⟨_, rfl⟩
        have HXL : Hid ((X i).length = en) := Lib.hid (by rw [← hX, endsRow_len]; exact hlen)
        obtain ⟨E, hE⟩ : ∃ E, endF o i (xn : Int) = E := ⟨_, rfl⟩
        have HEX : Hid ((X i)[xn]? = some E) := Lib.hid (by rw [← hX, endsRow_get (by omega), hE])
        rw [hX] at HEN
        rw [hE]
        have HXN : Hid ((rankL R.L).Nodup) := Lib.hid (rank_nodup2 _)
        have HXA : Hid (∀ k : Nat, k < R.L.length → (rankL R.L)[cnt R.L k]? = some (k : Int)) := Lib.hid (fun k hk => rank_at (by omega) (by omega))
        have HIL := Lib.hid hil
        have HOK : Hid (∀ e ∈ o, e.w = 4 → ∃ k : Nat, e.k = (k : Int) ∧ k < R.L.length) := Lib.hid (fun e he h4 => by obtain ⟨i, _, x, h1, _, h3, h2, _, h5⟩ := hok e he h4; exact ⟨i, h1, h2⟩)
        obtain ⟨nL, hnL⟩ : ∃ x, R.L.length = x := ⟨_, rfl⟩
        rw [hnL] at HEN hil
        obtain ⟨RL, hRL⟩ : ∃ l, R.L = l := ⟨_, rfl⟩
        rw [hRL] at HRK HRD HXN HXA HIL HOK ⊢
        unfold blkC
        obtain ⟨Fb, hFb⟩ : ∃ f, blkE (bhd RL i) (e0 + e1) E = f := ⟨_, rfl⟩
        rw [hFb]
        obtain ⟨rf, hrf⟩ : ∃ f, e0 + e1 = f := ⟨_, rfl⟩
        rw [hrf] at hFb
        have wadd : IntKind.i64.wrap (e0 + e1) = rf := by rw [wadd, hrf]
        have HFB : Hid (∀ e : En, Fb e = (decide (e.w = 4) && (decide (rf ≤ e.m) && ((decide (E < 0) || decide (e.m < E)) && decide (cnt RL i < cnt RL e.k))))) := Lib.hid (fun e => by rw [← hFb]; rfl)
        obtain ⟨Z, hZ⟩ : ∃ Z, cntE Fb o = Z := ⟨_, rfl⟩
        rw [hZ]
        have HZ := Lib.hid hZ
        have HOL := Lib.hid hol
        obtain ⟨fr, hfr⟩ : ∃ x, R.fr = x := ⟨_, rfl⟩
        obtain ⟨sl_, hsl⟩ : ∃ x, R.sl = x := ⟨_, rfl⟩
        rw [hfr, hsl] at HI HP HEN ⊢
        obtain ⟨tA, tN, tC, eA, eN, eC, bA, bN, bC, sA, sN, sC⟩ := H
        unfold runV at HI ⊢
        simp only [] at HI HP HEN HC1 HRD wl hea hie ⊢
        subst hea
        clear hR hB hfr hsl hC1 hC1' hTN hL5 hr hiev hRd hlen hel hC2 hC2' hec g0 g1 hg hel2 hrel hok ho hX hE hFb hZ hol hnL hRL hrf
        go_enter Try.func34, Try.ntmps34
        go_upto_region 4 with (first | (go_at_call 45; (with_reducible refine (HI.out _ (by (repeat' (first | (with_reducible exact Below.refl _ _) | (with_reducible assumption) | (with_reducible refine Below.alloc ?_ ?_ _) | (with_reducible refine Below.drew ?_) | (with_reducible refine Below.draws ?_ _) | (with_reducible refine Below.setCell ?_ ?_ _) | (refine Below.then ?_ (by with_reducible assumption)) | go_size)))).mono ?_); rintro e w1 ⟨rfl, hb1⟩; have B1 : Hid (Below w.heap.size w w1) := Lib.hid (Below.trans (by (repeat' (first | (with_reducible exact Below.refl _ _) | (with_reducible assumption) | (with_reducible refine Below.alloc ?_ ?_ _) | (with_reducible refine Below.drew ?_) | (with_reducible refine Below.draws ?_ _) | (with_reducible refine Below.setCell ?_ ?_ _) | (refine Below.then ?_ (by with_reducible assumption)) | go_size))) (hb1.mono (by simp))); have z1 : w.heap.size < w1.heap.size := Nat.lt_of_lt_of_le (by simp) hb1.size; have c1_0 := (hb1.cell (p := ⟨w.heap.size, 0, none⟩) (by simp)).trans (by simp [go_sem]; rfl); have c1_1 := (hb1.cell (p := ⟨w.heap.size, 1, none⟩) (by simp)).trans (by simp [go_sem]; rfl); have c1_2 := (hb1.cell (p := ⟨w.heap.size, 2, none⟩) (by simp)).trans (by simp [go_sem]; rfl); have c1_3 := (hb1.cell (p := ⟨w.heap.size, 3, none⟩) (by simp)).trans (by simp [go_sem]; rfl); have c1_4 := (hb1.cell (p := ⟨w.heap.size, 4, none⟩) (by simp)).trans (by simp [go_sem]; rfl); have c1_5 := (hb1.cell (p := ⟨w.heap.size, 5, none⟩) (by simp)).trans (by simp [go_sem]; rfl); clear hb1; have d1 := HEC.out _ B1.out; have d2 := World.block_lt_of_cell? _ _ d1; simp only [] at d2) | (go_at_call 59; (with_reducible refine (cwithin_is HC1.out).mono ?_); rintro e wq ⟨rfl, rfl⟩) | (go_at_call 59; (with_reducible refine (cwithin_is HC2.out).mono ?_); rintro e wq ⟨rfl, rfl⟩) | (go_at_call 46; (with_reducible refine (HP.out _ B1.out).mono ?_); rintro e w2 ⟨a2, n2, c2', rfl, h2, hb2⟩; have HO2 := Lib.hid (Rd.of_owns encE_len (by decide) h2); clear h2; have B2 := Lib.hid (Below.then B1.out hb2); have z2 : w.heap.size < w2.heap.size := Nat.lt_of_lt_of_le z1 hb2.size; have c2_0 := (hb2.cell (p := ⟨w.heap.size, 0, none⟩) z1).trans c1_0; have c2_1 := (hb2.cell (p := ⟨w.heap.size, 1, none⟩) z1).trans c1_1; have c2_2 := (hb2.cell (p := ⟨w.heap.size, 2, none⟩) z1).trans c1_2; have c2_3 := (hb2.cell (p := ⟨w.heap.size, 3, none⟩) z1).trans c1_3; have c2_4 := (hb2.cell (p := ⟨w.heap.size, 4, none⟩) z1).trans c1_4; have c2_5 := (hb2.cell (p := ⟨w.heap.size, 5, none⟩) z1).trans c1_5; clear hb2 c1_0 c1_1 c1_2 c1_3 c1_4 c1_5))
        obtain ⟨v0, v1⟩ := HVC.out _ B2.out
        have d3 := HEC.out _ B2.out
        clear d1 d2
        have d2 := World.block_lt_of_cell? _ _ d3
        have d4 := World.block_lt_of_cell? _ _ v0
        simp only [] at d2 d4
        refine wp_region_held_drew (S := (fun w' => w'.cell? ⟨w.heap.size, 0, none⟩ = some (.slice tA tN tC) ∧ w'.cell? ⟨w.heap.size, 1, none⟩ = some (.int .i64 fr) ∧ w'.cell? ⟨w.heap.size, 2, none⟩ = some (.int .i64 sl_) ∧ w'.cell? ⟨w.heap.size, 3, none⟩ = some (.slice (some ⟨eb, eo, none⟩) eN eC) ∧ w'.cell? ⟨w.heap.size, 4, none⟩ = some (.slice bA bN bC) ∧ w'.cell? ⟨w.heap.size, 5, none⟩ = some (.slice sA sN sC) ∧
            w'.cell? ⟨eb, eo + i, none⟩ = some (.slice (some ⟨vb, vo, none⟩) en ec) ∧ w'.cell? ⟨vb, vo + xn * 2, none⟩ = some (.int .i64 e0) ∧ w'.cell? ⟨vb, vo + xn * 2 + 1, none⟩ = some (.int .i64 e1))) (by kernel_rfl) ?_ (fun hHeld => ?_)
        · go_keep
        change wpAnyH _ _ _ _ _ 30 (Array.replicate 30 false) _ _
        refine tk30_0 (v := ?v0) (by kernel_rfl) (by kernel_rfl) (by kernel_rfl) (fun _ _ _ h => h) (Or.inl ⟨by rfl, ?hy0⟩) (by assumption) ?rs0
        case hy0 => (intro w hSw; (try dsimp only at hSw); go_simp; try (with_reducible rfl))
        try simp only [Act.put, List.setIfInBounds_toArray, List.set_cons_zero, List.set_cons_succ]
        refine tk30_1 (v := ?v1) (by kernel_rfl) (by kernel_rfl) (by kernel_rfl) (fun _ _ _ h => h) (Or.inl ⟨by rfl, ?hy1⟩) (by assumption) ?rs1
        case hy1 => (intro w hSw; (try dsimp only at hSw); go_simp; try (with_reducible rfl))
        try simp only [Act.put, List.setIfInBounds_toArray, List.set_cons_zero, List.set_cons_succ]
        refine tk30_2 (v := ?v2) (by kernel_rfl) (by kernel_rfl) (by kernel_rfl) (fun _ _ _ h => h) (Or.inl ⟨by rfl, ?hy2⟩) (by assumption) ?rs2
        case hy2 => (intro w hSw; (try dsimp only at hSw); go_simp; try (with_reducible rfl))
        try simp only [Act.put, List.setIfInBounds_toArray, List.set_cons_zero, List.set_cons_succ]
        refine tk30_3 (v := ?v3) (by kernel_rfl) (by kernel_rfl) (by kernel_rfl) (fun _ _ _ h => h) (Or.inl ⟨by rfl, ?hy3⟩) (by assumption) ?rs3
        case hy3 => (intro w hSw; (try dsimp only at hSw); go_simp; try (with_reducible rfl))
        try simp only [Act.put, List.setIfInBounds_toArray, List.set_cons_zero, List.set_cons_succ]
        refine tk30_4 (v := ?v4) (by kernel_rfl) (by kernel_rfl) (by kernel_rfl) (fun _ _ _ h => h) (Or.inl ⟨by rfl, ?hy4⟩) (by assumption) ?rs4
        case hy4 => (intro w hSw; (try dsimp only at hSw); go_simp; try (with_reducible rfl))
        try simp only [Act.put, List.setIfInBounds_toArray, List.set_cons_zero, List.set_cons_succ]
        refine tk30_5 (v := ?v5) (by kernel_rfl) (by kernel_rfl) (by kernel_rfl) (fun _ _ _ h => h) (Or.inl ⟨by rfl, ?hy5⟩) (by assumption) ?rs5
        case hy5 => (intro w hSw; (try dsimp only at hSw); go_simp; try (with_reducible rfl))
        try simp only [Act.put, List.setIfInBounds_toArray, List.set_cons_zero, List.set_cons_succ]
        refine tk30_6 (v := ?v6) (by kernel_rfl) (by kernel_rfl) (by kernel_rfl) (fun _ _ _ h => h) (Or.inl ⟨by rfl, ?hy6⟩) (by assumption) ?rs6
        case hy6 => (intro w hSw; (try dsimp only at hSw); go_simp; try (with_reducible rfl))
        try simp only [Act.put, List.setIfInBounds_toArray, List.set_cons_zero, List.set_cons_succ]
        refine tk30_7 (v := ?v7) (by kernel_rfl) (by kernel_rfl) (by kernel_rfl) (fun _ _ _ h => h) (Or.inl ⟨by rfl, ?hy7⟩) (by assumption) ?rs7
        case hy7 => (intro w hSw; (try dsimp only at hSw); go_simp; try (with_reducible rfl))
        try simp only [Act.put, List.setIfInBounds_toArray, List.set_cons_zero, List.set_cons_succ]
        refine tk30_8 (v := ?v8) (by kernel_rfl) (by kernel_rfl) (by kernel_rfl) (fun _ _ _ h => h) (Or.inl ⟨by rfl, ?hy8⟩) (by assumption) ?rs8
        case hy8 => (intro w hSw; (try dsimp only at hSw); go_simp; try (with_reducible rfl))
        try simp only [Act.put, List.setIfInBounds_toArray, List.set_cons_zero, List.set_cons_succ]
        refine tk30_9 (v := ?v9) (by kernel_rfl) (by kernel_rfl) (by kernel_rfl) (fun _ _ _ h => h) (Or.inl ⟨by rfl, ?hy9⟩) (by assumption) ?rs9
        case hy9 => (intro w hSw; (try dsimp only at hSw); go_simp; try (with_reducible rfl))
        try simp only [Act.put, List.setIfInBounds_toArray, List.set_cons_zero, List.set_cons_succ]
        refine tk30_10 (v := ?v10) (by kernel_rfl) (by kernel_rfl) (by kernel_rfl) (fun _ _ _ h => h) (Or.inl ⟨by rfl, ?hy10⟩) (by assumption) ?rs10
        case hy10 => (intro w hSw; (try dsimp only at hSw); go_simp; try (with_reducible rfl))
        try simp only [Act.put, List.setIfInBounds_toArray, List.set_cons_zero, List.set_cons_succ]
        refine tk30_11 (v := ?v11) (by kernel_rfl) (by kernel_rfl) (by kernel_rfl) (fun _ _ _ h => h) (Or.inl ⟨by rfl, ?hy11⟩) (by assumption) ?rs11
        case hy11 => (intro w hSw; (try dsimp only at hSw); go_simp; try (with_reducible rfl))
        try simp only [Act.put, List.setIfInBounds_toArray, List.set_cons_zero, List.set_cons_succ]
        refine tk30_12 (v := ?v12) (by kernel_rfl) (by kernel_rfl) (by kernel_rfl) (fun _ _ _ h => h) (Or.inl ⟨by rfl, ?hy12⟩) (by assumption) ?rs12
        case hy12 => (intro w hSw; (try dsimp only at hSw); go_simp; try (with_reducible rfl))
        try simp only [Act.put, List.setIfInBounds_toArray, List.set_cons_zero, List.set_cons_succ]
        refine tk30_13 (v := ?v13) (by kernel_rfl) (by kernel_rfl) (by kernel_rfl) (fun _ _ _ h => h) (Or.inl ⟨by rfl, ?hy13⟩) (by assumption) ?rs13
        case hy13 => (intro w hSw; (try dsimp only at hSw); go_simp; try (with_reducible rfl))
        try simp only [Act.put, List.setIfInBounds_toArray, List.set_cons_zero, List.set_cons_succ]
        refine tk30_14 (v := ?v14) (by kernel_rfl) (by kernel_rfl) (by kernel_rfl) (fun _ _ _ h => h) (Or.inl ⟨by rfl, ?hy14⟩) (by assumption) ?rs14
        case hy14 => (intro w hSw; (try dsimp only at hSw); go_simp; try (with_reducible rfl))
        try simp only [Act.put, List.setIfInBounds_toArray, List.set_cons_zero, List.set_cons_succ]
        refine tk30_15 (v := ?v15) (by kernel_rfl) (by kernel_rfl) (by kernel_rfl) (fun _ _ _ h => h) (Or.inl ⟨by rfl, ?hy15⟩) (by assumption) ?rs15
        case hy15 => (intro w hSw; (try dsimp only at hSw); go_simp; try (with_reducible rfl))
        try simp only [Act.put, List.setIfInBounds_toArray, List.set_cons_zero, List.set_cons_succ]
        refine tk30_16 (v := ?v16) (by kernel_rfl) (by kernel_rfl) (by kernel_rfl) (fun _ _ _ h => h) (Or.inl ⟨by rfl, ?hy16⟩) (by assumption) ?rs16
        case hy16 => (intro w hSw; (try dsimp only at hSw); go_simp; try (with_reducible rfl))
        try simp only [Act.put, List.setIfInBounds_toArray, List.set_cons_zero, List.set_cons_succ]
        refine tk30_17 (v := ?v17) (by kernel_rfl) (by kernel_rfl) (by kernel_rfl) (fun _ _ _ h => h) (Or.inl ⟨by rfl, ?hy17⟩) (by assumption) ?rs17
        case hy17 => (intro w hSw; (try dsimp only at hSw); go_simp; try (with_reducible rfl))
        try simp only [Act.put, List.setIfInBounds_toArray, List.set_cons_zero, List.set_cons_succ]
        refine tk30_18 (v := ?v18) (by kernel_rfl) (by kernel_rfl) (by kernel_rfl) (fun _ _ _ h => h) (Or.inl ⟨by rfl, ?hy18⟩) (by assumption) ?rs18
        case hy18 => (intro w hSw; (try dsimp only at hSw); go_simp; try (with_reducible rfl))
        try simp only [Act.put, List.setIfInBounds_toArray, List.set_cons_zero, List.set_cons_succ]
        refine tk30_19 (v := ?v19) (by kernel_rfl) (by kernel_rfl) (by kernel_rfl) (fun _ _ _ h => h) (Or.inl ⟨by rfl, ?hy19⟩) (by assumption) ?rs19
        case hy19 => (intro w hSw; (try dsimp only at hSw); go_simp; try (with_reducible rfl))
        try simp only [Act.put, List.setIfInBounds_toArray, List.set_cons_zero, List.set_cons_succ]
        refine tk30_20 (v := ?v20) (by kernel_rfl) (by kernel_rfl) (by kernel_rfl) (fun _ _ _ h => h) (Or.inl ⟨by rfl, ?hy20⟩) (by assumption) ?rs20
        case hy20 => (intro w hSw; (try dsimp only at hSw); go_simp; try (with_reducible rfl))
        try simp only [Act.put, List.setIfInBounds_toArray, List.set_cons_zero, List.set_cons_succ]
        refine tk30_22 (v := ?v22) (by kernel_rfl) (by kernel_rfl) (by kernel_rfl) (fun _ _ _ h => h) (Or.inl ⟨by rfl, ?hy22⟩) (by assumption) ?rs22
        case hy22 => (intro w hSw; (try dsimp only at hSw); go_simp; try (with_reducible rfl))
        try simp only [Act.put, List.setIfInBounds_toArray, List.set_cons_zero, List.set_cons_succ]
        refine tk30_25 (v := ?v25) (by kernel_rfl) (by kernel_rfl) (by kernel_rfl) (fun _ _ _ h => h) (Or.inl ⟨by rfl, ?hy25⟩) (by assumption) ?rs25
        case hy25 => (intro w hSw; (try dsimp only at hSw); go_simp; try (with_reducible rfl))
        try simp only [Act.put, List.setIfInBounds_toArray, List.set_cons_zero, List.set_cons_succ]
        refine br30_21 (by kernel_rfl) (fun K hK => ?_)
        go_simp
        (go_at_call 66; (with_reducible refine (HEN.out _ _ _ _ B2.out.drew (HO2.out.ext (Below.refl _ _).drew)).mono ?_); rintro e w3 ⟨a3, rfl, h3, hb3x⟩; have hb3 : Below w2.heap.size w2 w3 := Below.then (Below.refl w2.heap.size w2).drew hb3x; clear hb3x; obtain ⟨xb, xoff, xa, en', xc, rfl, hxb, hxc, hxlen, hxR⟩ := h3.row hil; obtain ⟨z, zb, zo, rfl, hzb, hzc, hz⟩ := hxR.idx xn (by rw [← hxlen, HXL.out]; exact hxn); have hen' : en' = en := (by rw [← hxlen, HXL.out]); subst hen'; have hzz : z = E := Option.some.inj (hz.symm.trans HEX.out); subst hzz; have HO3 := Lib.hid (HO2.out.ext hb3); have HB3 := Lib.hid (B2.out.trans (hb3.mono B2.out.size)); have HB23 := Lib.hid hb3; clear h3 hxR hz hxlen; have e3 := HEC.out _ HB3.out; obtain ⟨v30, v31⟩ := HVC.out _ HB3.out; have e3z := World.block_lt_of_cell? _ _ e3; have v3z := World.block_lt_of_cell? _ _ v30; simp only [] at e3z v3z; have B3 := Lib.hid (Below.then B2.out hb3); have z3 : w.heap.size < w3.heap.size := Nat.lt_of_lt_of_le z2 hb3.size; have c3_0 := (hb3.cell (p := ⟨w.heap.size, 0, none⟩) z2).trans c2_0; have c3_1 := (hb3.cell (p := ⟨w.heap.size, 1, none⟩) z2).trans c2_1; have c3_2 := (hb3.cell (p := ⟨w.heap.size, 2, none⟩) z2).trans c2_2; have c3_3 := (hb3.cell (p := ⟨w.heap.size, 3, none⟩) z2).trans c2_3; have c3_4 := (hb3.cell (p := ⟨w.heap.size, 4, none⟩) z2).trans c2_4; have c3_5 := (hb3.cell (p := ⟨w.heap.size, 5, none⟩) z2).trans c2_5; clear hb3 c2_0 c2_1 c2_2 c2_3 c2_4 c2_5)
        simp only []
        refine hK.out _ _ (by go_keep) (fun hHeldB => ?_)
        clear hK
        try simp only [Act.put, List.setIfInBounds_toArray, List.set_cons_zero, List.set_cons_succ]
        refine tk30_28 (v := ?v28) (by kernel_rfl) (by kernel_rfl) (by kernel_rfl) (fun _ _ _ h => h) (Or.inl ⟨by rfl, ?hy28⟩) (by assumption) ?rs28
        case hy28 => (intro w hSw; (try dsimp only at hSw); go_simp; try (with_reducible rfl))
        try simp only [Act.put, List.setIfInBounds_toArray, List.set_cons_zero, List.set_cons_succ]
        refine tk30_23 (v := ?v23) (by kernel_rfl) (by kernel_rfl) (by kernel_rfl) (fun _ _ _ h => h) (Or.inl ⟨by rfl, ?hy23⟩) (by assumption) ?rs23
        case hy23 => (intro w hSw; (try dsimp only at hSw); go_simp; try (with_reducible rfl))
        try simp only [Act.put, List.setIfInBounds_toArray, List.set_cons_zero, List.set_cons_succ]
        refine br30_24 (by kernel_rfl) (fun K hK => ?_)
        go_simp
        refine hK.out _ _ (by go_keep) (fun hHeldB => ?_)
        clear hK
        try simp only [Act.put, List.setIfInBounds_toArray, List.set_cons_zero, List.set_cons_succ]
        refine tk30_26 (v := ?v26) (by kernel_rfl) (by kernel_rfl) (by kernel_rfl) (fun _ _ _ h => h) (Or.inl ⟨by rfl, ?hy26⟩) (by assumption) ?rs26
        case hy26 => (intro w hSw; (try dsimp only at hSw); go_simp; try (with_reducible rfl))
        try simp only [Act.put, List.setIfInBounds_toArray, List.set_cons_zero, List.set_cons_succ]
        refine br30_27 (by kernel_rfl) (fun K hK => ?_)
        go_simp
        refine hK.out _ _ (by go_keep) (fun hHeldB => ?_)
        clear hK
        try simp only [Act.put, List.setIfInBounds_toArray, List.set_cons_zero, List.set_cons_succ]
        refine tk30_29 (v := ?v29) (by kernel_rfl) (by kernel_rfl) (by kernel_rfl) (fun _ _ _ h => h) (Or.inl ⟨by rfl, ?hy29⟩) (by assumption) ?rs29
        case hy29 => (intro w hSw; (try dsimp only at hSw); go_simp; try (with_reducible rfl))
        try simp only [Act.put, List.setIfInBounds_toArray, List.set_cons_zero, List.set_cons_succ]
        refine wpAnyH_done (by kernel_rfl) ?_ _
        go_wp2_with (first | (go_at_call 70; (with_reducible refine (Ranks_is (HRD.out _ (by first | exact HB3.out | exact HB3.out.drew)) HRK.out).mono ?_); rintro e w4 ⟨a4, n4, x4, rfl, h4, hb4⟩; have HK4 := Lib.hid (ownsI_rd h4); have HO4 := Lib.hid (HO3.out.ext (Below.then (show Below w3.heap.size w3 _ by (repeat' (first | (with_reducible exact Below.refl _ _) | (with_reducible assumption) | (with_reducible refine Below.alloc ?_ ?_ _) | (with_reducible refine Below.drew ?_) | (with_reducible refine Below.draws ?_ _) | (with_reducible refine Below.setCell ?_ ?_ _) | (refine Below.then ?_ (by with_reducible assumption)) | go_size))) hb4)); have B4 := Lib.hid (Below.then B3.out (Below.then (show Below w3.heap.size w3 _ by (repeat' (first | (with_reducible exact Below.refl _ _) | (with_reducible assumption) | (with_reducible refine Below.alloc ?_ ?_ _) | (with_reducible refine Below.drew ?_) | (with_reducible refine Below.draws ?_ _) | (with_reducible refine Below.setCell ?_ ?_ _) | (refine Below.then ?_ (by with_reducible assumption)) | go_size))) hb4)); clear h4 hb4) | (go_at_call 72; (with_reducible refine (indexR_any _ _ _ _ _ _ _ HK4.out (HXA.out i HIL.out) HXN.out).mono ?_); rintro e wq ⟨rfl, rfl⟩))
        have hn2 : n2 ≤ 504000 := by rw [← HO4.out.length]; exact HOL.out
        go_loopw [16, 86] (fun v16 v86 wr => ∃ k : Nat, k ≤ n2 ∧ v16 = .int .i64 (cntE Fb (o.take k)) ∧ v86 = .int .i64 k ∧ Below w4.heap.size w4 wr) (fun _ v _ => n2 - (intOf v).toNat)
        case atStart => exact ⟨0, Nat.zero_le _, rfl, rfl, Below.refl _ _⟩
        case round =>
          obtain ⟨k, hk, rfl, rfl, hB⟩ := hrel
          have HB := Lib.hid hB
          have hbd := cnt_take_bd Fb o k
          by_cases hkn : k < n2
          · obtain ⟨x, b1, o1, rfl, hb1, hx, q0, q1, q2, q3, q4⟩ := (HO4.out.ext hB).en_at k hkn
            have htk := cnt_take (p := Fb) hx
            rw [HFB.out x] at htk
            have hmem := List.mem_of_getElem? hx
            have HX1 : Hid (x.w = 4 → ∃ k : Nat, x.k = (k : Int) ∧ k < RL.length) := Lib.hid (HOK.out x hmem)
            obtain ⟨C, hC⟩ : ∃ C, cntE Fb (o.take k) = C := ⟨_, rfl⟩
            rw [hC] at htk hbd ⊢
            have wr1 : IntKind.i64.wrap (C + 1) = C + 1 := IntWalk.i64_in _ (by have := HOL.out; omega)
            obtain ⟨m1, k1, w1', a1, c1⟩ := x
            simp only [] at q0 q1 q2 q3 q4 htk HX1 ⊢
            have HTK0 := Lib.hid htk
            have HKR := Lib.hid (HK4.out.ext hB)
            clear hB hx hC hmem hbd htk
            go_upto_region 10 with fail
            (obtain ⟨we, hwe⟩ : ∃ x, x = wr.alloc (.cells #[.int .i64 m1, .int .i64 k1, .int .i64 w1', .int .i64 a1, .int .i64 c1] 43) := ⟨_, rfl⟩); have HBE : Hid (Below wr.heap.size wr we) := Lib.hid (by rw [hwe]; (repeat' (first | (with_reducible exact Below.refl _ _) | (with_reducible assumption) | (with_reducible refine Below.alloc ?_ ?_ _) | (with_reducible refine Below.drew ?_) | (with_reducible refine Below.draws ?_ _) | (with_reducible refine Below.setCell ?_ ?_ _) | (refine Below.then ?_ (by with_reducible assumption)) | go_size))); have HE5 : Hid (Blk5 we wr.heap.size ⟨m1, k1, w1', a1, c1⟩) := Lib.hid (by rw [hwe]; exact ⟨by simp [go_sem], by simp [go_sem], by simp [go_sem], by simp [go_sem], by simp [go_sem], fun j => by simp [go_sem], by simp⟩); rw [← hwe]; clear hwe
            have HKE := Lib.hid (HKR.out.ext HBE.out)
            obtain ⟨u0, u1, u2, u3, u4, uf, uz⟩ := HE5.out
            clear uf q0 q1 q2 q3 q4
            by_cases h4 : w1' = 4
            · subst h4
              obtain ⟨kk, hkk, hkl⟩ := HX1.out rfl
              subst hkk
              have HKK := Lib.hid hkl
              by_cases hr : rf ≤ m1
              · have hr' : decide (rf ≤ m1) = true := by simpa using hr
                have hE3 : (decide (z < 0) = true) ∨ (decide (z < 0) = false ∧ decide (m1 < z) = true) ∨ (decide (z < 0) = false ∧ decide (m1 < z) = false) := by simp; omega
                rcases hE3 with h5 | ⟨h5, h6⟩ | ⟨h5, h6⟩
                · by_cases hbh : cnt RL i < cnt RL kk
                  · have HTK : Hid (cntE Fb (o.take (k + 1)) = C + 1) := Lib.hid (by rw [HTK0.out, if_pos (by simp [hr, hbh]; simp at h5; omega)])
                    have hb' : decide (cnt RL i < cnt RL kk) = true := by simpa using hbh
                    (go_wp2_with (first | (go_at_call 72; (with_reducible refine (indexR_any _ _ _ _ _ _ _ HKE.out (HXA.out kk HKK.out) HXN.out).mono ?_); rintro e wq ⟨rfl, rfl⟩)); go_roundw; (case rel => exact ⟨k + 1, hkn, by rw [HTK.out], by go_num, Below.then HB.out HBE.out⟩); (case measure => (simp [intOf]; omega)))
                  · have HTK : Hid (cntE Fb (o.take (k + 1)) = C) := Lib.hid (by rw [HTK0.out, if_neg (by simp [hbh])]; simp)
                    have hb' : decide (cnt RL i < cnt RL kk) = false := by simpa using hbh
                    (go_wp2_with (first | (go_at_call 72; (with_reducible refine (indexR_any _ _ _ _ _ _ _ HKE.out (HXA.out kk HKK.out) HXN.out).mono ?_); rintro e wq ⟨rfl, rfl⟩)); go_roundw; (case rel => exact ⟨k + 1, hkn, by rw [HTK.out], by go_num, Below.then HB.out HBE.out⟩); (case measure => (simp [intOf]; omega)))
                · by_cases hbh : cnt RL i < cnt RL kk
                  · have HTK : Hid (cntE Fb (o.take (k + 1)) = C + 1) := Lib.hid (by rw [HTK0.out, if_pos (by simp [hr, hbh]; simp at h6; omega)])
                    have hb' : decide (cnt RL i < cnt RL kk) = true := by simpa using hbh
                    (go_wp2_with (first | (go_at_call 72; (with_reducible refine (indexR_any _ _ _ _ _ _ _ HKE.out (HXA.out kk HKK.out) HXN.out).mono ?_); rintro e wq ⟨rfl, rfl⟩)); go_roundw; (case rel => exact ⟨k + 1, hkn, by rw [HTK.out], by go_num, Below.then HB.out HBE.out⟩); (case measure => (simp [intOf]; omega)))
                  · have HTK : Hid (cntE Fb (o.take (k + 1)) = C) := Lib.hid (by rw [HTK0.out, if_neg (by simp [hbh])]; simp)
                    have hb' : decide (cnt RL i < cnt RL kk) = false := by simpa using hbh
                    (go_wp2_with (first | (go_at_call 72; (with_reducible refine (indexR_any _ _ _ _ _ _ _ HKE.out (HXA.out kk HKK.out) HXN.out).mono ?_); rintro e wq ⟨rfl, rfl⟩)); go_roundw; (case rel => exact ⟨k + 1, hkn, by rw [HTK.out], by go_num, Below.then HB.out HBE.out⟩); (case measure => (simp [intOf]; omega)))
                · have HTK : Hid (cntE Fb (o.take (k + 1)) = C) := Lib.hid (by rw [HTK0.out, if_neg (by rw [h5, h6]; simp)]; simp)
                  (go_wp2_with (first | (go_at_call 72; (with_reducible refine (indexR_any _ _ _ _ _ _ _ HKE.out (HXA.out kk HKK.out) HXN.out).mono ?_); rintro e wq ⟨rfl, rfl⟩)); go_roundw; (case rel => exact ⟨k + 1, hkn, by rw [HTK.out], by go_num, Below.then HB.out HBE.out⟩); (case measure => (simp [intOf]; omega)))
              · have hr' : decide (rf ≤ m1) = false := by simpa using hr
                have HTK : Hid (cntE Fb (o.take (k + 1)) = C) := Lib.hid (by rw [HTK0.out, if_neg (by rw [hr']; simp)]; simp)
                (go_wp2_with (first | (go_at_call 72; (with_reducible refine (indexR_any _ _ _ _ _ _ _ HKE.out (HXA.out kk HKK.out) HXN.out).mono ?_); rintro e wq ⟨rfl, rfl⟩)); go_roundw; (case rel => exact ⟨k + 1, hkn, by rw [HTK.out], by go_num, Below.then HB.out HBE.out⟩); (case measure => (simp [intOf]; omega)))
            · have h4' : (w1' == 4) = false := by simpa using h4
              have HTK : Hid (cntE Fb (o.take (k + 1)) = C) := Lib.hid (by rw [HTK0.out, if_neg (by simp [h4])]; simp)
              go_wp2_with fail
              go_roundw
              case rel => exact ⟨k + 1, hkn, by rw [HTK.out], by go_num, Below.then HB.out HBE.out⟩
              case measure => simp [intOf]; omega
          · have e : cntE Fb (o.take k) = Z := by rw [List.take_of_length_le (by rw [HO4.out.length]; omega), HZ.out]
            rw [e]
            clear hB hbd e
            go_wp2
            go_ret2
            exact ⟨rfl, B4.out.trans (HB.out.mono B4.out.size)⟩
end Go.Proofs.Ytlhnhmimhpcoaaa
namespace Go.Proofs.Ytlhnhmimhpcoaaa
open Go.RowKit
set_option linter.unusedSimpArgs false
set_option linter.unusedVariables false
theorem rSim_is {H : RunH} {R : Rn} {t : Int} {w : World} {xs : List En} {y : Int} (hR : ReadRun w H R) (h : simR R t = (xs, y)) : Calls Try.prog 16 #[runV H R.fr R.sl, .int .i64 t] w (OutEn w xs y) := by
  have := rSim_any H R t w hR
  rw [h] at this; exact this
set_option maxRecDepth 100000 in
set_option maxHeartbeats 4000000 in
theorem rIdle_any (H : RunH) (R : Rn) (t : Int) (w : World) (hR : ReadRun w H R) : Calls Try.prog 40 #[runV H R.fr R.sl, .int .i64 t] w fun e w' => e = rII (idleR R t).1 (idleR R t).2 ∧ Below w.heap.size w w' := by
  obtain ⟨⟨o, er⟩, hS⟩ : ∃ p, simR R t = p := ⟨_, rfl⟩
  have HS := Lib.hid (fun w1 (hb : Below w.heap.size w w1) => rSim_is (hR.ext hb) hS)
  unfold simR at hS
  unfold idleR
  obtain ⟨B, hB⟩ : ∃ B, (runB R && inB t 0 2000) = B := ⟨_, rfl⟩
  rw [hB] at hS ⊢
  cases B
  · obtain ⟨rfl, rfl⟩ : o = [] ∧ er = 1 := by simp at hS; exact ⟨hS.1.symm ▸ rfl, hS.2.symm⟩
    obtain ⟨fr, hfr⟩ : ∃ x, R.fr = x := ⟨_, rfl⟩
    obtain ⟨sl_, hsl⟩ : ∃ x, R.sl = x := ⟨_, rfl⟩
    rw [hfr, hsl] at HS ⊢
    obtain ⟨tA, tN, tC, eA, eN, eC, bA, bN, bC, sA, sN, sC⟩ := H
    unfold runV at HS ⊢
    simp only [] at HS ⊢
    clear hR hB hfr hsl hS
    go_enter Try.func40, Try.ntmps40
    go_wp2_with (go_at_call 16; (with_reducible refine (HS.out _ (by (repeat' (first | (with_reducible exact Below.refl _ _) | (with_reducible assumption) | (with_reducible refine Below.alloc ?_ ?_ _) | (with_reducible refine Below.drew ?_) | (with_reducible refine Below.draws ?_ _) | (with_reducible refine Below.setCell ?_ ?_ _) | (refine Below.then ?_ (by with_reducible assumption)) | go_size)))).mono ?_); rintro e w1 ⟨a1, n1, x1, rfl, h1, hb1⟩; have HO1 := Lib.hid h1; clear h1; have B1 : Hid (Below w.heap.size w w1) := Lib.hid (Below.trans (by (repeat' (first | (with_reducible exact Below.refl _ _) | (with_reducible assumption) | (with_reducible refine Below.alloc ?_ ?_ _) | (with_reducible refine Below.drew ?_) | (with_reducible refine Below.draws ?_ _) | (with_reducible refine Below.setCell ?_ ?_ _) | (refine Below.then ?_ (by with_reducible assumption)) | go_size))) (hb1.mono (by simp))); have z1 : w.heap.size < w1.heap.size := Nat.lt_of_lt_of_le (by simp) hb1.size; have c1_0 := (hb1.cell (p := ⟨w.heap.size, 0, none⟩) (by simp)).trans (by simp [go_sem]; rfl); have c1_1 := (hb1.cell (p := ⟨w.heap.size, 1, none⟩) (by simp)).trans (by simp [go_sem]; rfl); have c1_2 := (hb1.cell (p := ⟨w.heap.size, 2, none⟩) (by simp)).trans (by simp [go_sem]; rfl); have c1_3 := (hb1.cell (p := ⟨w.heap.size, 3, none⟩) (by simp)).trans (by simp [go_sem]; rfl); have c1_4 := (hb1.cell (p := ⟨w.heap.size, 4, none⟩) (by simp)).trans (by simp [go_sem]; rfl); have c1_5 := (hb1.cell (p := ⟨w.heap.size, 5, none⟩) (by simp)).trans (by simp [go_sem]; rfl); clear hb1)
    go_ret2
    exact ⟨rfl, B1.out⟩
  · rw [Bool.and_eq_true, inB_iff] at hB
    obtain ⟨tn, rfl⟩ := Int.eq_ofNat_of_zero_le hB.2.1
    rw [if_pos rfl, Int.toNat_natCast] at hS
    rw [if_pos rfl, Int.toNat_natCast]
    unfold idleN
    have hol := plM_olen (run_ok hB.1).1 (show tn ≤ 2000 by omega)
    have htn : tn ≤ 2000 := by omega
    obtain ⟨rfl, rfl⟩ : (plM R tn).o = o ∧ er = 0 := by simp at hS; exact ⟨hS.1, hS.2.symm⟩
    obtain ⟨o, ho⟩ : ∃ x, (plM R tn).o = x := ⟨_, rfl⟩
    rw [ho] at HS hol ⊢
    obtain ⟨Z, hZ⟩ : ∃ Z, (tn : Int) - cntE isBusy o = Z := ⟨_, rfl⟩
    rw [hZ]
    have HZ := Lib.hid hZ
    obtain ⟨fr, hfr⟩ : ∃ x, R.fr = x := ⟨_, rfl⟩
    obtain ⟨sl_, hsl⟩ : ∃ x, R.sl = x := ⟨_, rfl⟩
    rw [hfr, hsl] at HS ⊢
    obtain ⟨tA, tN, tC, eA, eN, eC, bA, bN, bC, sA, sN, sC⟩ := H
    unfold runV at HS ⊢
    simp only [] at HS ⊢
    clear hR hB hfr hsl ho hZ hS
    go_enter Try.func40, Try.ntmps40
    go_wp2_with (go_at_call 16; (with_reducible refine (HS.out _ (by (repeat' (first | (with_reducible exact Below.refl _ _) | (with_reducible assumption) | (with_reducible refine Below.alloc ?_ ?_ _) | (with_reducible refine Below.drew ?_) | (with_reducible refine Below.draws ?_ _) | (with_reducible refine Below.setCell ?_ ?_ _) | (refine Below.then ?_ (by with_reducible assumption)) | go_size)))).mono ?_); rintro e w1 ⟨a1, n1, x1, rfl, h1, hb1⟩; have HO1 := Lib.hid h1; clear h1; have B1 : Hid (Below w.heap.size w w1) := Lib.hid (Below.trans (by (repeat' (first | (with_reducible exact Below.refl _ _) | (with_reducible assumption) | (with_reducible refine Below.alloc ?_ ?_ _) | (with_reducible refine Below.drew ?_) | (with_reducible refine Below.draws ?_ _) | (with_reducible refine Below.setCell ?_ ?_ _) | (refine Below.then ?_ (by with_reducible assumption)) | go_size))) (hb1.mono (by simp))); have z1 : w.heap.size < w1.heap.size := Nat.lt_of_lt_of_le (by simp) hb1.size; have c1_0 := (hb1.cell (p := ⟨w.heap.size, 0, none⟩) (by simp)).trans (by simp [go_sem]; rfl); have c1_1 := (hb1.cell (p := ⟨w.heap.size, 1, none⟩) (by simp)).trans (by simp [go_sem]; rfl); have c1_2 := (hb1.cell (p := ⟨w.heap.size, 2, none⟩) (by simp)).trans (by simp [go_sem]; rfl); have c1_3 := (hb1.cell (p := ⟨w.heap.size, 3, none⟩) (by simp)).trans (by simp [go_sem]; rfl); have c1_4 := (hb1.cell (p := ⟨w.heap.size, 4, none⟩) (by simp)).trans (by simp [go_sem]; rfl); have c1_5 := (hb1.cell (p := ⟨w.heap.size, 5, none⟩) (by simp)).trans (by simp [go_sem]; rfl); clear hb1)
    have HO2 := Lib.hid (Rd.of_owns encE_len (by decide) HO1.out)
    have hn1 : n1 ≤ 504000 := by rw [← HO2.out.length]; exact hol
    go_loopw [8, 9] (fun v1 v16 wr => ∃ k : Nat, k ≤ n1 ∧ v1 = .int .i64 ((tn : Int) - cntE isBusy (o.take k)) ∧ v16 = .int .i64 k ∧ Below w1.heap.size w1 wr) (fun _ v _ => n1 - (intOf v).toNat)
    case atStart => exact ⟨0, Nat.zero_le _, by simp [cntE], rfl, Below.refl _ _⟩
    case round =>
      obtain ⟨k, hk, rfl, rfl, hB⟩ := hrel
      have HB := Lib.hid hB
      have hbd := cnt_take_bd isBusy o k
      by_cases hkn : k < n1
      · obtain ⟨x, b1, o1, rfl, hb1, hx, q0, q1, q2, q3, q4⟩ := (HO2.out.ext hB).en_at k hkn
        have htk := cnt_take (p := isBusy) hx
        obtain ⟨C, hC⟩ : ∃ C, cntE isBusy (o.take k) = C := ⟨_, rfl⟩
        rw [hC] at htk hbd ⊢
        have wr1 : IntKind.i64.wrap ((tn : Int) - C - 1) = (tn : Int) - C - 1 := IntWalk.i64_in _ (by omega)
        obtain ⟨m1, k1, w1', a1, c1⟩ := x
        simp only [] at q0 q1 q2 q3 q4
        by_cases h4 : w1' = 4
        · subst h4
          have e : (tn : Int) - C - 1 = (tn : Int) - cntE isBusy (o.take (k + 1)) := by rw [htk, if_pos (by simp [isBusy])]; omega
          have HE := Lib.hid e
          clear hB hx htk hC hbd e
          go_wp2
          go_roundw
          case rel => exact ⟨k + 1, hkn, by first | rfl | (rw [← HE.out]), by go_num, Below.then HB.out (by (repeat' (first | (with_reducible exact Below.refl _ _) | (with_reducible assumption) | (with_reducible refine Below.alloc ?_ ?_ _) | (with_reducible refine Below.drew ?_) | (with_reducible refine Below.draws ?_ _) | (with_reducible refine Below.setCell ?_ ?_ _) | (refine Below.then ?_ (by with_reducible assumption)) | go_size)))⟩
          case measure => simp [intOf]; omega
        · have h4' : (w1' == 4) = false := by simpa using h4
          by_cases h3 : w1' = 3
          · subst h3
            have e : (tn : Int) - C - 1 = (tn : Int) - cntE isBusy (o.take (k + 1)) := by rw [htk, if_pos (by simp [isBusy])]; omega
            have HE := Lib.hid e
            clear hB hx htk hC hbd e
            go_wp2
            go_roundw
            case rel => exact ⟨k + 1, hkn, by first | rfl | (rw [← HE.out]), by go_num, Below.then HB.out (by (repeat' (first | (with_reducible exact Below.refl _ _) | (with_reducible assumption) | (with_reducible refine Below.alloc ?_ ?_ _) | (with_reducible refine Below.drew ?_) | (with_reducible refine Below.draws ?_ _) | (with_reducible refine Below.setCell ?_ ?_ _) | (refine Below.then ?_ (by with_reducible assumption)) | go_size)))⟩
            case measure => simp [intOf]; omega
          · have h3' : (w1' == 3) = false := by simpa using h3
            have e : cntE isBusy (o.take (k + 1)) = C := by rw [htk, if_neg (by simp [isBusy, h3, h4])]; omega
            have HE := Lib.hid e
            clear hB hx htk hC hbd e
            go_wp2
            go_roundw
            case rel => exact ⟨k + 1, hkn, by rw [HE.out], by go_num, Below.then HB.out (by (repeat' (first | (with_reducible exact Below.refl _ _) | (with_reducible assumption) | (with_reducible refine Below.alloc ?_ ?_ _) | (with_reducible refine Below.drew ?_) | (with_reducible refine Below.draws ?_ _) | (with_reducible refine Below.setCell ?_ ?_ _) | (refine Below.then ?_ (by with_reducible assumption)) | go_size)))⟩
            case measure => simp [intOf]; omega
      · have e : (tn : Int) - cntE isBusy (o.take k) = Z := by rw [List.take_of_length_le (by rw [HO2.out.length]; omega), HZ.out]
        rw [e]
        clear hB hbd e
        go_wp2
        go_ret2
        exact ⟨rfl, B1.out.trans (HB.out.mono B1.out.size)⟩
set_option maxRecDepth 100000 in
set_option maxHeartbeats 4000000 in
theorem rWorked_any (H : RunH) (R : Rn) (t : Int) (w : World) (hR : ReadRun w H R) : Calls Try.prog 38 #[runV H R.fr R.sl, .int .i64 t] w (OutTE w.heap.size w (workedR R t).1 (workedR R t).2) := by
  obtain ⟨⟨o, er⟩, hS⟩ : ∃ p, simR R t = p := ⟨_, rfl⟩
  have HS := Lib.hid (fun w1 (hb : Below w.heap.size w w1) => rSim_is (hR.ext hb) hS)
  unfold simR at hS
  unfold workedR
  obtain ⟨B, hB⟩ : ∃ B, (runB R && inB t 0 2000) = B := ⟨_, rfl⟩
  rw [hB] at hS ⊢
  cases B
  · obtain ⟨rfl, rfl⟩ : o = [] ∧ er = 1 := by simp at hS; exact ⟨hS.1.symm ▸ rfl, hS.2.symm⟩
    obtain ⟨fr, hfr⟩ : ∃ x, R.fr = x := ⟨_, rfl⟩
    obtain ⟨sl_, hsl⟩ : ∃ x, R.sl = x := ⟨_, rfl⟩
    rw [hfr, hsl] at HS ⊢
    obtain ⟨tA, tN, tC, eA, eN, eC, bA, bN, bC, sA, sN, sC⟩ := H
    unfold runV at HS ⊢
    simp only [] at HS ⊢
    clear hR hB hfr hsl hS
    go_enter Try.func38, Try.ntmps38
    go_wp2_with (go_at_call 16; (with_reducible refine (HS.out _ (by (repeat' (first | (with_reducible exact Below.refl _ _) | (with_reducible assumption) | (with_reducible refine Below.alloc ?_ ?_ _) | (with_reducible refine Below.drew ?_) | (with_reducible refine Below.draws ?_ _) | (with_reducible refine Below.setCell ?_ ?_ _) | (refine Below.then ?_ (by with_reducible assumption)) | go_size)))).mono ?_); rintro e w1 ⟨a1, n1, x1, rfl, h1, hb1⟩; have HO1 := Lib.hid h1; clear h1; have B1 : Hid (Below w.heap.size w w1) := Lib.hid (Below.trans (by (repeat' (first | (with_reducible exact Below.refl _ _) | (with_reducible assumption) | (with_reducible refine Below.alloc ?_ ?_ _) | (with_reducible refine Below.drew ?_) | (with_reducible refine Below.draws ?_ _) | (with_reducible refine Below.setCell ?_ ?_ _) | (refine Below.then ?_ (by with_reducible assumption)) | go_size))) (hb1.mono (by simp))); have z1 : w.heap.size < w1.heap.size := Nat.lt_of_lt_of_le (by simp) hb1.size; have c1_0 := (hb1.cell (p := ⟨w.heap.size, 0, none⟩) (by simp)).trans (by simp [go_sem]; rfl); have c1_1 := (hb1.cell (p := ⟨w.heap.size, 1, none⟩) (by simp)).trans (by simp [go_sem]; rfl); have c1_2 := (hb1.cell (p := ⟨w.heap.size, 2, none⟩) (by simp)).trans (by simp [go_sem]; rfl); have c1_3 := (hb1.cell (p := ⟨w.heap.size, 3, none⟩) (by simp)).trans (by simp [go_sem]; rfl); have c1_4 := (hb1.cell (p := ⟨w.heap.size, 4, none⟩) (by simp)).trans (by simp [go_sem]; rfl); have c1_5 := (hb1.cell (p := ⟨w.heap.size, 5, none⟩) (by simp)).trans (by simp [go_sem]; rfl); clear hb1)
    go_ret2
    exact OutTE.none B1.out
  · rw [Bool.and_eq_true, inB_iff] at hB
    obtain ⟨tn, rfl⟩ := Int.eq_ofNat_of_zero_le hB.2.1
    rw [if_pos rfl, Int.toNat_natCast] at hS
    rw [if_pos rfl, Int.toNat_natCast]
    have hr := (run_ok hB.1).1
    have htn : tn ≤ 2000 := by omega
    have hol := plM_olen hr htn
    have hok := plM_ok4 hr tn
    obtain ⟨rfl, rfl⟩ : (plM R tn).o = o ∧ er = 0 := by simp at hS; exact ⟨hS.1, hS.2.symm⟩
    obtain ⟨o, ho⟩ : ∃ x, (plM R tn).o = x := ⟨_, rfl⟩
    rw [ho] at HS hol hok ⊢
    have hTN := hR.t.length
    have hL5 := hr.r.len
    obtain ⟨nL, hnL⟩ : ∃ x, R.L.length = x := ⟨_, rfl⟩
    rw [hnL] at hTN hL5 ⊢
    have HOK : Hid (∀ e ∈ o, e.w = 4 → ∃ i : Nat, e.k = (i : Int) ∧ i < nL) := Lib.hid (fun e he h4 => by obtain ⟨i, _, _, h1, _, _, h2, _⟩ := hok e he h4; exact ⟨i, h1, by rw [← hnL]; exact h2⟩)
    have HOL := Lib.hid hol
    obtain ⟨Z, hZ⟩ : ∃ Z, wkRow nL o = Z := ⟨_, rfl⟩
    rw [hZ]
    have HZ := Lib.hid hZ
    obtain ⟨fr, hfr⟩ : ∃ x, R.fr = x := ⟨_, rfl⟩
    obtain ⟨sl_, hsl⟩ : ∃ x, R.sl = x := ⟨_, rfl⟩
    rw [hfr, hsl] at HS ⊢
    obtain ⟨tA, tN, tC, eA, eN, eC, bA, bN, bC, sA, sN, sC⟩ := H
    unfold runV at HS ⊢
    simp only [] at HS hTN ⊢
    obtain rfl : nL = tN := hTN
    clear hR hB hfr hsl ho hZ hr hok hnL hol hS
    have hmk1 := run_make_row' (P := Try.prog) 26 3 (.int .i64 0) 8 Try.underlying26 (by kernel_rfl) rfl .i64 .i64 nL (by omega) (by omega)
    go_enter Try.func38, Try.ntmps38
    go_upto_region 5 with (go_at_call 16; (with_reducible refine (HS.out _ (by (repeat' (first | (with_reducible exact Below.refl _ _) | (with_reducible assumption) | (with_reducible refine Below.alloc ?_ ?_ _) | (with_reducible refine Below.drew ?_) | (with_reducible refine Below.draws ?_ _) | (with_reducible refine Below.setCell ?_ ?_ _) | (refine Below.then ?_ (by with_reducible assumption)) | go_size)))).mono ?_); rintro e w1 ⟨a1, n1, x1, rfl, h1, hb1⟩; have HO1 := Lib.hid h1; clear h1; have B1 : Hid (Below w.heap.size w w1) := Lib.hid (Below.trans (by (repeat' (first | (with_reducible exact Below.refl _ _) | (with_reducible assumption) | (with_reducible refine Below.alloc ?_ ?_ _) | (with_reducible refine Below.drew ?_) | (with_reducible refine Below.draws ?_ _) | (with_reducible refine Below.setCell ?_ ?_ _) | (refine Below.then ?_ (by with_reducible assumption)) | go_size))) (hb1.mono (by simp))); have z1 : w.heap.size < w1.heap.size := Nat.lt_of_lt_of_le (by simp) hb1.size; have c1_0 := (hb1.cell (p := ⟨w.heap.size, 0, none⟩) (by simp)).trans (by simp [go_sem]; rfl); have c1_1 := (hb1.cell (p := ⟨w.heap.size, 1, none⟩) (by simp)).trans (by simp [go_sem]; rfl); have c1_2 := (hb1.cell (p := ⟨w.heap.size, 2, none⟩) (by simp)).trans (by simp [go_sem]; rfl); have c1_3 := (hb1.cell (p := ⟨w.heap.size, 3, none⟩) (by simp)).trans (by simp [go_sem]; rfl); have c1_4 := (hb1.cell (p := ⟨w.heap.size, 4, none⟩) (by simp)).trans (by simp [go_sem]; rfl); have c1_5 := (hb1.cell (p := ⟨w.heap.size, 5, none⟩) (by simp)).trans (by simp [go_sem]; rfl); clear hb1)
    obtain ⟨w2, hw2⟩ : ∃ x, x = w1.alloc (.cells (madeCells #[.int .i64 0] nL) 3) := ⟨_, rfl⟩
    have hb2 : Below w1.heap.size w1 w2 := by rw [hw2]; (repeat' (first | (with_reducible exact Below.refl _ _) | (with_reducible assumption) | (with_reducible refine Below.alloc ?_ ?_ _) | (with_reducible refine Below.drew ?_) | (with_reducible refine Below.draws ?_ _) | (with_reducible refine Below.setCell ?_ ?_ _) | (refine Below.then ?_ (by with_reducible assumption)) | go_size))
    have HW2 : Hid (w2.ownsRow w1.heap.size 3 1 (.slice (some ⟨w1.heap.size, 0, none⟩) nL nL) nL ((wkRow nL (o.take 0)).flatMap enc1)) := Lib.hid (by rw [hw2, List.take_zero, wkRow_nil]; exact make_own nL (by omega) w1)
    rw [← hw2]
    have HO2 := Lib.hid (Rd.ext (Rd.of_owns encE_len (by decide) HO1.out) hb2)
    have HR1 := Lib.hid (Rd.of_owns encE_len (by decide) HO1.out)
    have hn1 : n1 ≤ 504000 := by rw [← HR1.out.length]; exact HOL.out
    have HB12 := Lib.hid hb2
    have B2 := Lib.hid (Below.then B1.out hb2); have z2 : w.heap.size < w2.heap.size := Nat.lt_of_lt_of_le z1 hb2.size; have c2_0 := (hb2.cell (p := ⟨w.heap.size, 0, none⟩) z1).trans c1_0; have c2_1 := (hb2.cell (p := ⟨w.heap.size, 1, none⟩) z1).trans c1_1; have c2_2 := (hb2.cell (p := ⟨w.heap.size, 2, none⟩) z1).trans c1_2; have c2_3 := (hb2.cell (p := ⟨w.heap.size, 3, none⟩) z1).trans c1_3; have c2_4 := (hb2.cell (p := ⟨w.heap.size, 4, none⟩) z1).trans c1_4; have c2_5 := (hb2.cell (p := ⟨w.heap.size, 5, none⟩) z1).trans c1_5; clear hb2 c1_0 c1_1 c1_2 c1_3 c1_4 c1_5
    clear hw2
    go_wp2
    go_loopw [9] (fun v wr => ∃ k : Nat, k ≤ n1 ∧ v = .int .i64 k ∧ wr.ownsRow w1.heap.size 3 1 (.slice (some ⟨w1.heap.size, 0, none⟩) nL nL) nL ((wkRow nL (o.take k)).flatMap enc1) ∧ Below w1.heap.size w1 wr) (fun v _ => n1 - (intOf v).toNat)
    case atStart => exact ⟨0, Nat.zero_le _, rfl, HW2.out, HB12.out⟩
    case round =>
      clear HW2
      obtain ⟨k, hk, rfl, hW, hB⟩ := hrel
      have HB := Lib.hid hB; have HW := Lib.hid hW
      by_cases hkn : k < n1
      · obtain ⟨x, b1, o1, rfl, hb1, hx, q0, q1, q2, q3, q4⟩ := (HR1.out.ext hB).en_at k hkn
        have HX := Lib.hid hx
        have hmem := List.mem_of_getElem? hx
        obtain ⟨m1, k1, w1', a1, c1⟩ := x
        simp only [] at q0 q1 q2 q3 q4
        by_cases h4 : w1' = 4
        · subst h4
          obtain ⟨i, hi, hil⟩ := HOK.out _ hmem rfl
          simp only [] at hi
          subst hi
          obtain ⟨y, hy, d1, f1, gl⟩ := ownsI_at hW i hil
          rw [wkRow_get hil] at hy
          have hyb := cnt_take_bd (isWk i) o k
          obtain rfl : cntE (isWk i) (o.take k) = y := by simpa using hy
          have wr1 : IntKind.i64.wrap (cntE (isWk i) (o.take k) + 1) = cntE (isWk i) (o.take k) + 1 := IntWalk.i64_in _ (by have := HOL.out; omega)
          obtain ⟨C, hC⟩ : ∃ C, cntE (isWk i) (o.take k) = C := ⟨_, rfl⟩
          rw [hC] at wr1 d1
          have htk := wkRow_take4 (n := nL) hx rfl rfl hil
          rw [hC] at htk
          have HTK := Lib.hid htk
          clear hW hB hx hmem hy hyb htk hC
          go_wp2
          go_roundw
          case rel =>
            refine ⟨k + 1, hkn, by go_num, ?_, ?_⟩
            · rw [HTK.out]
              exact ownsI_set HW.out i (C + 1)
            · exact HB.out.setCell (p := ⟨w1.heap.size, i, none⟩) (Nat.le_refl _) _
          case measure => simp [intOf]; omega
        · have h4' : (w1' == 4) = false := by simpa using h4
          have htk := wkRow_take (n := nL) hx h4
          have HTK := Lib.hid htk
          clear hW hB hx hmem htk
          go_wp2
          go_roundw
          case rel => exact ⟨k + 1, hkn, by go_num, by rw [HTK.out]; exact HW.out, HB.out⟩
          case measure => simp [intOf]; omega
      · rw [List.take_of_length_le (by rw [HR1.out.length]; omega), HZ.out] at hW
        have HW := Lib.hid hW
        clear hW hB
        go_wp2
        go_ret2
        exact ⟨_, _, _, rfl, owns_mono HW.out B1.out.size, B1.out.trans (HB.out.mono B1.out.size)⟩
set_option maxRecDepth 100000 in
set_option maxHeartbeats 4000000 in
theorem rPause_any (H : RunH) (R : Rn) (t : Int) (w : World) (hR : ReadRun w H R) : Calls Try.prog 42 #[runV H R.fr R.sl, .int .i64 t] w fun e w' => e = rII (pauseR R t).1 (pauseR R t).2 ∧ Below w.heap.size w w' := by
  have HV := Lib.hid (fun w1 (hb : Below w.heap.size w w1) => rValid_run H R w1 (hR.ext hb))
  obtain ⟨A, hA⟩ : ∃ A, runB R = A := ⟨_, rfl⟩
  obtain ⟨C, hC⟩ : ∃ C, inB t 0 2000 = C := ⟨_, rfl⟩
  unfold pauseR
  rw [hC, hA]
  rw [hA] at HV
  have HC := Lib.hid hC
  cases A
  · obtain ⟨fr, hfr⟩ : ∃ x, R.fr = x := ⟨_, rfl⟩
    obtain ⟨sl_, hsl⟩ : ∃ x, R.sl = x := ⟨_, rfl⟩
    rw [hfr, hsl] at HV ⊢
    obtain ⟨tA, tN, tC, eA, eN, eC, bA, bN, bC, sA, sN, sC⟩ := H
    unfold runV at HV ⊢
    simp only [] at HV ⊢
    clear hR hA hC hfr hsl
    go_enter Try.func42, Try.ntmps42
    go_wp2_with (go_at_call 19; (with_reducible refine (HV.out _ (by (repeat' (first | (with_reducible exact Below.refl _ _) | (with_reducible assumption) | (with_reducible refine Below.alloc ?_ ?_ _) | (with_reducible refine Below.drew ?_) | (with_reducible refine Below.draws ?_ _) | (with_reducible refine Below.setCell ?_ ?_ _) | (refine Below.then ?_ (by with_reducible assumption)) | go_size)))).mono ?_); rintro e w1 ⟨rfl, hb1⟩; have B1 : Hid (Below w.heap.size w w1) := Lib.hid (Below.trans (by (repeat' (first | (with_reducible exact Below.refl _ _) | (with_reducible assumption) | (with_reducible refine Below.alloc ?_ ?_ _) | (with_reducible refine Below.drew ?_) | (with_reducible refine Below.draws ?_ _) | (with_reducible refine Below.setCell ?_ ?_ _) | (refine Below.then ?_ (by with_reducible assumption)) | go_size))) (hb1.mono (by simp))); have z1 : w.heap.size < w1.heap.size := Nat.lt_of_lt_of_le (by simp) hb1.size; have c1_0 := (hb1.cell (p := ⟨w.heap.size, 0, none⟩) (by simp)).trans (by simp [go_sem]; rfl); have c1_1 := (hb1.cell (p := ⟨w.heap.size, 1, none⟩) (by simp)).trans (by simp [go_sem]; rfl); have c1_2 := (hb1.cell (p := ⟨w.heap.size, 2, none⟩) (by simp)).trans (by simp [go_sem]; rfl); have c1_3 := (hb1.cell (p := ⟨w.heap.size, 3, none⟩) (by simp)).trans (by simp [go_sem]; rfl); have c1_4 := (hb1.cell (p := ⟨w.heap.size, 4, none⟩) (by simp)).trans (by simp [go_sem]; rfl); have c1_5 := (hb1.cell (p := ⟨w.heap.size, 5, none⟩) (by simp)).trans (by simp [go_sem]; rfl); clear hb1)
    go_ret2
    exact ⟨rfl, B1.out⟩
  · cases C
    · obtain ⟨fr, hfr⟩ : ∃ x, R.fr = x := ⟨_, rfl⟩
      obtain ⟨sl_, hsl⟩ : ∃ x, R.sl = x := ⟨_, rfl⟩
      rw [hfr, hsl] at HV ⊢
      obtain ⟨tA, tN, tC, eA, eN, eC, bA, bN, bC, sA, sN, sC⟩ := H
      unfold runV at HV ⊢
      simp only [] at HV ⊢
      clear hR hA hC hfr hsl
      go_enter Try.func42, Try.ntmps42
      go_wp2_with (first | (go_at_call 19; (with_reducible refine (HV.out _ (by (repeat' (first | (with_reducible exact Below.refl _ _) | (with_reducible assumption) | (with_reducible refine Below.alloc ?_ ?_ _) | (with_reducible refine Below.drew ?_) | (with_reducible refine Below.draws ?_ _) | (with_reducible refine Below.setCell ?_ ?_ _) | (refine Below.then ?_ (by with_reducible assumption)) | go_size)))).mono ?_); rintro e w1 ⟨rfl, hb1⟩; have B1 : Hid (Below w.heap.size w w1) := Lib.hid (Below.trans (by (repeat' (first | (with_reducible exact Below.refl _ _) | (with_reducible assumption) | (with_reducible refine Below.alloc ?_ ?_ _) | (with_reducible refine Below.drew ?_) | (with_reducible refine Below.draws ?_ _) | (with_reducible refine Below.setCell ?_ ?_ _) | (refine Below.then ?_ (by with_reducible assumption)) | go_size))) (hb1.mono (by simp))); have z1 : w.heap.size < w1.heap.size := Nat.lt_of_lt_of_le (by simp) hb1.size; have c1_0 := (hb1.cell (p := ⟨w.heap.size, 0, none⟩) (by simp)).trans (by simp [go_sem]; rfl); have c1_1 := (hb1.cell (p := ⟨w.heap.size, 1, none⟩) (by simp)).trans (by simp [go_sem]; rfl); have c1_2 := (hb1.cell (p := ⟨w.heap.size, 2, none⟩) (by simp)).trans (by simp [go_sem]; rfl); have c1_3 := (hb1.cell (p := ⟨w.heap.size, 3, none⟩) (by simp)).trans (by simp [go_sem]; rfl); have c1_4 := (hb1.cell (p := ⟨w.heap.size, 4, none⟩) (by simp)).trans (by simp [go_sem]; rfl); have c1_5 := (hb1.cell (p := ⟨w.heap.size, 5, none⟩) (by simp)).trans (by simp [go_sem]; rfl); clear hb1) | (go_at_call 47; (with_reducible refine (cin_is HC.out).mono ?_); rintro e w3 ⟨rfl, rfl⟩))
      go_ret2
      exact ⟨rfl, B1.out⟩
    · rw [inB_iff] at hC
      obtain ⟨tn, rfl⟩ := Int.eq_ofNat_of_zero_le hC.1
      rw [if_pos (show (true && true) = true from rfl), Int.toNat_natCast]
      have hr := (run_ok hA).1
      have hf1 := hr.f
      have hsup := supB_iff.1 (run_ok hA).2.2.1
      have hle := fun k => pzR_le (R := R) hf1 (by omega) k
      have hps := pzR_pos R
      have HST : Hid (∀ k : Nat, pzR R (k + 1) = if (k : Int) % R.fr < R.sl then (max (pzR R k).1 ((pzR R k).2 + 1), (pzR R k).2 + 1) else (max (pzR R k).1 0, 0)) := Lib.hid (fun k => rfl)
      obtain ⟨PZ, hPZ⟩ : ∃ f, pzR R = f := ⟨_, rfl⟩
      have hp0 : PZ 0 = (0, 0) := by rw [← hPZ]; rfl
      rw [hPZ] at hle hps HST ⊢
      have HLE := Lib.hid hle; have HPS := Lib.hid hps; have HP0 := Lib.hid hp0
      obtain ⟨fr, hfr⟩ : ∃ x, R.fr = x := ⟨_, rfl⟩
      obtain ⟨sl_, hsl⟩ : ∃ x, R.sl = x := ⟨_, rfl⟩
      rw [hfr] at hf1 hsup HLE HST HV ⊢
      rw [hsl] at hsup HLE HST HV ⊢
      obtain ⟨tA, tN, tC, eA, eN, eC, bA, bN, bC, sA, sN, sC⟩ := H
      unfold runV at HV ⊢
      simp only [] at HV ⊢
      have hrem : fr ≠ 0 := by omega
      have hfr60 : fr ≤ 60 := by omega
      have hsl2 : sl_ ≤ 1000 := by omega
      have htn : tn ≤ 2000 := by omega
      clear hR hA hfr hsl hr hle hps hPZ hp0 hsup hC
      go_enter Try.func42, Try.ntmps42
      go_wp2_with (first | (go_at_call 19; (with_reducible refine (HV.out _ (by (repeat' (first | (with_reducible exact Below.refl _ _) | (with_reducible assumption) | (with_reducible refine Below.alloc ?_ ?_ _) | (with_reducible refine Below.drew ?_) | (with_reducible refine Below.draws ?_ _) | (with_reducible refine Below.setCell ?_ ?_ _) | (refine Below.then ?_ (by with_reducible assumption)) | go_size)))).mono ?_); rintro e w1 ⟨rfl, hb1⟩; have B1 : Hid (Below w.heap.size w w1) := Lib.hid (Below.trans (by (repeat' (first | (with_reducible exact Below.refl _ _) | (with_reducible assumption) | (with_reducible refine Below.alloc ?_ ?_ _) | (with_reducible refine Below.drew ?_) | (with_reducible refine Below.draws ?_ _) | (with_reducible refine Below.setCell ?_ ?_ _) | (refine Below.then ?_ (by with_reducible assumption)) | go_size))) (hb1.mono (by simp))); have z1 : w.heap.size < w1.heap.size := Nat.lt_of_lt_of_le (by simp) hb1.size; have c1_0 := (hb1.cell (p := ⟨w.heap.size, 0, none⟩) (by simp)).trans (by simp [go_sem]; rfl); have c1_1 := (hb1.cell (p := ⟨w.heap.size, 1, none⟩) (by simp)).trans (by simp [go_sem]; rfl); have c1_2 := (hb1.cell (p := ⟨w.heap.size, 2, none⟩) (by simp)).trans (by simp [go_sem]; rfl); have c1_3 := (hb1.cell (p := ⟨w.heap.size, 3, none⟩) (by simp)).trans (by simp [go_sem]; rfl); have c1_4 := (hb1.cell (p := ⟨w.heap.size, 4, none⟩) (by simp)).trans (by simp [go_sem]; rfl); have c1_5 := (hb1.cell (p := ⟨w.heap.size, 5, none⟩) (by simp)).trans (by simp [go_sem]; rfl); clear hb1) | (go_at_call 47; (with_reducible refine (cin_is HC.out).mono ?_); rintro e w3 ⟨rfl, rfl⟩))
      go_loopw [6, 7, 8] (fun v6 v7 v8 wr => ∃ k : Nat, k ≤ tn ∧ v6 = .int .i64 (PZ k).1 ∧ v7 = .int .i64 (PZ k).2 ∧ v8 = .int .i64 k ∧ Below w1.heap.size w1 wr) (fun _ _ v _ => tn - (intOf v).toNat)
      case atStart => exact ⟨0, Nat.zero_le _, by rw [HP0.out], by rw [HP0.out], rfl, Below.refl _ _⟩
      case round =>
        obtain ⟨k, hk, rfl, rfl, rfl, hB⟩ := hrel
        have HB := Lib.hid hB
        by_cases hkn : k < tn
        · have hst := HST.out k
          have hl := HLE.out k
          have hp := HPS.out k
          have d1 := (hB.cell (p := ⟨w.heap.size, 1, none⟩) z1).trans c1_1
          have d2 := (hB.cell (p := ⟨w.heap.size, 2, none⟩) z1).trans c1_2
          have zz := Nat.lt_of_lt_of_le z1 hB.size
          have hm1 := Int.emod_lt_of_pos (k : Int) (show 0 < fr by omega)
          obtain ⟨RM, hRM⟩ : ∃ x, (k : Int) % fr = x := ⟨_, rfl⟩
          have hRM2 : (k : Int).tmod fr = RM := by rw [Int.tmod_eq_emod_of_nonneg (by omega)]; exact hRM
          rw [hRM] at hst hl hm1
          obtain ⟨⟨P, Rw⟩, hPk⟩ : ∃ p, PZ k = p := ⟨_, rfl⟩
          rw [hPk] at hst hl hp ⊢
          simp only [] at hst hl hp ⊢
          have hfr2 : Rw ≤ 2000000 := by omega
          have wr1 : IntKind.i64.wrap (Rw + 1) = Rw + 1 := IntWalk.i64_in _ (by omega)
          by_cases hg : RM < sl_
          · have hg' : decide (sl_ ≤ RM) = false := by simpa using hg
            rw [if_pos hg] at hst
            have HST1 := Lib.hid hst
            clear hB hst hl hp hRM hPk hm1
            go_wp2_with (refine wp_region_later_lit (by kernel_rfl) (by kernel_rfl) ?_; (repeat (go_big_quiet_step (fail))); refine wpQuiet_nil ?_; intro w7 hb7)
            go_roundw
            case rel => exact ⟨k + 1, hkn, by rw [HST1.out] <;> first | rfl | simp, by rw [HST1.out], by go_num, Below.then HB.out hb7⟩
            case measure => simp [intOf]; omega
          · have hg' : decide (sl_ ≤ RM) = true := by simp; omega
            rw [if_neg hg] at hst
            have HST1 := Lib.hid hst
            clear hB hst hl hp hRM hPk hm1
            go_wp2_with (refine wp_region_later_lit (by kernel_rfl) (by kernel_rfl) ?_; (repeat (go_big_quiet_step (fail))); refine wpQuiet_nil ?_; intro w7 hb7)
            go_roundw
            case rel => exact ⟨k + 1, hkn, by rw [HST1.out] <;> first | rfl | simp, by rw [HST1.out], by go_num, Below.then HB.out hb7⟩
            case measure => simp [intOf]; omega
        · obtain rfl : k = tn := by omega
          clear hB
          go_wp2
          go_ret2
          exact ⟨rfl, B1.out.trans (HB.out.mono B1.out.size)⟩
end Go.Proofs.Ytlhnhmimhpcoaaa
namespace Go.Proofs.Ytlhnhmimhpcoaaa
open Go.RowKit
set_option linter.unusedSimpArgs false
set_option linter.unusedVariables false
set_option maxRecDepth 100000 in
set_option maxHeartbeats 8000000 in
theorem rBlocked_any (H : RunH) (R : Rn) (t i x : Int) (w : World) (hR : ReadRun w H R) (hi : -9223372036854775808 ≤ i ∧ i ≤ 9223372036854775807) (hx : -9223372036854775808 ≤ x ∧ x ≤ 9223372036854775807) :
    Calls Try.prog 35 #[runV H R.fr R.sl, .int .i64 t, .int .i64 i, .int .i64 x] w fun e w' => e = rII (blockedR R t i x).1 (blockedR R t i x).2 ∧ Below w.heap.size w w' := by
  obtain ⟨B, hB⟩ : ∃ B, (runB R && inB t 0 2000) = B := ⟨_, rfl⟩
  have HE := Lib.hid (fun w1 (hb : Below w.heap.size w w1) => rEnds_any H R t w1 (hR.ext hb))
  unfold blockedR isEv
  unfold endE endN at HE
  rw [hB] at HE ⊢
  cases B
  · simp only [Bool.false_eq_true, if_false] at HE
    rw [if_neg (by simp)]
    obtain ⟨fr, hfr⟩ : ∃ x, R.fr = x := ⟨_, rfl⟩
    obtain ⟨sl_, hsl⟩ : ∃ x, R.sl = x := ⟨_, rfl⟩
    rw [hfr, hsl] at HE ⊢
    obtain ⟨tA, tN, tC, eA, eN, eC, bA, bN, bC, sA, sN, sC⟩ := H
    unfold runV at HE ⊢
    simp only [] at HE ⊢
    clear hR hB hfr hsl
    go_enter Try.func35, Try.ntmps35
    go_wp2_with (go_at_call 26; (with_reducible refine (HE.out _ (by (repeat' (first | (with_reducible exact Below.refl _ _) | (with_reducible assumption) | (with_reducible refine Below.alloc ?_ ?_ _) | (with_reducible refine Below.drew ?_) | (with_reducible refine Below.draws ?_ _) | (with_reducible refine Below.setCell ?_ ?_ _) | (refine Below.then ?_ (by with_reducible assumption)) | go_size)))).mono ?_); rintro e w1 ⟨a1, c1, rfl, h1, hb1⟩; have HX1 := Lib.hid h1; clear h1; have B1 : Hid (Below w.heap.size w w1) := Lib.hid (Below.trans (by (repeat' (first | (with_reducible exact Below.refl _ _) | (with_reducible assumption) | (with_reducible refine Below.alloc ?_ ?_ _) | (with_reducible refine Below.drew ?_) | (with_reducible refine Below.draws ?_ _) | (with_reducible refine Below.setCell ?_ ?_ _) | (refine Below.then ?_ (by with_reducible assumption)) | go_size))) (hb1.mono (by simp))); have z1 : w.heap.size < w1.heap.size := Nat.lt_of_lt_of_le (by simp) hb1.size; have c1_0 := (hb1.cell (p := ⟨w.heap.size, 0, none⟩) (by simp)).trans (by simp [go_sem]; rfl); have c1_1 := (hb1.cell (p := ⟨w.heap.size, 1, none⟩) (by simp)).trans (by simp [go_sem]; rfl); have c1_2 := (hb1.cell (p := ⟨w.heap.size, 2, none⟩) (by simp)).trans (by simp [go_sem]; rfl); have c1_3 := (hb1.cell (p := ⟨w.heap.size, 3, none⟩) (by simp)).trans (by simp [go_sem]; rfl); have c1_4 := (hb1.cell (p := ⟨w.heap.size, 4, none⟩) (by simp)).trans (by simp [go_sem]; rfl); have c1_5 := (hb1.cell (p := ⟨w.heap.size, 5, none⟩) (by simp)).trans (by simp [go_sem]; rfl); clear hb1)
    go_ret2
    exact ⟨rfl, B1.out⟩
  · simp only [if_true] at HE
    have hS : simR R t = ((plM R t.toNat).o, 0) := by unfold simR; rw [hB, if_pos rfl]
    have HS := Lib.hid (fun w1 (hb : Below w.heap.size w w1) => rSim_is (hR.ext hb) hS)
    rw [Bool.and_eq_true, inB_iff] at hB
    obtain ⟨tn, rfl⟩ := Int.eq_ofNat_of_zero_le hB.2.1
    have hr := (run_ok hB.1).1
    have htn : tn ≤ 2000 := by omega
    have hTN := hR.t.length
    have hL5 := hr.r.len
    obtain ⟨C1, hC1⟩ : ∃ C, inB i 0 ((R.L.length : Int) - 1) = C := ⟨_, rfl⟩
    rw [hC1]
    have hC1' : inB i 0 ((H.tN : Int) - 1) = C1 := by rw [← hTN]; exact hC1
    have HC1 := Lib.hid hC1'
    have wl : IntKind.i64.wrap ((H.tN : Int) - 1) = (H.tN : Int) - 1 := IntWalk.i64_in _ (by omega)
    cases C1
    · rw [if_neg (by simp)]
      obtain ⟨fr, hfr⟩ : ∃ x, R.fr = x := ⟨_, rfl⟩
      obtain ⟨sl_, hsl⟩ : ∃ x, R.sl = x := ⟨_, rfl⟩
      rw [hfr, hsl] at HE ⊢
      obtain ⟨tA, tN, tC, eA, eN, eC, bA, bN, bC, sA, sN, sC⟩ := H
      unfold runV at HE ⊢
      simp only [] at HE HC1 wl ⊢
      clear hR hB hfr hsl hC1 hC1' hTN hL5 hr hS HS
      go_enter Try.func35, Try.ntmps35
      go_wp2_with (first | (go_at_call 26; (with_reducible refine (HE.out _ (by (repeat' (first | (with_reducible exact Below.refl _ _) | (with_reducible assumption) | (with_reducible refine Below.alloc ?_ ?_ _) | (with_reducible refine Below.drew ?_) | (with_reducible refine Below.draws ?_ _) | (with_reducible refine Below.setCell ?_ ?_ _) | (refine Below.then ?_ (by with_reducible assumption)) | go_size)))).mono ?_); rintro e w1 ⟨a1, c1, rfl, h1, hb1⟩; have HX1 := Lib.hid h1; clear h1; have B1 : Hid (Below w.heap.size w w1) := Lib.hid (Below.trans (by (repeat' (first | (with_reducible exact Below.refl _ _) | (with_reducible assumption) | (with_reducible refine Below.alloc ?_ ?_ _) | (with_reducible refine Below.drew ?_) | (with_reducible refine Below.draws ?_ _) | (with_reducible refine Below.setCell ?_ ?_ _) | (refine Below.then ?_ (by with_reducible assumption)) | go_size))) (hb1.mono (by simp))); have z1 : w.heap.size < w1.heap.size := Nat.lt_of_lt_of_le (by simp) hb1.size; have c1_0 := (hb1.cell (p := ⟨w.heap.size, 0, none⟩) (by simp)).trans (by simp [go_sem]; rfl); have c1_1 := (hb1.cell (p := ⟨w.heap.size, 1, none⟩) (by simp)).trans (by simp [go_sem]; rfl); have c1_2 := (hb1.cell (p := ⟨w.heap.size, 2, none⟩) (by simp)).trans (by simp [go_sem]; rfl); have c1_3 := (hb1.cell (p := ⟨w.heap.size, 3, none⟩) (by simp)).trans (by simp [go_sem]; rfl); have c1_4 := (hb1.cell (p := ⟨w.heap.size, 4, none⟩) (by simp)).trans (by simp [go_sem]; rfl); have c1_5 := (hb1.cell (p := ⟨w.heap.size, 5, none⟩) (by simp)).trans (by simp [go_sem]; rfl); clear hb1) | (go_at_call 47; (with_reducible refine (cin_is HC1.out).mono ?_); rintro e wq ⟨rfl, rfl⟩))
      go_ret2
      exact ⟨rfl, B1.out⟩
    · rw [inB_iff] at hC1
      obtain ⟨i, rfl⟩ := Int.eq_ofNat_of_zero_le hC1.1
      rw [Int.toNat_natCast]
      have hil : i < R.L.length := by omega
      have hiev : i < R.ev.length := by rw [hr.ev]; exact hil
      have hie : i < H.eN := by have := hR.rd.e.len; omega
      obtain ⟨eb, eo, ea, en, ec, hea, heb, hec, hRd⟩ := hR.rd.e.at_ i hie
      have hlen : (evA R i).length = en := hRd.length
      have hel := hr.el (evA R i) (by unfold evA; rw [List.getElem?_eq_getElem hiev]; exact List.getElem_mem hiev)
      obtain ⟨C2, hC2⟩ : ∃ C, inB x 0 (((evA R i).length : Int) - 1) = C := ⟨_, rfl⟩
      rw [hC2]
      have hC2' : inB x 0 ((en : Int) - 1) = C2 := by rw [← hlen]; exact hC2
      have HC2 := Lib.hid hC2'
      have hen40 : en ≤ 40 := by omega
      have wl2 : IntKind.i64.wrap ((en : Int) - 1) = (en : Int) - 1 := IntWalk.i64_in _ (by omega)
      have HEC : Hid (∀ wz, Below w.heap.size w wz → wz.cell? ⟨eb, eo + i, none⟩ = some (.slice ea en ec)) := Lib.hid (fun wz hz => (hz.cell (p := ⟨eb, eo + i, none⟩) heb).trans hec)
      cases C2
      · rw [if_neg (by simp)]
        obtain ⟨fr, hfr⟩ : ∃ x, R.fr = x := ⟨_, rfl⟩
        obtain ⟨sl_, hsl⟩ : ∃ x, R.sl = x := ⟨_, rfl⟩
        rw [hfr, hsl] at HE ⊢
        obtain ⟨tA, tN, tC, eA, eN, eC, bA, bN, bC, sA, sN, sC⟩ := H
        unfold runV at HE ⊢
        simp only [] at HE HC1 wl hea hie ⊢
        subst hea
        clear hR hB hfr hsl hC1 hC1' hTN hL5 hr hil hiev hRd hlen hel hC2 hC2' hec hS HS
        go_enter Try.func35, Try.ntmps35
        go_wp2_with (first | ((go_at_call 26; (with_reducible refine (HE.out _ (by (repeat' (first | (with_reducible exact Below.refl _ _) | (with_reducible assumption) | (with_reducible refine Below.alloc ?_ ?_ _) | (with_reducible refine Below.drew ?_) | (with_reducible refine Below.draws ?_ _) | (with_reducible refine Below.setCell ?_ ?_ _) | (refine Below.then ?_ (by with_reducible assumption)) | go_size)))).mono ?_); rintro e w1 ⟨a1, c1, rfl, h1, hb1⟩; have HX1 := Lib.hid h1; clear h1; have B1 : Hid (Below w.heap.size w w1) := Lib.hid (Below.trans (by (repeat' (first | (with_reducible exact Below.refl _ _) | (with_reducible assumption) | (with_reducible refine Below.alloc ?_ ?_ _) | (with_reducible refine Below.drew ?_) | (with_reducible refine Below.draws ?_ _) | (with_reducible refine Below.setCell ?_ ?_ _) | (refine Below.then ?_ (by with_reducible assumption)) | go_size))) (hb1.mono (by simp))); have z1 : w.heap.size < w1.heap.size := Nat.lt_of_lt_of_le (by simp) hb1.size; have c1_0 := (hb1.cell (p := ⟨w.heap.size, 0, none⟩) (by simp)).trans (by simp [go_sem]; rfl); have c1_1 := (hb1.cell (p := ⟨w.heap.size, 1, none⟩) (by simp)).trans (by simp [go_sem]; rfl); have c1_2 := (hb1.cell (p := ⟨w.heap.size, 2, none⟩) (by simp)).trans (by simp [go_sem]; rfl); have c1_3 := (hb1.cell (p := ⟨w.heap.size, 3, none⟩) (by simp)).trans (by simp [go_sem]; rfl); have c1_4 := (hb1.cell (p := ⟨w.heap.size, 4, none⟩) (by simp)).trans (by simp [go_sem]; rfl); have c1_5 := (hb1.cell (p := ⟨w.heap.size, 5, none⟩) (by simp)).trans (by simp [go_sem]; rfl); clear hb1); have e1 := HEC.out _ B1.out; have e2 := World.block_lt_of_cell? _ _ e1; simp only [] at e2) | (go_at_call 47; (with_reducible refine (cin_is HC1.out).mono ?_); rintro e wq ⟨rfl, rfl⟩) | (go_at_call 47; (with_reducible refine (cin_is HC2.out).mono ?_); rintro e wq ⟨rfl, rfl⟩))
        go_ret2
        exact ⟨rfl, B1.out⟩
      · rw [inB_iff] at hC2
        obtain ⟨xn, rfl⟩ := Int.eq_ofNat_of_zero_le hC2.1
        rw [if_pos ⟨rfl, rfl⟩, Int.toNat_natCast]
        have hxn : xn < en := by omega
        obtain ⟨e0, e1, vb, vo, rfl, hvb, g0, g1, hg, _⟩ := hRd.pc_at' xn hxn
        have hel2 := hel.2 _ (List.mem_of_getElem? hg)
        simp only [] at hel2
        have hrel : relT (evA R i) (xn : Int) = e0 + e1 := relT_of hg
        rw [hrel]
        have wadd : IntKind.i64.wrap (e0 + e1) = e0 + e1 := IntWalk.i64_in _ (by omega)
        have HVC : Hid (∀ wz, Below w.heap.size w wz → wz.cell? ⟨vb, vo + xn * 2, none⟩ = some (.int .i64 e0) ∧ wz.cell? ⟨vb, vo + xn * 2 + 1, none⟩ = some (.int .i64 e1)) := Lib.hid (fun wz hz => ⟨(hz.cell (p := ⟨vb, vo + xn * 2, none⟩) hvb).trans g0, (hz.cell (p := ⟨vb, vo + xn * 2 + 1, none⟩) hvb).trans g1⟩)
        have hol := plM_olen hr htn
        have hok := plM_ok4 hr tn
        rw [Int.toNat_natCast] at HS
        have HRD := Lib.hid (fun w1 (hb : Below w.heap.size w w1) => (hR.ext hb).rd.t)
        have HRK := Lib.hid (ranks_ok hr.r)
        obtain ⟨o, ho⟩ : ∃ x, (plM R tn).o = x := ⟨_, rfl⟩
        have hX0 : endX R (tn : Int) = endsRow R o := by unfold endX; rw [Int.toNat_natCast, ho]
        rw [ho] at HS hol hok ⊢
        rw [hX0] at HE
        obtain ⟨X, hX⟩ : ∃ X, endsRow R o = X := ⟨_, rfl⟩
        have HXL : Hid ((X i).length = en) := Lib.hid (by rw [← hX, endsRow_len]; exact hlen)
        obtain ⟨E, hE⟩ : ∃ E, endF o i (xn : Int) = E := ⟨_, rfl⟩
        have HEX : Hid ((X i)[xn]? = some E) := Lib.hid (by rw [← hX, endsRow_get (by omega), hE])
        rw [hX] at HE
        rw [hE]
        have HRC : Hid (∀ p y, (rankL R.L)[p]? = some y → cnt R.L y = p ∧ ∃ k : Nat, y = (k : Int) ∧ k < R.L.length) := Lib.hid (fun p y hy => ⟨rank_cnt hy, by have := rank_mem.1 (List.mem_of_getElem? hy); obtain ⟨k, hk⟩ := Int.eq_ofNat_of_zero_le this.1; exact ⟨k, hk, by omega⟩⟩)
        have HCI : Hid (∀ j k : Nat, j < R.L.length → k < R.L.length → cnt R.L j = cnt R.L k → j = k) := Lib.hid (fun j k hj hk e => by have := cnt_inj (L := R.L) (x := (j : Int)) (y := (k : Int)) (by omega) (by omega) (by omega) (by omega) e; omega)
        have HRN : Hid ((rankL R.L).length = R.L.length) := Lib.hid (rank_len _)
        have HXN : Hid ((rankL R.L).Nodup) := Lib.hid (rank_nodup2 _)
        have HXA : Hid (∀ k : Nat, k < R.L.length → (rankL R.L)[cnt R.L k]? = some (k : Int)) := Lib.hid (fun k hk => rank_at (by omega) (by omega))
        have HIL := Lib.hid hil
        have HOK : Hid (∀ e ∈ o, e.w = 4 → ∃ k : Nat, e.k = (k : Int) ∧ k < R.L.length) := Lib.hid (fun e he h4 => by obtain ⟨i, _, x, h1, _, h3, h2, _, h5⟩ := hok e he h4; exact ⟨i, h1, h2⟩)
        obtain ⟨nL, hnL⟩ : ∃ x, R.L.length = x := ⟨_, rfl⟩
        rw [hnL] at HE hil HRC HCI HRN
        obtain ⟨RL, hRL⟩ : ∃ l, R.L = l := ⟨_, rfl⟩
        rw [hRL] at HRK HRD HXN HXA HIL HOK HRC HCI HRN ⊢
        unfold blkC
        obtain ⟨Fb, hFb⟩ : ∃ f, blkE (bhd RL i) (e0 + e1) E = f := ⟨_, rfl⟩
        rw [hFb]
        obtain ⟨rf, hrf⟩ : ∃ f, e0 + e1 = f := ⟨_, rfl⟩
        rw [hrf] at hFb
        have wadd : IntKind.i64.wrap (e0 + e1) = rf := by rw [wadd, hrf]
        have HFB : Hid (∀ e : En, Fb e = (decide (e.w = 4) && (decide (rf ≤ e.m) && ((decide (E < 0) || decide (e.m < E)) && decide (cnt RL i < cnt RL e.k))))) := Lib.hid (fun e => by rw [← hFb]; rfl)
        obtain ⟨Z, hZ⟩ : ∃ Z, cntE Fb o = Z := ⟨_, rfl⟩
        rw [hZ]
        have HZ := Lib.hid hZ
        have HOL := Lib.hid hol
        obtain ⟨fr, hfr⟩ : ∃ x, R.fr = x := ⟨_, rfl⟩
        obtain ⟨sl_, hsl⟩ : ∃ x, R.sl = x := ⟨_, rfl⟩
        rw [hfr, hsl] at HE HS ⊢
        obtain ⟨tA, tN, tC, eA, eN, eC, bA, bN, bC, sA, sN, sC⟩ := H
        unfold runV at HE ⊢
        simp only [] at HE HS HC1 HRD wl hea hie hTN ⊢
        subst hea
        rw [hRL] at hnL hTN hL5
        rw [hnL] at hTN hL5 HIL HOK HXA
        obtain rfl : nL = tN := hTN
        have hn5 : nL ≤ 5 := by omega
        have hcl : cnt RL i < nL := by
          have := (List.getElem?_eq_some_iff.1 (HXA.out i hil)).1
          rw [HRN.out] at this
          exact this
        clear hR hB hfr hsl hC1 hC1' hL5 hr hiev hRd hlen hel hC2 hC2' hec g0 g1 hg hel2 hrel hok ho hX hE hFb hZ hol hnL hRL hrf hX0 hS
        have hmk1 := run_make_row' (P := Try.prog) 109 4 (.bool false) 1 Try.underlying109 (by kernel_rfl) rfl .i64 .i64 nL (by omega) (by omega)
        go_enter Try.func35, Try.ntmps35
        go_upto_region 7 with (first | ((go_at_call 26; (with_reducible refine (HE.out _ (by (repeat' (first | (with_reducible exact Below.refl _ _) | (with_reducible assumption) | (with_reducible refine Below.alloc ?_ ?_ _) | (with_reducible refine Below.drew ?_) | (with_reducible refine Below.draws ?_ _) | (with_reducible refine Below.setCell ?_ ?_ _) | (refine Below.then ?_ (by with_reducible assumption)) | go_size)))).mono ?_); rintro e w1 ⟨a1, c1, rfl, h1, hb1⟩; have HX1 := Lib.hid h1; clear h1; have B1 : Hid (Below w.heap.size w w1) := Lib.hid (Below.trans (by (repeat' (first | (with_reducible exact Below.refl _ _) | (with_reducible assumption) | (with_reducible refine Below.alloc ?_ ?_ _) | (with_reducible refine Below.drew ?_) | (with_reducible refine Below.draws ?_ _) | (with_reducible refine Below.setCell ?_ ?_ _) | (refine Below.then ?_ (by with_reducible assumption)) | go_size))) (hb1.mono (by simp))); have z1 : w.heap.size < w1.heap.size := Nat.lt_of_lt_of_le (by simp) hb1.size; have c1_0 := (hb1.cell (p := ⟨w.heap.size, 0, none⟩) (by simp)).trans (by simp [go_sem]; rfl); have c1_1 := (hb1.cell (p := ⟨w.heap.size, 1, none⟩) (by simp)).trans (by simp [go_sem]; rfl); have c1_2 := (hb1.cell (p := ⟨w.heap.size, 2, none⟩) (by simp)).trans (by simp [go_sem]; rfl); have c1_3 := (hb1.cell (p := ⟨w.heap.size, 3, none⟩) (by simp)).trans (by simp [go_sem]; rfl); have c1_4 := (hb1.cell (p := ⟨w.heap.size, 4, none⟩) (by simp)).trans (by simp [go_sem]; rfl); have c1_5 := (hb1.cell (p := ⟨w.heap.size, 5, none⟩) (by simp)).trans (by simp [go_sem]; rfl); clear hb1); have d1 := HEC.out _ B1.out; have d2 := World.block_lt_of_cell? _ _ d1; simp only [] at d2) | (go_at_call 47; (with_reducible refine (cin_is HC1.out).mono ?_); rintro e wq ⟨rfl, rfl⟩) | (go_at_call 47; (with_reducible refine (cin_is HC2.out).mono ?_); rintro e wq ⟨rfl, rfl⟩) | (go_at_call 16; (with_reducible refine (HS.out _ B1.out).mono ?_); rintro e w2 ⟨a2, n2, x2, rfl, h2, hb2⟩; have HO2 := Lib.hid (Rd.of_owns encE_len (by decide) h2); have HX2 := Lib.hid (HX1.out.ext hb2); clear h2; have B2 := Lib.hid (Below.then B1.out hb2); have z2 : w.heap.size < w2.heap.size := Nat.lt_of_lt_of_le z1 hb2.size; have c2_0 := (hb2.cell (p := ⟨w.heap.size, 0, none⟩) z1).trans c1_0; have c2_1 := (hb2.cell (p := ⟨w.heap.size, 1, none⟩) z1).trans c1_1; have c2_2 := (hb2.cell (p := ⟨w.heap.size, 2, none⟩) z1).trans c1_2; have c2_3 := (hb2.cell (p := ⟨w.heap.size, 3, none⟩) z1).trans c1_3; have c2_4 := (hb2.cell (p := ⟨w.heap.size, 4, none⟩) z1).trans c1_4; have c2_5 := (hb2.cell (p := ⟨w.heap.size, 5, none⟩) z1).trans c1_5; clear hb2 c1_0 c1_1 c1_2 c1_3 c1_4 c1_5) | (go_at_call 24; (with_reducible refine (rRanks_is (HRD.out _ B2.out) HRK.out).mono ?_); rintro e w4 ⟨a4, n4, x4, rfl, h4, hb4⟩; have HK4 := Lib.hid (ownsI_rd h4); have HO4 := Lib.hid (HO2.out.ext hb4); have HX4 := Lib.hid (HX2.out.ext hb4); clear h4; have B4 := Lib.hid (Below.then B2.out hb4); have z4 : w.heap.size < w4.heap.size := Nat.lt_of_lt_of_le z2 hb4.size; have c4_0 := (hb4.cell (p := ⟨w.heap.size, 0, none⟩) z2).trans c2_0; have c4_1 := (hb4.cell (p := ⟨w.heap.size, 1, none⟩) z2).trans c2_1; have c4_2 := (hb4.cell (p := ⟨w.heap.size, 2, none⟩) z2).trans c2_2; have c4_3 := (hb4.cell (p := ⟨w.heap.size, 3, none⟩) z2).trans c2_3; have c4_4 := (hb4.cell (p := ⟨w.heap.size, 4, none⟩) z2).trans c2_4; have c4_5 := (hb4.cell (p := ⟨w.heap.size, 5, none⟩) z2).trans c2_5; clear hb4 c2_0 c2_1 c2_2 c2_3 c2_4 c2_5))
        have hn4 : n4 = nL := by rw [← HK4.out.length]; exact HRN.out
        subst hn4
        obtain ⟨w5, hw5⟩ : ∃ x, x = w4.alloc (.cells (madeCells #[.bool false] n4) 4) := ⟨_, rfl⟩
        have hbk : Blk w5 w4.heap.size (madeCells #[.bool false] n4) := by rw [hw5]; exact Blk.at _ _ _ _ rfl
        have hb5 : Below w4.heap.size w4 w5 := by rw [hw5]; (repeat' (first | (with_reducible exact Below.refl _ _) | (with_reducible assumption) | (with_reducible refine Below.alloc ?_ ?_ _) | (with_reducible refine Below.drew ?_) | (with_reducible refine Below.draws ?_ _) | (with_reducible refine Below.setCell ?_ ?_ _) | (refine Below.then ?_ (by with_reducible assumption)) | go_size))
        rw [← hw5]
        have HK5 := Lib.hid (HK4.out.ext hb5); have HO5 := Lib.hid (HO4.out.ext hb5); have HX5 := Lib.hid (HX4.out.ext hb5)
        have B5 := Lib.hid (Below.then B4.out hb5)
        have HBK := Lib.hid hbk
        have z45 : w4.heap.size < w5.heap.size := hbk.l
        have HB45 := Lib.hid hb5
        clear hw5 hbk hb5 hmk1
        go_wp2
        go_loopw [17] (fun v wr => ∃ p : Nat, p ≤ cnt RL i ∧ v = .int .i64 p ∧ (∀ j : Nat, j < n4 → wr.cell? ⟨w4.heap.size, j, none⟩ = some (.bool (decide (cnt RL j < p)))) ∧ (∀ j, wr.frozen? ⟨w4.heap.size, j, none⟩ = false) ∧ w5.heap.size ≤ wr.heap.size ∧ Below w4.heap.size w4 wr) (fun v _ => n4 - (intOf v).toNat)
        case atStart => exact ⟨0, Nat.zero_le _, rfl, fun j hj => by rw [HBK.out.c, made_one _ _ _ hj]; simp, HBK.out.f, Nat.le_refl _, HB45.out⟩
        case round =>
          obtain ⟨p, hp, rfl, hA, hF, hz, hB⟩ := hrel
          have HA := Lib.hid hA; have HF := Lib.hid hF
          have HBQ := Lib.hid hB
          have hpn : p < n4 := by omega
          obtain ⟨y, b3, o3, rfl, hb3, hc30, hy⟩ := HK4.out.idx p hpn
          have hc3 := (hB.cell (p := ⟨b3, o3 + p, none⟩) hb3).trans hc30
          have zb3 := Nat.lt_of_lt_of_le hb3 hB.size
          obtain ⟨hcy, yk, rfl, hyk⟩ := HRC.out p y hy
          have c1 := hA yk hyk
          have f1 := hF yk
          have zA : w4.heap.size < wr.heap.size := by omega
          have hbr : b3 ≠ w4.heap.size := by omega
          have HCY := Lib.hid hcy
          have c2 : (wr.setCell ⟨w4.heap.size, yk, none⟩ (.bool true)).cell? ⟨b3, o3 + p, none⟩ = some (.int .i64 (yk : Int)) := (World.cell?_setCell_other _ _ _ _ (addr_neS (.inl (fun q => hbr q.symm)))).trans hc3
          have hst : ∀ j : Nat, j < n4 → (wr.setCell ⟨w4.heap.size, yk, none⟩ (.bool true)).cell? ⟨w4.heap.size, j, none⟩ = some (.bool (decide (cnt RL j < p + 1))) := fun j hj => by
            by_cases e : yk = j
            · subst e
              rw [World.cell?_setCell_same _ _ _ c1, HCY.out]
              simp
            · rw [World.cell?_setCell_other _ _ _ _ (addr_neS (.inr e)), HA.out j hj]
              have hne : cnt RL (j : Int) ≠ p := fun q => e (HCI.out yk j hyk hj (by rw [HCY.out, q]))
              congr 2
              exact decide_eq_decide.2 (by omega)
          have HST := Lib.hid hst
          obtain ⟨w6, hw6⟩ : ∃ x, x = wr.setCell ⟨w4.heap.size, yk, none⟩ (.bool true) := ⟨_, rfl⟩
          by_cases hyi : yk = i
          · subst hyi
            have HPI : Hid (p = cnt RL yk) := Lib.hid HCY.out.symm
            clear hcy hy hA hF hB hst hc30
            go_upto_region 11 with fail
            rw [← hw6] at HST c2 ⊢
            have hB6 : Below w4.heap.size w4 w6 := by rw [hw6]; exact HBQ.out.setCell (p := ⟨w4.heap.size, yk, none⟩) (Nat.le_refl _) _
            have B6 := Lib.hid (Below.then B4.out hB6)
            have HO6 := Lib.hid (HO4.out.ext hB6); have HX6 := Lib.hid (HX4.out.ext hB6)
            have d3 := HEC.out _ B6.out
            obtain ⟨v0, v1⟩ := HVC.out _ B6.out
            have e3 := World.block_lt_of_cell? _ _ d3
            have e4 := World.block_lt_of_cell? _ _ v0
            simp only [] at e3 e4
            have z6 := Nat.lt_of_lt_of_le z4 hB6.size
            have c6_0 := (hB6.cell (p := ⟨w.heap.size, 0, none⟩) z4).trans c4_0
            have c6_3 := (hB6.cell (p := ⟨w.heap.size, 3, none⟩) z4).trans c4_3
            have zb6 := World.block_lt_of_cell? _ _ c2
            simp only [] at zb6
            have HA6 : Hid (∀ k : Nat, k < n4 → w6.cell? ⟨w4.heap.size, k, none⟩ = some (.bool (decide (¬ cnt RL yk < cnt RL k)))) := Lib.hid (fun k hk => by
              rw [HST.out k hk, HPI.out]
              congr 2
              exact decide_eq_decide.2 (by omega))
            have z46 : w4.heap.size < w6.heap.size := by rw [hw6]; simpa using zA
            clear hw6 c1 f1 hz hc3
            go_upto_region 13 with (refine wp_region_later_lit (by kernel_rfl) (by kernel_rfl) ?_; (repeat (go_big_quiet_step (fail))); refine wpQuiet_nil ?_; intro w7 hb7)
            have hB67 := hb7
            obtain ⟨xb, xoff, xa, en', xc, rfl, hxb, hxc, hxlen, hxR⟩ := (HX6.out.ext hb7).row hil
            obtain ⟨z, zb, zo, rfl, hzb, hzc, hz⟩ := hxR.idx xn (by rw [← hxlen, HXL.out]; exact hxn)
            have hen' : en' = en := (by rw [← hxlen, HXL.out])
            subst hen'
            have hzz : z = E := Option.some.inj (hz.symm.trans HEX.out)
            subst hzz
            have HO7 := Lib.hid (HO6.out.ext hb7)
            have B7 := Lib.hid (Below.then B6.out hb7)
            have HA7 : Hid (∀ wz, Below w7.heap.size w7 wz → ∀ k : Nat, k < n4 → wz.cell? ⟨w4.heap.size, k, none⟩ = some (.bool (decide (¬ cnt RL yk < cnt RL k)))) := Lib.hid (fun wz hz k hk => (hz.cell (p := ⟨w4.heap.size, k, none⟩) (Nat.lt_of_lt_of_le z46 hb7.size)).trans ((hb7.cell (p := ⟨w4.heap.size, k, none⟩) z46).trans (HA6.out k hk)))
            have z47 := Nat.lt_of_lt_of_le z46 hb7.size
            clear hxR hz hxlen hb7 hB67
            have hn2 : n2 ≤ 504000 := by rw [← HO4.out.length]; exact HOL.out
            go_wp2
            go_loopw [20, 21] (fun v16 v86 wr => ∃ k : Nat, k ≤ n2 ∧ v16 = .int .i64 (cntE Fb (o.take k)) ∧ v86 = .int .i64 k ∧ Below w7.heap.size w7 wr) (fun _ v _ => n2 - (intOf v).toNat)
            case atStart => exact ⟨0, Nat.zero_le _, rfl, rfl, Below.refl _ _⟩
            case round =>
              obtain ⟨k, hk, rfl, rfl, hB⟩ := hrel
              have HB := Lib.hid hB
              have hbd := cnt_take_bd Fb o k
              by_cases hkn : k < n2
              · obtain ⟨x, b1, o1, rfl, hb1, hx, q0, q1, q2, q3, q4⟩ := (HO7.out.ext hB).en_at k hkn
                have htk := cnt_take (p := Fb) hx
                rw [HFB.out x] at htk
                have hmem := List.mem_of_getElem? hx
                have HX1 : Hid (x.w = 4 → ∃ k : Nat, x.k = (k : Int) ∧ k < n4) := Lib.hid (HOK.out x hmem)
                obtain ⟨C, hC⟩ : ∃ C, cntE Fb (o.take k) = C := ⟨_, rfl⟩
                rw [hC] at htk hbd ⊢
                have wr1 : IntKind.i64.wrap (C + 1) = C + 1 := IntWalk.i64_in _ (by have := HOL.out; omega)
                obtain ⟨m1, k1, w1', a1, c1⟩ := x
                simp only [] at q0 q1 q2 q3 q4 htk HX1 ⊢
                have HTK0 := Lib.hid htk
                have HAK := Lib.hid (HA7.out _ hB)
                have zak := Nat.lt_of_lt_of_le z47 hB.size
                clear hB hx hC hmem hbd htk
                by_cases h4 : w1' = 4
                · subst h4
                  obtain ⟨kk, hkk, hkl⟩ := HX1.out rfl
                  subst hkk
                  by_cases hbh : cnt RL yk < cnt RL kk
                  · have ck : wr.cell? ⟨w4.heap.size, kk, none⟩ = some (.bool false) := by rw [HAK.out kk hkl]; simp [hbh]
                    by_cases hr : rf ≤ m1
                    · have hr' : decide (rf ≤ m1) = true := by simpa using hr
                      have hE3 : (decide (z < 0) = true) ∨ (decide (z < 0) = false ∧ decide (m1 < z) = true) ∨ (decide (z < 0) = false ∧ decide (m1 < z) = false) := by simp; omega
                      rcases hE3 with h5 | ⟨h5, h6⟩ | ⟨h5, h6⟩
                      · have HTK : Hid (cntE Fb (o.take (k + 1)) = C + 1) := Lib.hid (by rw [HTK0.out, if_pos (by simp [hr, hbh]; simp at h5; omega)])
                        (go_wp2_with fail; go_roundw; (case rel => exact ⟨k + 1, hkn, by rw [HTK.out], by go_num, HB.out⟩); (case measure => (simp [intOf]; omega)))
                      · have HTK : Hid (cntE Fb (o.take (k + 1)) = C + 1) := Lib.hid (by rw [HTK0.out, if_pos (by simp [hr, hbh]; simp at h6; omega)])
                        (go_wp2_with fail; go_roundw; (case rel => exact ⟨k + 1, hkn, by rw [HTK.out], by go_num, HB.out⟩); (case measure => (simp [intOf]; omega)))
                      · have HTK : Hid (cntE Fb (o.take (k + 1)) = C) := Lib.hid (by rw [HTK0.out, if_neg (by rw [h5, h6]; simp)]; simp)
                        (go_wp2_with fail; go_roundw; (case rel => exact ⟨k + 1, hkn, by rw [HTK.out], by go_num, HB.out⟩); (case measure => (simp [intOf]; omega)))
                    · have hr' : decide (rf ≤ m1) = false := by simpa using hr
                      have HTK : Hid (cntE Fb (o.take (k + 1)) = C) := Lib.hid (by rw [HTK0.out, if_neg (by rw [hr']; simp)]; simp)
                      (go_wp2_with fail; go_roundw; (case rel => exact ⟨k + 1, hkn, by rw [HTK.out], by go_num, HB.out⟩); (case measure => (simp [intOf]; omega)))
                  · have ck : wr.cell? ⟨w4.heap.size, kk, none⟩ = some (.bool true) := by rw [HAK.out kk hkl]; simp [hbh]
                    have HTK : Hid (cntE Fb (o.take (k + 1)) = C) := Lib.hid (by rw [HTK0.out, if_neg (by simp [hbh])]; simp)
                    (go_wp2_with fail; go_roundw; (case rel => exact ⟨k + 1, hkn, by rw [HTK.out], by go_num, HB.out⟩); (case measure => (simp [intOf]; omega)))
                · have h4' : (w1' == 4) = false := by simpa using h4
                  have HTK : Hid (cntE Fb (o.take (k + 1)) = C) := Lib.hid (by rw [HTK0.out, if_neg (by simp [h4])]; simp)
                  (go_wp2_with fail; go_roundw; (case rel => exact ⟨k + 1, hkn, by rw [HTK.out], by go_num, HB.out⟩); (case measure => (simp [intOf]; omega)))
              · have e : cntE Fb (o.take k) = Z := by rw [List.take_of_length_le (by rw [HO7.out.length]; omega), HZ.out]
                rw [e]
                clear hB hbd e
                go_wp2
                go_ret2
                exact ⟨rfl, B7.out.trans (HB.out.mono B7.out.size)⟩
          · have hyi' : ((yk : Int) == (i : Int)) = false := by simp; omega
            have hyi2 : (yk == i) = false := by simpa using hyi
            have hlt : p < cnt RL i := by
              rcases Nat.lt_or_eq_of_le hp with q | q
              · exact q
              · exact absurd (HCI.out yk i hyk hil (by rw [HCY.out]; exact q)) hyi
            clear hw6 hA hF hB hy hcy hst hc30
            go_wp2_with fail
            go_roundw
            case rel => exact ⟨p + 1, hlt, by go_num, HST.out, fun j => by rw [World.frozen?_setCell]; exact HF.out j, by simpa using hz, HBQ.out.setCell (p := ⟨w4.heap.size, yk, none⟩) (Nat.le_refl _) _⟩
            case measure => simp [intOf]; omega
end Go.Proofs.Ytlhnhmimhpcoaaa
namespace Go.Proofs.Ytlhnhmimhpcoaaa
open Go.RowKit
set_option linter.unusedSimpArgs false
set_option linter.unusedVariables false
set_option maxRecDepth 100000 in
set_option maxHeartbeats 4000000 in
theorem blocks_walk {w : World} (H : RunH) (R : Rn) (hR : ReadRun w H R) (hS : RunS H R) (t : Int) (ht : -9223372036854775808 ≤ t ∧ t ≤ 9223372036854775807) (i : Int) (hi : -9223372036854775808 ≤ i ∧ i ≤ 9223372036854775807) (x : Int) (hx : -9223372036854775808 ≤ x ∧ x ≤ 9223372036854775807) :
    Calls Try.prog 11 #[runV H R.fr R.sl, .int .i64 t, .int .i64 i, .int .i64 x] w fun e w' => e = .returned (.bool true) ∧ Below w.heap.size w w' := by
  have HH := Lib.hid (fun w1 (hb : Below w.heap.size w w1) => heavy_any H R w1 (hR.ext hb) hS)
  have HB1 := Lib.hid (fun w1 (hb : Below w.heap.size w w1) => Blocked_any H R t i x w1 (hR.ext hb) hi hx)
  have HRB := Lib.hid (fun w1 (hb : Below w.heap.size w w1) => rBlocked_any H R t i x w1 (hR.ext hb) hi hx)
  have HAS := Lib.hid (as_any H R.fr R.sl)
  obtain ⟨B, hB⟩ : ∃ B, heavyB R = B := ⟨_, rfl⟩
  rw [hB] at HH
  obtain ⟨⟨a, er⟩, hA⟩ : ∃ p, blockedR R t i x = p := ⟨_, rfl⟩
  rw [hA] at HB1 HRB
  have key : er = 0 → ∃ b, blkgR R.L i = (b, 0) ∧ a ≤ b := by
    intro h0
    subst h0
    unfold blockedR at hA
    split at hA
    · rename_i hc
      obtain ⟨hc1, hc2⟩ := hc
      rw [Bool.and_eq_true] at hc1
      unfold isEv at hc2
      rw [Bool.and_eq_true, inB_iff, inB_iff] at hc2
      obtain ⟨hr, hvl, _⟩ := run_ok hc1.1
      obtain ⟨i, rfl⟩ := Int.eq_ofNat_of_zero_le hc2.1.1
      obtain ⟨x, rfl⟩ := Int.eq_ofNat_of_zero_le hc2.2.1
      rw [Int.toNat_natCast] at hA hc2
      refine ⟨blockN R.L i, by rw [blkgR, isTk_iff.2 ⟨right_B hr.r, by omega, by omega⟩]; rfl, ?_⟩
      have := blk_le hr (i := i) (x := x) (by omega) (by omega) t.toNat
      obtain rfl : _ = a := congrArg Prod.fst hA
      exact this
    · have := congrArg Prod.snd hA
      simp at this
  by_cases h0 : er = 0
  · subst h0
    obtain ⟨b, hb1, hb2⟩ := key rfl
    have HLB := Lib.hid (fun w1 (hb : Below w.heap.size w w1) => Blocking_is (a := H.tA) (n := H.tN) (c := H.tC) (t := i) ((hR.ext hb).rd.t) hb1)
    have hle : decide (b < a) = false := by simp; omega
    obtain ⟨fr, hfr⟩ : ∃ x, R.fr = x := ⟨_, rfl⟩
    obtain ⟨sl_, hsl⟩ : ∃ x, R.sl = x := ⟨_, rfl⟩
    rw [hfr, hsl] at HH HB1 HRB HAS ⊢
    obtain ⟨tA, tN, tC, eA, eN, eC, bA, bN, bC, sA, sN, sC⟩ := H
    unfold runV at HH HB1 HRB HAS ⊢
    simp only [] at HH HB1 HRB HAS HLB ⊢
    clear hR hS hB hfr hsl hA key hb1 hb2
    cases B
    · go_enter Try.func11, Try.ntmps11
      go_wp2_with (first | (go_at_call 13; (with_reducible refine (HH.out _ (by (repeat' (first | (with_reducible exact Below.refl _ _) | (with_reducible assumption) | (with_reducible refine Below.alloc ?_ ?_ _) | (with_reducible refine Below.drew ?_) | (with_reducible refine Below.draws ?_ _) | (with_reducible refine Below.setCell ?_ ?_ _) | (refine Below.then ?_ (by with_reducible assumption)) | go_size)))).mono ?_); rintro e w1 ⟨rfl, hb1⟩; have B1 : Hid (Below w.heap.size w w1) := Lib.hid (Below.trans (by (repeat' (first | (with_reducible exact Below.refl _ _) | (with_reducible assumption) | (with_reducible refine Below.alloc ?_ ?_ _) | (with_reducible refine Below.drew ?_) | (with_reducible refine Below.draws ?_ _) | (with_reducible refine Below.setCell ?_ ?_ _) | (refine Below.then ?_ (by with_reducible assumption)) | go_size))) (hb1.mono (by simp))); have z1 : w.heap.size < w1.heap.size := Nat.lt_of_lt_of_le (by simp) hb1.size; have c1_0 := (hb1.cell (p := ⟨w.heap.size, 0, none⟩) (by simp)).trans (by simp [go_sem]; rfl); have c1_1 := (hb1.cell (p := ⟨w.heap.size, 1, none⟩) (by simp)).trans (by simp [go_sem]; rfl); have c1_2 := (hb1.cell (p := ⟨w.heap.size, 2, none⟩) (by simp)).trans (by simp [go_sem]; rfl); have c1_3 := (hb1.cell (p := ⟨w.heap.size, 3, none⟩) (by simp)).trans (by simp [go_sem]; rfl); have c1_4 := (hb1.cell (p := ⟨w.heap.size, 4, none⟩) (by simp)).trans (by simp [go_sem]; rfl); have c1_5 := (hb1.cell (p := ⟨w.heap.size, 5, none⟩) (by simp)).trans (by simp [go_sem]; rfl); clear hb1) | (go_at_call 36; (with_reducible refine (HLB.out _ B4.out).mono ?_); rintro e w5 ⟨rfl, hb5⟩; have B5 := Lib.hid (Below.then B4.out hb5); have z5 : w.heap.size < w5.heap.size := Nat.lt_of_lt_of_le z4 hb5.size; have c5_0 := (hb5.cell (p := ⟨w.heap.size, 0, none⟩) z4).trans c4_0; have c5_1 := (hb5.cell (p := ⟨w.heap.size, 1, none⟩) z4).trans c4_1; have c5_2 := (hb5.cell (p := ⟨w.heap.size, 2, none⟩) z4).trans c4_2; have c5_3 := (hb5.cell (p := ⟨w.heap.size, 3, none⟩) z4).trans c4_3; have c5_4 := (hb5.cell (p := ⟨w.heap.size, 4, none⟩) z4).trans c4_4; have c5_5 := (hb5.cell (p := ⟨w.heap.size, 5, none⟩) z4).trans c4_5; clear hb5 c4_0 c4_1 c4_2 c4_3 c4_4 c4_5) | (go_at_call 35; (with_reducible refine (HRB.out _ B3.out).mono ?_); rintro e w4 ⟨rfl, hb4⟩; have B4 := Lib.hid (Below.then B3.out hb4); have z4 : w.heap.size < w4.heap.size := Nat.lt_of_lt_of_le z3 hb4.size; have c4_0 := (hb4.cell (p := ⟨w.heap.size, 0, none⟩) z3).trans c3_0; have c4_1 := (hb4.cell (p := ⟨w.heap.size, 1, none⟩) z3).trans c3_1; have c4_2 := (hb4.cell (p := ⟨w.heap.size, 2, none⟩) z3).trans c3_2; have c4_3 := (hb4.cell (p := ⟨w.heap.size, 3, none⟩) z3).trans c3_3; have c4_4 := (hb4.cell (p := ⟨w.heap.size, 4, none⟩) z3).trans c3_4; have c4_5 := (hb4.cell (p := ⟨w.heap.size, 5, none⟩) z3).trans c3_5; clear hb4 c3_0 c3_1 c3_2 c3_3 c3_4 c3_5) | (go_at_call 17; (with_reducible refine (HAS.out _).mono ?_); rintro e w3 ⟨rfl, hb3⟩; have B3 := Lib.hid (Below.then B2.out hb3); have z3 : w.heap.size < w3.heap.size := Nat.lt_of_lt_of_le z2 hb3.size; have c3_0 := (hb3.cell (p := ⟨w.heap.size, 0, none⟩) z2).trans c2_0; have c3_1 := (hb3.cell (p := ⟨w.heap.size, 1, none⟩) z2).trans c2_1; have c3_2 := (hb3.cell (p := ⟨w.heap.size, 2, none⟩) z2).trans c2_2; have c3_3 := (hb3.cell (p := ⟨w.heap.size, 3, none⟩) z2).trans c2_3; have c3_4 := (hb3.cell (p := ⟨w.heap.size, 4, none⟩) z2).trans c2_4; have c3_5 := (hb3.cell (p := ⟨w.heap.size, 5, none⟩) z2).trans c2_5; clear hb3 c2_0 c2_1 c2_2 c2_3 c2_4 c2_5) | (go_at_call 34; (with_reducible refine (HB1.out _ B1.out).mono ?_); rintro e w2 ⟨rfl, hb2⟩; have B2 := Lib.hid (Below.then B1.out hb2); have z2 : w.heap.size < w2.heap.size := Nat.lt_of_lt_of_le z1 hb2.size; have c2_0 := (hb2.cell (p := ⟨w.heap.size, 0, none⟩) z1).trans c1_0; have c2_1 := (hb2.cell (p := ⟨w.heap.size, 1, none⟩) z1).trans c1_1; have c2_2 := (hb2.cell (p := ⟨w.heap.size, 2, none⟩) z1).trans c1_2; have c2_3 := (hb2.cell (p := ⟨w.heap.size, 3, none⟩) z1).trans c1_3; have c2_4 := (hb2.cell (p := ⟨w.heap.size, 4, none⟩) z1).trans c1_4; have c2_5 := (hb2.cell (p := ⟨w.heap.size, 5, none⟩) z1).trans c1_5; clear hb2 c1_0 c1_1 c1_2 c1_3 c1_4 c1_5) | (go_at_call 14; (with_reducible refine (sane_any _).mono ?_); rintro e w9 ⟨rfl, hb9⟩))
      go_ret
      exact ⟨rfl, Below.then B5.out hb9⟩
    · go_enter Try.func11, Try.ntmps11
      go_wp2_with (first | (go_at_call 13; (with_reducible refine (HH.out _ (by (repeat' (first | (with_reducible exact Below.refl _ _) | (with_reducible assumption) | (with_reducible refine Below.alloc ?_ ?_ _) | (with_reducible refine Below.drew ?_) | (with_reducible refine Below.draws ?_ _) | (with_reducible refine Below.setCell ?_ ?_ _) | (refine Below.then ?_ (by with_reducible assumption)) | go_size)))).mono ?_); rintro e w1 ⟨rfl, hb1⟩; have B1 : Hid (Below w.heap.size w w1) := Lib.hid (Below.trans (by (repeat' (first | (with_reducible exact Below.refl _ _) | (with_reducible assumption) | (with_reducible refine Below.alloc ?_ ?_ _) | (with_reducible refine Below.drew ?_) | (with_reducible refine Below.draws ?_ _) | (with_reducible refine Below.setCell ?_ ?_ _) | (refine Below.then ?_ (by with_reducible assumption)) | go_size))) (hb1.mono (by simp))); have z1 : w.heap.size < w1.heap.size := Nat.lt_of_lt_of_le (by simp) hb1.size; have c1_0 := (hb1.cell (p := ⟨w.heap.size, 0, none⟩) (by simp)).trans (by simp [go_sem]; rfl); have c1_1 := (hb1.cell (p := ⟨w.heap.size, 1, none⟩) (by simp)).trans (by simp [go_sem]; rfl); have c1_2 := (hb1.cell (p := ⟨w.heap.size, 2, none⟩) (by simp)).trans (by simp [go_sem]; rfl); have c1_3 := (hb1.cell (p := ⟨w.heap.size, 3, none⟩) (by simp)).trans (by simp [go_sem]; rfl); have c1_4 := (hb1.cell (p := ⟨w.heap.size, 4, none⟩) (by simp)).trans (by simp [go_sem]; rfl); have c1_5 := (hb1.cell (p := ⟨w.heap.size, 5, none⟩) (by simp)).trans (by simp [go_sem]; rfl); clear hb1) | (go_at_call 14; (with_reducible refine (sane_any _).mono ?_); rintro e w9 ⟨rfl, hb9⟩))
      go_ret
      exact ⟨rfl, Below.then B1.out hb9⟩
  · have h0' : (er == 0) = false := by simpa using h0
    obtain ⟨fr, hfr⟩ : ∃ x, R.fr = x := ⟨_, rfl⟩
    obtain ⟨sl_, hsl⟩ : ∃ x, R.sl = x := ⟨_, rfl⟩
    rw [hfr, hsl] at HH HB1 HRB HAS ⊢
    obtain ⟨tA, tN, tC, eA, eN, eC, bA, bN, bC, sA, sN, sC⟩ := H
    unfold runV at HH HB1 HRB HAS ⊢
    simp only [] at HH HB1 HRB HAS ⊢
    clear hR hS hB hfr hsl hA key
    cases B
    · go_enter Try.func11, Try.ntmps11
      go_wp2_with (first | (go_at_call 13; (with_reducible refine (HH.out _ (by (repeat' (first | (with_reducible exact Below.refl _ _) | (with_reducible assumption) | (with_reducible refine Below.alloc ?_ ?_ _) | (with_reducible refine Below.drew ?_) | (with_reducible refine Below.draws ?_ _) | (with_reducible refine Below.setCell ?_ ?_ _) | (refine Below.then ?_ (by with_reducible assumption)) | go_size)))).mono ?_); rintro e w1 ⟨rfl, hb1⟩; have B1 : Hid (Below w.heap.size w w1) := Lib.hid (Below.trans (by (repeat' (first | (with_reducible exact Below.refl _ _) | (with_reducible assumption) | (with_reducible refine Below.alloc ?_ ?_ _) | (with_reducible refine Below.drew ?_) | (with_reducible refine Below.draws ?_ _) | (with_reducible refine Below.setCell ?_ ?_ _) | (refine Below.then ?_ (by with_reducible assumption)) | go_size))) (hb1.mono (by simp))); have z1 : w.heap.size < w1.heap.size := Nat.lt_of_lt_of_le (by simp) hb1.size; have c1_0 := (hb1.cell (p := ⟨w.heap.size, 0, none⟩) (by simp)).trans (by simp [go_sem]; rfl); have c1_1 := (hb1.cell (p := ⟨w.heap.size, 1, none⟩) (by simp)).trans (by simp [go_sem]; rfl); have c1_2 := (hb1.cell (p := ⟨w.heap.size, 2, none⟩) (by simp)).trans (by simp [go_sem]; rfl); have c1_3 := (hb1.cell (p := ⟨w.heap.size, 3, none⟩) (by simp)).trans (by simp [go_sem]; rfl); have c1_4 := (hb1.cell (p := ⟨w.heap.size, 4, none⟩) (by simp)).trans (by simp [go_sem]; rfl); have c1_5 := (hb1.cell (p := ⟨w.heap.size, 5, none⟩) (by simp)).trans (by simp [go_sem]; rfl); clear hb1) | (go_at_call 35; (with_reducible refine (HRB.out _ B3.out).mono ?_); rintro e w4 ⟨rfl, hb4⟩; have B4 := Lib.hid (Below.then B3.out hb4); have z4 : w.heap.size < w4.heap.size := Nat.lt_of_lt_of_le z3 hb4.size; have c4_0 := (hb4.cell (p := ⟨w.heap.size, 0, none⟩) z3).trans c3_0; have c4_1 := (hb4.cell (p := ⟨w.heap.size, 1, none⟩) z3).trans c3_1; have c4_2 := (hb4.cell (p := ⟨w.heap.size, 2, none⟩) z3).trans c3_2; have c4_3 := (hb4.cell (p := ⟨w.heap.size, 3, none⟩) z3).trans c3_3; have c4_4 := (hb4.cell (p := ⟨w.heap.size, 4, none⟩) z3).trans c3_4; have c4_5 := (hb4.cell (p := ⟨w.heap.size, 5, none⟩) z3).trans c3_5; clear hb4 c3_0 c3_1 c3_2 c3_3 c3_4 c3_5) | (go_at_call 17; (with_reducible refine (HAS.out _).mono ?_); rintro e w3 ⟨rfl, hb3⟩; have B3 := Lib.hid (Below.then B2.out hb3); have z3 : w.heap.size < w3.heap.size := Nat.lt_of_lt_of_le z2 hb3.size; have c3_0 := (hb3.cell (p := ⟨w.heap.size, 0, none⟩) z2).trans c2_0; have c3_1 := (hb3.cell (p := ⟨w.heap.size, 1, none⟩) z2).trans c2_1; have c3_2 := (hb3.cell (p := ⟨w.heap.size, 2, none⟩) z2).trans c2_2; have c3_3 := (hb3.cell (p := ⟨w.heap.size, 3, none⟩) z2).trans c2_3; have c3_4 := (hb3.cell (p := ⟨w.heap.size, 4, none⟩) z2).trans c2_4; have c3_5 := (hb3.cell (p := ⟨w.heap.size, 5, none⟩) z2).trans c2_5; clear hb3 c2_0 c2_1 c2_2 c2_3 c2_4 c2_5) | (go_at_call 34; (with_reducible refine (HB1.out _ B1.out).mono ?_); rintro e w2 ⟨rfl, hb2⟩; have B2 := Lib.hid (Below.then B1.out hb2); have z2 : w.heap.size < w2.heap.size := Nat.lt_of_lt_of_le z1 hb2.size; have c2_0 := (hb2.cell (p := ⟨w.heap.size, 0, none⟩) z1).trans c1_0; have c2_1 := (hb2.cell (p := ⟨w.heap.size, 1, none⟩) z1).trans c1_1; have c2_2 := (hb2.cell (p := ⟨w.heap.size, 2, none⟩) z1).trans c1_2; have c2_3 := (hb2.cell (p := ⟨w.heap.size, 3, none⟩) z1).trans c1_3; have c2_4 := (hb2.cell (p := ⟨w.heap.size, 4, none⟩) z1).trans c1_4; have c2_5 := (hb2.cell (p := ⟨w.heap.size, 5, none⟩) z1).trans c1_5; clear hb2 c1_0 c1_1 c1_2 c1_3 c1_4 c1_5) | (go_at_call 14; (with_reducible refine (sane_any _).mono ?_); rintro e w9 ⟨rfl, hb9⟩))
      go_ret
      exact ⟨rfl, Below.then B4.out hb9⟩
    · go_enter Try.func11, Try.ntmps11
      go_wp2_with (first | (go_at_call 13; (with_reducible refine (HH.out _ (by (repeat' (first | (with_reducible exact Below.refl _ _) | (with_reducible assumption) | (with_reducible refine Below.alloc ?_ ?_ _) | (with_reducible refine Below.drew ?_) | (with_reducible refine Below.draws ?_ _) | (with_reducible refine Below.setCell ?_ ?_ _) | (refine Below.then ?_ (by with_reducible assumption)) | go_size)))).mono ?_); rintro e w1 ⟨rfl, hb1⟩; have B1 : Hid (Below w.heap.size w w1) := Lib.hid (Below.trans (by (repeat' (first | (with_reducible exact Below.refl _ _) | (with_reducible assumption) | (with_reducible refine Below.alloc ?_ ?_ _) | (with_reducible refine Below.drew ?_) | (with_reducible refine Below.draws ?_ _) | (with_reducible refine Below.setCell ?_ ?_ _) | (refine Below.then ?_ (by with_reducible assumption)) | go_size))) (hb1.mono (by simp))); have z1 : w.heap.size < w1.heap.size := Nat.lt_of_lt_of_le (by simp) hb1.size; have c1_0 := (hb1.cell (p := ⟨w.heap.size, 0, none⟩) (by simp)).trans (by simp [go_sem]; rfl); have c1_1 := (hb1.cell (p := ⟨w.heap.size, 1, none⟩) (by simp)).trans (by simp [go_sem]; rfl); have c1_2 := (hb1.cell (p := ⟨w.heap.size, 2, none⟩) (by simp)).trans (by simp [go_sem]; rfl); have c1_3 := (hb1.cell (p := ⟨w.heap.size, 3, none⟩) (by simp)).trans (by simp [go_sem]; rfl); have c1_4 := (hb1.cell (p := ⟨w.heap.size, 4, none⟩) (by simp)).trans (by simp [go_sem]; rfl); have c1_5 := (hb1.cell (p := ⟨w.heap.size, 5, none⟩) (by simp)).trans (by simp [go_sem]; rfl); clear hb1) | (go_at_call 14; (with_reducible refine (sane_any _).mono ?_); rintro e w9 ⟨rfl, hb9⟩))
      go_ret
      exact ⟨rfl, Below.then B1.out hb9⟩
end Go.Proofs.Ytlhnhmimhpcoaaa
