/- No deadline is missed by accepted tasks. No condition: plain lemmas. A run that runB makes is allowed. No condition: plain lemmas. Laws for a region of thirty operations that draws its order: what can be taken first, what alone may come up. No condition: plain lemmas. The contract of Blocked of the program. The conditions: the run reads as named. -/
import Derived.Test.YtmahagcghpoekaaMg10
import Derived.Test.YtmahagcghpoekaaMg8
import Derived.Test.YtmahagcghpoekaaMg9
import Derived.Test.YtmahagcghpoekaaMg1
import Derived.Deep.RegionHeld3
namespace Go.Proofs.Ytmahagcghpoekaa
open Go.RowKit
set_option linter.unusedSimpArgs false
set_option linter.unusedVariables false
theorem Steps.from_ {R : Rn} {P Q : Int → Ms → List Nat → Prop} (h : Steps R P Q) (hr : RnOk R) {k0 : Nat} {at0 : List Nat} (q0 : QR R ((k0 : Int) - 1) (plM R k0) at0) (h0 : Q ((k0 : Int) - 1) (plM R k0) at0) : ∀ d : Nat, ∃ at_, QR R (((k0 + d : Nat) : Int) - 1) (plM R (k0 + d)) at_ ∧ Q (((k0 + d : Nat) : Int) - 1) (plM R (k0 + d)) at_
  | 0 => ⟨at0, q0, h0⟩
  | d + 1 => by
    obtain ⟨at_, hq, hp⟩ := Steps.from_ h hr q0 h0 d
    have hm := plM_ok hr (k0 + d)
    obtain ⟨a1, q1, p1⟩ := h.arr hr hm hq hp
    obtain ⟨a2, q2, p2⟩ := h.tick hr (hm.arrA hr _) (arrA_settled hr hm _) q1 p1
    refine ⟨a2, ?_⟩
    rw [show (((k0 + (d + 1) : Nat) : Int) - 1) = ((k0 + d : Nat) : Int) by omega]
    exact ⟨q2, p2⟩
/-- what is over stays so -/
def StayI (R : Rn) (i j : Nat) (x E : Int) (s : Ms) (at_ : List Nat) : Prop := (∀ a, at_[i]? = some a → j < a) ∧ endF s.o i x = E
theorem StayI.of {R : Rn} {i j : Nat} {x E : Int} {s s' : Ms} {at_ : List Nat} (h : StayI R i j x E s at_) {l : List En} (ho : s'.o = s.o ++ l) (h5 : ∀ e ∈ l, e.w ≠ 5) : StayI R i j x E s' at_ :=
  ⟨h.1, by rw [ho, endF_app _ _ _ _ (fun e q r => h5 e q r.1)]; exact h.2⟩
theorem StayI.fin {R : Rn} {i j : Nat} {x E : Int} {s : Ms} {at_ : List Nat} (h : StayI R i j x E s at_) (hj : (ordE (evA R i))[j]? = some x) {k a : Nat} {T how : Int} (ha : at_[k]? = some a) (hx : (ordE (evA R k))[a]? = some (s.hd k)) : StayI R i j x E (fin1 T k how s) (at_.set k (a + 1)) := by
  refine ⟨fun b hb => ?_, ?_⟩
  · rcases set_atE hb with ⟨rfl, rfl⟩ | ⟨_, hb⟩
    · have := h.1 a ha; omega
    · exact h.1 b hb
  · have ho : (fin1 T k how s).o = s.o ++ [⟨T, k, 5, s.hd k, how⟩] := rfl
    rw [ho, endF_one]
    unfold endG
    rw [if_neg]
    · exact h.2
    · rintro ⟨_, h1, h2⟩
      simp only [] at h1 h2
      have : k = i := by omega
      subst this
      rw [h2] at hx
      have := ord_injE hx hj
      have := h.1 a ha
      omega
theorem stay_steps {R : Rn} (hr : RnOk R) {i j : Nat} {x E : Int} (hj : (ordE (evA R i))[j]? = some x) : Steps R (fun _ s at_ => StayI R i j x E s at_) (fun _ s at_ => StayI R i j x E s at_) := by
  refine ⟨?_, ?_, ?_, ?_, ?_, ?_, ?_, ?_⟩
  · intro t s at_ hm hq hp
    obtain ⟨l, h1, h2⟩ := relA_newE t R.ev 0 s
    exact hp.of h1 (fun e q => by rw [(h2 e q).2]; decide)
  · intro t s at_ k hm hq hi hn hp
    exact hp.of (l := [⟨t, k, 2, 0, 0⟩]) rfl (fun e q => by simp at q; subst q; simp)
  · intro t s at_ k a hm hq hi hn ha hs hin hp
    exact hp.fin hj ha (hq.event ha hn)
  · intro t s at_ hm hq hs hg hp
    exact hp.of (l := [⟨t, -1, 3, 0, 0⟩]) rfl (fun e q => by simp at q; subst q; simp)
  · intro t s at_ hm hq hs hg hn hp
    exact hp
  · intro t s at_ k a hm hq hs hg hch ha hfin hp
    have h1 : StayI R i j x E (wk1 R t k s) at_ := hp.of (l := [⟨t, k, 4, (s.ja k).p, s.hd k⟩]) rfl (fun e q => by simp at q; subst q; simp)
    exact h1.fin (s := wk1 R t k s) hj ha (hq.event ha hch.rd)
  · intro t s at_ k a hm hq hs hg hch ha hpl hbu hp
    exact hp.of (s' := wk1 R t k s) (l := [⟨t, k, 4, (s.ja k).p, s.hd k⟩]) rfl (fun e q => by simp at q; subst q; simp)
  · intro t s at_ k a hm hq hs hg hch ha hpl hbu hp
    have h1 : StayI R i j x E (wk1 R t k s) at_ := hp.of (l := [⟨t, k, 4, (s.ja k).p, s.hd k⟩]) rfl (fun e q => by simp at q; subst q; simp)
    exact h1.of (s' := wk2 R t k s) (l := [⟨t + 1, k, 6, s.hd k, 0⟩]) rfl (fun e q => by simp at q; subst q; simp)
theorem end_by {R : Rn} (hr : RnOk R) {i x u v : Nat} (hi : i < R.L.length) (hx : x < (evA R i).length) (hq : (plM R u).qa i = []) (hrel : relT (evA R i) x ≤ (u : Int) - 1) (huv : u ≤ v) : 0 ≤ endF (plM R v).o i x ∧ endF (plM R v).o i x ≤ u := by
  obtain ⟨at_, h1, h2⟩ := plM_ei hr u
  have h3 := idle_ends h1 h2 hi hq hx hrel
  have hil : i < at_.length := by rw [h1.len]; exact hi
  have ha := List.getElem?_eq_getElem hil
  obtain ⟨j, hj⟩ := List.getElem?_of_mem (ordE_mem (l := evA R i).2 ⟨show (0 : Int) ≤ (x : Int) by omega, by omega⟩)
  have hja : j < at_[i] := by
    rcases Nat.lt_or_ge j at_[i] with q | q
    · exact q
    · have := h2.new i _ j _ ha hj q
      omega
  obtain ⟨_, _, h4⟩ := (stay_steps hr (E := endF (plM R u).o i x) hj).from_ hr h1 ⟨fun a q => by rw [ha] at q; simp at q; omega, rfl⟩ (v - u)
  rw [show u + (v - u) = v by omega] at h4
  rw [h4.2]; exact h3
theorem sparse_jit {g j : Int} : ∀ (xs : List P2) (l : Int), sparse g j l xs = true → ∀ e ∈ xs, e.2 ≤ j
  | [], _, _, e, he => by simp at he
  | x :: xs, l, h, e, he => by
    unfold sparse at h
    split at h
    · cases h
    · rename_i hc
      rcases List.mem_cons.1 he with rfl | he
      · omega
      · exact sparse_jit xs _ h e he
theorem allow_sparse {g j : Int} : ∀ (xs : List P2) (l : Int), allowGo g j l xs = sparse g j l xs
  | [], _ => rfl
  | x :: xs, l => by unfold allowGo sparse; rw [allow_sparse xs]
/-- the response: a job is over within jitter and window of its arrival -/
theorem resp_by {R : Rn} (hr : RnOk R) (hf : Fair R) (hv : ValidT R.L) (hs : 0 ≤ R.sl ∧ R.sl < R.fr) {i : Nat} (hi : i < R.L.length) {W : Nat} (hW : 1 ≤ W) (hd : demN R.L i W ≤ leastN R.fr R.sl W) (hj : (taAt R.L i).jit + W ≤ (taAt R.L i).gap)
    {x v : Nat} {e : P2} (he : (evA R i)[x]? = some e) (hle : e.1 + (taAt R.L i).jit + W ≤ v) : 0 ≤ endF (plM R v).o i x ∧ endF (plM R v).o i x ≤ e.1 + (taAt R.L i).jit + W := by
  have hx := (List.getElem?_eq_some_iff.1 he).1
  have hev : i < R.ev.length := by rw [hr.ev]; exact hi
  have hel := (hr.el (evA R i) (by unfold evA; rw [List.getElem?_eq_getElem hev]; exact List.getElem_mem hev)).2 e (List.mem_of_getElem? he)
  have hjit := sparse_jit _ _ (hf.ev i hi) e (List.mem_of_getElem? he)
  have hrl := relT_of he
  obtain ⟨r, hr2⟩ := Int.eq_ofNat_of_zero_le (show 0 ≤ e.1 + e.2 by omega)
  obtain ⟨u, h1, h2, h3⟩ := idle_after hr hf hv hs hi hW hd hj r
  have := end_by hr hi hx (h3 i hi (Nat.le_refl _)) (by rw [hrl]; omega) (show u ≤ v by omega)
  exact ⟨this.1, by omega⟩
theorem fair_of {R : Rn} (h : runB R = true) (ha : alwR R = (true, 0)) : Fair R := by
  obtain ⟨hr, _⟩ := run_ok h
  unfold alwR at ha
  rw [if_pos h] at ha
  have h1 : alwF R R.L.length 0 = true := congrArg Prod.fst ha
  have key : ∀ f i, alwF R f i = true → R.sg.length = 0 ∧ ∀ k, i ≤ k → k < i + f → mayB R k = true ∧ lowB R k = false := by
    intro f
    induction f with
    | zero => intro i h; exact ⟨by simpa [alwF] using h, fun k h1 h2 => by omega⟩
    | succ f ih =>
      intro i h
      rw [alwF] at h
      split at h
      · rename_i hc
        obtain ⟨g1, g2⟩ := ih (i + 1) h
        refine ⟨g1, fun k h1 h2 => ?_⟩
        by_cases e : k = i
        · subst e; exact hc
        · exact g2 k (by omega) (by omega)
      · cases h
  obtain ⟨g1, g2⟩ := key _ _ h1
  refine ⟨List.eq_nil_of_length_eq_zero g1, fun i hi => ?_, fun i hi => ?_⟩
  · have := (g2 i (Nat.zero_le _) (by omega)).2
    unfold lowB buA at this
    have hb : 0 ≤ (R.bu[i]?).getD 0 := by
      cases q : R.bu[i]? with
      | none => simp
      | some b => exact (hr.b0 b (List.mem_of_getElem? q)).1
    by_cases q : 0 < (R.bu[i]?).getD 0
    · right
      rw [decide_eq_true q, Bool.true_and, decide_eq_false_iff_not] at this
      omega
    · left; omega
  · have := (g2 i (Nat.zero_le _) (by omega)).1
    unfold mayB at this
    rw [← allow_sparse]; exact this
/-- the law of the deadlines: nothing is late -/
theorem late_none {R : Rn} {X : Nat → List Int} {t : Int} (h : ∀ i k, i < R.L.length → k < (evA R i).length → dueA R i k < t + 1 → ¬ (xAt X i k < 0 ∨ dueA R i k < xAt X i k)) : lateAll R X R.L.length 0 (t + 1, -1, -1) = (t + 1, -1, -1) := by
  have hrow : ∀ f i k, i < R.L.length → k + f ≤ (evA R i).length → lateRow R X i f k (t + 1, -1, -1) = (t + 1, -1, -1) := by
    intro f
    induction f with
    | zero => intro i k _ _; rfl
    | succ f ih =>
      intro i k hi hk
      rw [lateRow]
      have e : lateS R X i k (t + 1, -1, -1) = (t + 1, -1, -1) := by
        unfold lateS
        rw [if_neg]
        rintro ⟨h1, h2⟩
        exact h i k hi (by omega) h1 h2
      rw [e]
      exact ih i (k + 1) hi (by omega)
  have hall : ∀ f i, i + f ≤ R.L.length → lateAll R X f i (t + 1, -1, -1) = (t + 1, -1, -1) := by
    intro f
    induction f with
    | zero => intro i _; rfl
    | succ f ih =>
      intro i hi
      rw [lateAll, hrow _ i 0 (by omega) (by omega)]
      exact ih (i + 1) (by omega)
  exact hall _ _ (by omega)
theorem meets_all {R : Rn} {t : Int} (h : runB R = true) (ht : 0 ≤ t ∧ t ≤ 2000) (ha : alwR R = (true, 0)) (hacc : accB R.L R.fr R.sl = true) : meetsR R t = (true, 0) := by
  obtain ⟨hr, hvl, hsup, _⟩ := run_ok h
  have hv := valid_of hvl
  have hf := fair_of h ha
  have hs := (supB_iff.1 hsup)
  have hs2 : 0 ≤ R.sl ∧ R.sl < R.fr := by omega
  have hin : (runB R && inB t 0 2000) = true := by rw [h, Bool.true_and, inB_iff]; exact ht
  have key : lateF R t = (t + 1, -1, -1) := by
    unfold lateF
    refine late_none (fun i k hi hk hdue => ?_)
    have hm := accB_iff.1 hacc i hi
    unfold meetB at hm
    rw [Bool.and_eq_true, decide_eq_true_eq, decide_eq_true_eq] at hm
    obtain ⟨W, hWe, hW1, hW2, hW3, _⟩ := (isWin R.L R.fr R.sl i).some_ (by omega)
    have he : (evA R i)[k]? = some ((evA R i)[k]) := List.getElem?_eq_getElem hk
    have hdl := hv.dl _ (ta_mem hi)
    have hdu : dueA R i k = ((evA R i)[k]).1 + (taAt R.L i).dl := by unfold dueA; rw [he]; rfl
    have hx : xAt (endX R t) i k = endF (plM R t.toNat).o i k := by
      unfold xAt endX
      rw [endsRow_get hk]; rfl
    have := resp_by hr hf hv hs2 hi hW1 hW3 (by omega) he (v := t.toNat) (by omega)
    rw [hx]
    omega
  unfold meetsR
  rw [if_pos hin, key]
  rfl
end Go.Proofs.Ytmahagcghpoekaa
namespace Go.Proofs.Ytmahagcghpoekaa
open Go.RowKit
set_option linter.unusedSimpArgs false
set_option linter.unusedVariables false
theorem evs_ok {g j : Int} (hg : 1 ≤ g ∧ g ≤ 10000) (hj : 0 ≤ j ∧ j ≤ 10000) : ∀ (f : Nat) (t : Int) (xs : List P2) (p : Option Int), 0 ≤ t → (∀ q, p = some q → q ≤ t) → okFrom p (evs g j f t xs) = true
  | 0, _, _, _, _, _ => by simp [evs, okFrom]
  | f + 1, _, [], _, _, _ => by simp [evs, okFrom]
  | f + 1, t, x :: xs, p, h, hp => by
    have hfine := evs_fine hg hj (f + 1) t (x :: xs) h
    rw [evs] at hfine ⊢
    split
    · rename_i ht
      rw [if_pos ht] at hfine
      have h1 := low31_bd x.1
      have hx := hfine (t + low31 x.1, low1023 x.2 % (j + 1)) (by simp)
      simp only [] at hx
      rw [okFrom]
      have hgt : gtP p (t + low31 x.1) = true := by
        cases p with
        | none => rfl
        | some q =>
          have := hp q rfl
          unfold gtP
          simp; omega
      rw [hgt, Bool.and_true, Bool.and_eq_true, Bool.and_eq_true, inB_iff, inB_iff]
      refine ⟨⟨by simp only []; omega, by simp only []; omega⟩, evs_ok hg hj f _ xs _ (by omega) (fun q hq => ?_)⟩
      simp at hq; omega
    · simp [okFrom]
theorem topEv_get {L : List Ta} {late : List (List P2)} {i : Nat} (h : i < L.length) : (topEv L late)[i]? = some (tev L late i) := by simp [topEv, h]
theorem topEv_len (L : List Ta) (late : List (List P2)) : (topEv L late).length = L.length := by simp [topEv]
theorem tev_ok {L : List Ta} (hv : ValidT L) {late : List (List P2)} {i : Nat} (hi : i < L.length) : evB (tev L late i) = true ∧ allowGo (taAt L i).gap (taAt L i).jit (taAt L i).first (tev L late i) = true := by
  have hm := ta_mem hi
  have h1 := hv.first _ hm
  have h2 := hv.gap _ hm
  have h3 := hv.jit _ hm
  unfold tev
  split
  · refine ⟨?_, evs_allowed h3.1 12 _ _ _ (Int.le_refl _)⟩
    unfold evB
    rw [evs_ok h2 h3 12 _ _ none h1.1 (by simp), Bool.true_and, decide_eq_true_eq]
    have := evs_len (taAt L i).gap (taAt L i).jit 12 (taAt L i).first (evAt late i)
    omega
  · exact ⟨rfl, by simp [allowGo]⟩
theorem topR_run {L : List Ta} (hl : validL L = true) {F S : Int} (hs : supB F S = true) (late : List (List P2)) : Go.Proofs.Ytmahagcghpoekaa.runB (topR L F S late) = true := by
  have hv := valid_of hl
  unfold Go.Proofs.Ytmahagcghpoekaa.runB topR
  simp only [hl, hs, topEv_len, List.length_replicate, decide_true, Bool.true_and, List.length_nil, List.all_nil, Bool.and_true]
  rw [Bool.and_eq_true, Bool.and_eq_true, List.all_eq_true, List.all_eq_true]
  refine ⟨by simp, fun l hl => ?_, fun b hb => ?_⟩
  · unfold topEv at hl
    obtain ⟨i, hi, rfl⟩ := List.mem_map.1 hl
    exact (tev_ok hv (List.mem_range.1 hi)).1
  · have := (List.mem_replicate.1 hb).2
    subst this
    exact inB_iff.2 (by omega)
theorem topR_alw {L : List Ta} (hl : validL L = true) {F S : Int} (hs : supB F S = true) (late : List (List P2)) : alwR (topR L F S late) = (true, 0) := by
  have hv := valid_of hl
  unfold alwR
  rw [topR_run hl hs late, if_pos rfl]
  have key : ∀ f i, i + f = L.length → alwF (topR L F S late) f i = true := by
    intro f
    induction f with
    | zero => intro i _; rfl
    | succ f ih =>
      intro i h
      rw [alwF, if_pos]
      · exact ih (i + 1) (by omega)
      · have hi : i < L.length := by omega
        refine ⟨?_, ?_⟩
        · unfold mayB evA
          show allowGo _ _ _ (((topEv L late)[i]?).getD []) = true
          rw [topEv_get hi]
          exact (tev_ok hv hi).2
        · unfold lowB buA
          show (decide (0 < ((List.replicate L.length (0 : Int))[i]?).getD 0) && _) = false
          rw [List.getElem?_replicate, if_pos hi]
          rfl
  have := key L.length 0 (by omega)
  show (alwF (topR L F S late) L.length 0, (0 : Int)) = (true, 0)
  rw [this]
theorem topR_meets {L : List Ta} (hl : validL L = true) {F S : Int} (hs : supB F S = true) (late : List (List P2)) (ha : accB L F S = true) {t : Int} (ht : 0 ≤ t ∧ t ≤ 2000) : meetsR (topR L F S late) t = (true, 0) :=
  meets_all (topR_run hl hs late) ht (topR_alw hl hs late) ha
end Go.Proofs.Ytmahagcghpoekaa
namespace Go.Proofs.Ytmahagcghpoekaa
open Go.RowKit
set_option linter.unusedSimpArgs false
set_option linter.unusedVariables false
section
variable {P : Program} {md : Region.Mode} {Q : Exit → Act → World → Prop} {S : World → Prop} {fuel : Nat} {listed : Array Bool} {a : Act} {w : World} {v : Value} {o0 o1 o2 o3 o4 o5 o6 o7 o8 o9 o10 o11 o12 o13 o14 o15 o16 o17 o18 o19 o20 o21 o22 o23 o24 o25 o26 o27 o28 o29 : Oper}
theorem tk30_0 (hs : Region.noSelect #[o0, o1, o2, o3, o4, o5, o6, o7, o8, o9, o10, o11, o12, o13, o14, o15, o16, o17, o18, o19, o20, o21, o22, o23, o24, o25, o26, o27, o28, o29] = true) (hf : Region.free md #[o0, o1, o2, o3, o4, o5, o6, o7, o8, o9, o10, o11, o12, o13, o14, o15, o16, o17, o18, o19, o20, o21, o22, o23, o24, o25, o26, o27, o28, o29] listed 0 = true) (hr : (Region.ready md #[o0, o1, o2, o3, o4, o5, o6, o7, o8, o9, o10, o11, o12, o13, o14, o15, o16, o17, o18, o19, o20, o21, o22, o23, o24, o25, o26, o27, o28, o29] listed).contains 0 = true) (hQ : ∀ c a w, Q (.panic c) (a.put o0.dst v) w → Q (.panic c) a w) (hy : YieldsIf P #[o0, o1, o2, o3, o4, o5, o6, o7, o8, o9, o10, o11, o12, o13, o14, o15, o16, o17, o18, o19, o20, o21, o22, o23, o24, o25, o26, o27, o28, o29] S o0 v a) (hS : S w) (h : wpAnyH P md #[o0, o1, o2, o3, o4, o5, o6, o7, o8, o9, o10, o11, o12, o13, o14, o15, o16, o17, o18, o19, o20, o21, o22, o23, o24, o25, o26, o27, o28, o29] Q S fuel (listed.setIfInBounds 0 true) (a.put o0.dst v) w) : wpAnyH P md #[o0, o1, o2, o3, o4, o5, o6, o7, o8, o9, o10, o11, o12, o13, o14, o15, o16, o17, o18, o19, o20, o21, o22, o23, o24, o25, o26, o27, o28, o29] Q S (fuel + 1) listed a w := wpAnyH_take (i := 0) (oi := o0) rfl hs hf hr hQ hy hS h
theorem tk30_1 (hs : Region.noSelect #[o0, o1, o2, o3, o4, o5, o6, o7, o8, o9, o10, o11, o12, o13, o14, o15, o16, o17, o18, o19, o20, o21, o22, o23, o24, o25, o26, o27, o28, o29] = true) (hf : Region.free md #[o0, o1, o2, o3, o4, o5, o6, o7, o8, o9, o10, o11, o12, o13, o14, o15, o16, o17, o18, o19, o20, o21, o22, o23, o24, o25, o26, o27, o28, o29] listed 1 = true) (hr : (Region.ready md #[o0, o1, o2, o3, o4, o5, o6, o7, o8, o9, o10, o11, o12, o13, o14, o15, o16, o17, o18, o19, o20, o21, o22, o23, o24, o25, o26, o27, o28, o29] listed).contains 1 = true) (hQ : ∀ c a w, Q (.panic c) (a.put o1.dst v) w → Q (.panic c) a w) (hy : YieldsIf P #[o0, o1, o2, o3, o4, o5, o6, o7, o8, o9, o10, o11, o12, o13, o14, o15, o16, o17, o18, o19, o20, o21, o22, o23, o24, o25, o26, o27, o28, o29] S o1 v a) (hS : S w) (h : wpAnyH P md #[o0, o1, o2, o3, o4, o5, o6, o7, o8, o9, o10, o11, o12, o13, o14, o15, o16, o17, o18, o19, o20, o21, o22, o23, o24, o25, o26, o27, o28, o29] Q S fuel (listed.setIfInBounds 1 true) (a.put o1.dst v) w) : wpAnyH P md #[o0, o1, o2, o3, o4, o5, o6, o7, o8, o9, o10, o11, o12, o13, o14, o15, o16, o17, o18, o19, o20, o21, o22, o23, o24, o25, o26, o27, o28, o29] Q S (fuel + 1) listed a w := wpAnyH_take (i := 1) (oi := o1) rfl hs hf hr hQ hy hS h
theorem tk30_2 (hs : Region.noSelect #[o0, o1, o2, o3, o4, o5, o6, o7, o8, o9, o10, o11, o12, o13, o14, o15, o16, o17, o18, o19, o20, o21, o22, o23, o24, o25, o26, o27, o28, o29] = true) (hf : Region.free md #[o0, o1, o2, o3, o4, o5, o6, o7, o8, o9, o10, o11, o12, o13, o14, o15, o16, o17, o18, o19, o20, o21, o22, o23, o24, o25, o26, o27, o28, o29] listed 2 = true) (hr : (Region.ready md #[o0, o1, o2, o3, o4, o5, o6, o7, o8, o9, o10, o11, o12, o13, o14, o15, o16, o17, o18, o19, o20, o21, o22, o23, o24, o25, o26, o27, o28, o29] listed).contains 2 = true) (hQ : ∀ c a w, Q (.panic c) (a.put o2.dst v) w → Q (.panic c) a w) (hy : YieldsIf P #[o0, o1, o2, o3, o4, o5, o6, o7, o8, o9, o10, o11, o12, o13, o14, o15, o16, o17, o18, o19, o20, o21, o22, o23, o24, o25, o26, o27, o28, o29] S o2 v a) (hS : S w) (h : wpAnyH P md #[o0, o1, o2, o3, o4, o5, o6, o7, o8, o9, o10, o11, o12, o13, o14, o15, o16, o17, o18, o19, o20, o21, o22, o23, o24, o25, o26, o27, o28, o29] Q S fuel (listed.setIfInBounds 2 true) (a.put o2.dst v) w) : wpAnyH P md #[o0, o1, o2, o3, o4, o5, o6, o7, o8, o9, o10, o11, o12, o13, o14, o15, o16, o17, o18, o19, o20, o21, o22, o23, o24, o25, o26, o27, o28, o29] Q S (fuel + 1) listed a w := wpAnyH_take (i := 2) (oi := o2) rfl hs hf hr hQ hy hS h
theorem tk30_3 (hs : Region.noSelect #[o0, o1, o2, o3, o4, o5, o6, o7, o8, o9, o10, o11, o12, o13, o14, o15, o16, o17, o18, o19, o20, o21, o22, o23, o24, o25, o26, o27, o28, o29] = true) (hf : Region.free md #[o0, o1, o2, o3, o4, o5, o6, o7, o8, o9, o10, o11, o12, o13, o14, o15, o16, o17, o18, o19, o20, o21, o22, o23, o24, o25, o26, o27, o28, o29] listed 3 = true) (hr : (Region.ready md #[o0, o1, o2, o3, o4, o5, o6, o7, o8, o9, o10, o11, o12, o13, o14, o15, o16, o17, o18, o19, o20, o21, o22, o23, o24, o25, o26, o27, o28, o29] listed).contains 3 = true) (hQ : ∀ c a w, Q (.panic c) (a.put o3.dst v) w → Q (.panic c) a w) (hy : YieldsIf P #[o0, o1, o2, o3, o4, o5, o6, o7, o8, o9, o10, o11, o12, o13, o14, o15, o16, o17, o18, o19, o20, o21, o22, o23, o24, o25, o26, o27, o28, o29] S o3 v a) (hS : S w) (h : wpAnyH P md #[o0, o1, o2, o3, o4, o5, o6, o7, o8, o9, o10, o11, o12, o13, o14, o15, o16, o17, o18, o19, o20, o21, o22, o23, o24, o25, o26, o27, o28, o29] Q S fuel (listed.setIfInBounds 3 true) (a.put o3.dst v) w) : wpAnyH P md #[o0, o1, o2, o3, o4, o5, o6, o7, o8, o9, o10, o11, o12, o13, o14, o15, o16, o17, o18, o19, o20, o21, o22, o23, o24, o25, o26, o27, o28, o29] Q S (fuel + 1) listed a w := wpAnyH_take (i := 3) (oi := o3) rfl hs hf hr hQ hy hS h
theorem tk30_4 (hs : Region.noSelect #[o0, o1, o2, o3, o4, o5, o6, o7, o8, o9, o10, o11, o12, o13, o14, o15, o16, o17, o18, o19, o20, o21, o22, o23, o24, o25, o26, o27, o28, o29] = true) (hf : Region.free md #[o0, o1, o2, o3, o4, o5, o6, o7, o8, o9, o10, o11, o12, o13, o14, o15, o16, o17, o18, o19, o20, o21, o22, o23, o24, o25, o26, o27, o28, o29] listed 4 = true) (hr : (Region.ready md #[o0, o1, o2, o3, o4, o5, o6, o7, o8, o9, o10, o11, o12, o13, o14, o15, o16, o17, o18, o19, o20, o21, o22, o23, o24, o25, o26, o27, o28, o29] listed).contains 4 = true) (hQ : ∀ c a w, Q (.panic c) (a.put o4.dst v) w → Q (.panic c) a w) (hy : YieldsIf P #[o0, o1, o2, o3, o4, o5, o6, o7, o8, o9, o10, o11, o12, o13, o14, o15, o16, o17, o18, o19, o20, o21, o22, o23, o24, o25, o26, o27, o28, o29] S o4 v a) (hS : S w) (h : wpAnyH P md #[o0, o1, o2, o3, o4, o5, o6, o7, o8, o9, o10, o11, o12, o13, o14, o15, o16, o17, o18, o19, o20, o21, o22, o23, o24, o25, o26, o27, o28, o29] Q S fuel (listed.setIfInBounds 4 true) (a.put o4.dst v) w) : wpAnyH P md #[o0, o1, o2, o3, o4, o5, o6, o7, o8, o9, o10, o11, o12, o13, o14, o15, o16, o17, o18, o19, o20, o21, o22, o23, o24, o25, o26, o27, o28, o29] Q S (fuel + 1) listed a w := wpAnyH_take (i := 4) (oi := o4) rfl hs hf hr hQ hy hS h
theorem tk30_5 (hs : Region.noSelect #[o0, o1, o2, o3, o4, o5, o6, o7, o8, o9, o10, o11, o12, o13, o14, o15, o16, o17, o18, o19, o20, o21, o22, o23, o24, o25, o26, o27, o28, o29] = true) (hf : Region.free md #[o0, o1, o2, o3, o4, o5, o6, o7, o8, o9, o10, o11, o12, o13, o14, o15, o16, o17, o18, o19, o20, o21, o22, o23, o24, o25, o26, o27, o28, o29] listed 5 = true) (hr : (Region.ready md #[o0, o1, o2, o3, o4, o5, o6, o7, o8, o9, o10, o11, o12, o13, o14, o15, o16, o17, o18, o19, o20, o21, o22, o23, o24, o25, o26, o27, o28, o29] listed).contains 5 = true) (hQ : ∀ c a w, Q (.panic c) (a.put o5.dst v) w → Q (.panic c) a w) (hy : YieldsIf P #[o0, o1, o2, o3, o4, o5, o6, o7, o8, o9, o10, o11, o12, o13, o14, o15, o16, o17, o18, o19, o20, o21, o22, o23, o24, o25, o26, o27, o28, o29] S o5 v a) (hS : S w) (h : wpAnyH P md #[o0, o1, o2, o3, o4, o5, o6, o7, o8, o9, o10, o11, o12, o13, o14, o15, o16, o17, o18, o19, o20, o21, o22, o23, o24, o25, o26, o27, o28, o29] Q S fuel (listed.setIfInBounds 5 true) (a.put o5.dst v) w) : wpAnyH P md #[o0, o1, o2, o3, o4, o5, o6, o7, o8, o9, o10, o11, o12, o13, o14, o15, o16, o17, o18, o19, o20, o21, o22, o23, o24, o25, o26, o27, o28, o29] Q S (fuel + 1) listed a w := wpAnyH_take (i := 5) (oi := o5) rfl hs hf hr hQ hy hS h
theorem tk30_6 (hs : Region.noSelect #[o0, o1, o2, o3, o4, o5, o6, o7, o8, o9, o10, o11, o12, o13, o14, o15, o16, o17, o18, o19, o20, o21, o22, o23, o24, o25, o26, o27, o28, o29] = true) (hf : Region.free md #[o0, o1, o2, o3, o4, o5, o6, o7, o8, o9, o10, o11, o12, o13, o14, o15, o16, o17, o18, o19, o20, o21, o22, o23, o24, o25, o26, o27, o28, o29] listed 6 = true) (hr : (Region.ready md #[o0, o1, o2, o3, o4, o5, o6, o7, o8, o9, o10, o11, o12, o13, o14, o15, o16, o17, o18, o19, o20, o21, o22, o23, o24, o25, o26, o27, o28, o29] listed).contains 6 = true) (hQ : ∀ c a w, Q (.panic c) (a.put o6.dst v) w → Q (.panic c) a w) (hy : YieldsIf P #[o0, o1, o2, o3, o4, o5, o6, o7, o8, o9, o10, o11, o12, o13, o14, o15, o16, o17, o18, o19, o20, o21, o22, o23, o24, o25, o26, o27, o28, o29] S o6 v a) (hS : S w) (h : wpAnyH P md #[o0, o1, o2, o3, o4, o5, o6, o7, o8, o9, o10, o11, o12, o13, o14, o15, o16, o17, o18, o19, o20, o21, o22, o23, o24, o25, o26, o27, o28, o29] Q S fuel (listed.setIfInBounds 6 true) (a.put o6.dst v) w) : wpAnyH P md #[o0, o1, o2, o3, o4, o5, o6, o7, o8, o9, o10, o11, o12, o13, o14, o15, o16, o17, o18, o19, o20, o21, o22, o23, o24, o25, o26, o27, o28, o29] Q S (fuel + 1) listed a w := wpAnyH_take (i := 6) (oi := o6) rfl hs hf hr hQ hy hS h
theorem tk30_7 (hs : Region.noSelect #[o0, o1, o2, o3, o4, o5, o6, o7, o8, o9, o10, o11, o12, o13, o14, o15, o16, o17, o18, o19, o20, o21, o22, o23, o24, o25, o26, o27, o28, o29] = true) (hf : Region.free md #[o0, o1, o2, o3, o4, o5, o6, o7, o8, o9, o10, o11, o12, o13, o14, o15, o16, o17, o18, o19, o20, o21, o22, o23, o24, o25, o26, o27, o28, o29] listed 7 = true) (hr : (Region.ready md #[o0, o1, o2, o3, o4, o5, o6, o7, o8, o9, o10, o11, o12, o13, o14, o15, o16, o17, o18, o19, o20, o21, o22, o23, o24, o25, o26, o27, o28, o29] listed).contains 7 = true) (hQ : ∀ c a w, Q (.panic c) (a.put o7.dst v) w → Q (.panic c) a w) (hy : YieldsIf P #[o0, o1, o2, o3, o4, o5, o6, o7, o8, o9, o10, o11, o12, o13, o14, o15, o16, o17, o18, o19, o20, o21, o22, o23, o24, o25, o26, o27, o28, o29] S o7 v a) (hS : S w) (h : wpAnyH P md #[o0, o1, o2, o3, o4, o5, o6, o7, o8, o9, o10, o11, o12, o13, o14, o15, o16, o17, o18, o19, o20, o21, o22, o23, o24, o25, o26, o27, o28, o29] Q S fuel (listed.setIfInBounds 7 true) (a.put o7.dst v) w) : wpAnyH P md #[o0, o1, o2, o3, o4, o5, o6, o7, o8, o9, o10, o11, o12, o13, o14, o15, o16, o17, o18, o19, o20, o21, o22, o23, o24, o25, o26, o27, o28, o29] Q S (fuel + 1) listed a w := wpAnyH_take (i := 7) (oi := o7) rfl hs hf hr hQ hy hS h
theorem tk30_8 (hs : Region.noSelect #[o0, o1, o2, o3, o4, o5, o6, o7, o8, o9, o10, o11, o12, o13, o14, o15, o16, o17, o18, o19, o20, o21, o22, o23, o24, o25, o26, o27, o28, o29] = true) (hf : Region.free md #[o0, o1, o2, o3, o4, o5, o6, o7, o8, o9, o10, o11, o12, o13, o14, o15, o16, o17, o18, o19, o20, o21, o22, o23, o24, o25, o26, o27, o28, o29] listed 8 = true) (hr : (Region.ready md #[o0, o1, o2, o3, o4, o5, o6, o7, o8, o9, o10, o11, o12, o13, o14, o15, o16, o17, o18, o19, o20, o21, o22, o23, o24, o25, o26, o27, o28, o29] listed).contains 8 = true) (hQ : ∀ c a w, Q (.panic c) (a.put o8.dst v) w → Q (.panic c) a w) (hy : YieldsIf P #[o0, o1, o2, o3, o4, o5, o6, o7, o8, o9, o10, o11, o12, o13, o14, o15, o16, o17, o18, o19, o20, o21, o22, o23, o24, o25, o26, o27, o28, o29] S o8 v a) (hS : S w) (h : wpAnyH P md #[o0, o1, o2, o3, o4, o5, o6, o7, o8, o9, o10, o11, o12, o13, o14, o15, o16, o17, o18, o19, o20, o21, o22, o23, o24, o25, o26, o27, o28, o29] Q S fuel (listed.setIfInBounds 8 true) (a.put o8.dst v) w) : wpAnyH P md #[o0, o1, o2, o3, o4, o5, o6, o7, o8, o9, o10, o11, o12, o13, o14, o15, o16, o17, o18, o19, o20, o21, o22, o23, o24, o25, o26, o27, o28, o29] Q S (fuel + 1) listed a w := wpAnyH_take (i := 8) (oi := o8) rfl hs hf hr hQ hy hS h
theorem tk30_9 (hs : Region.noSelect #[o0, o1, o2, o3, o4, o5, o6, o7, o8, o9, o10, o11, o12, o13, o14, o15, o16, o17, o18, o19, o20, o21, o22, o23, o24, o25, o26, o27, o28, o29] = true) (hf : Region.free md #[o0, o1, o2, o3, o4, o5, o6, o7, o8, o9, o10, o11, o12, o13, o14, o15, o16, o17, o18, o19, o20, o21, o22, o23, o24, o25, o26, o27, o28, o29] listed 9 = true) (hr : (Region.ready md #[o0, o1, o2, o3, o4, o5, o6, o7, o8, o9, o10, o11, o12, o13, o14, o15, o16, o17, o18, o19, o20, o21, o22, o23, o24, o25, o26, o27, o28, o29] listed).contains 9 = true) (hQ : ∀ c a w, Q (.panic c) (a.put o9.dst v) w → Q (.panic c) a w) (hy : YieldsIf P #[o0, o1, o2, o3, o4, o5, o6, o7, o8, o9, o10, o11, o12, o13, o14, o15, o16, o17, o18, o19, o20, o21, o22, o23, o24, o25, o26, o27, o28, o29] S o9 v a) (hS : S w) (h : wpAnyH P md #[o0, o1, o2, o3, o4, o5, o6, o7, o8, o9, o10, o11, o12, o13, o14, o15, o16, o17, o18, o19, o20, o21, o22, o23, o24, o25, o26, o27, o28, o29] Q S fuel (listed.setIfInBounds 9 true) (a.put o9.dst v) w) : wpAnyH P md #[o0, o1, o2, o3, o4, o5, o6, o7, o8, o9, o10, o11, o12, o13, o14, o15, o16, o17, o18, o19, o20, o21, o22, o23, o24, o25, o26, o27, o28, o29] Q S (fuel + 1) listed a w := wpAnyH_take (i := 9) (oi := o9) rfl hs hf hr hQ hy hS h
theorem tk30_10 (hs : Region.noSelect #[o0, o1, o2, o3, o4, o5, o6, o7, o8, o9, o10, o11, o12, o13, o14, o15, o16, o17, o18, o19, o20, o21, o22, o23, o24, o25, o26, o27, o28, o29] = true) (hf : Region.free md #[o0, o1, o2, o3, o4, o5, o6, o7, o8, o9, o10, o11, o12, o13, o14, o15, o16, o17, o18, o19, o20, o21, o22, o23, o24, o25, o26, o27, o28, o29] listed 10 = true) (hr : (Region.ready md #[o0, o1, o2, o3, o4, o5, o6, o7, o8, o9, o10, o11, o12, o13, o14, o15, o16, o17, o18, o19, o20, o21, o22, o23, o24, o25, o26, o27, o28, o29] listed).contains 10 = true) (hQ : ∀ c a w, Q (.panic c) (a.put o10.dst v) w → Q (.panic c) a w) (hy : YieldsIf P #[o0, o1, o2, o3, o4, o5, o6, o7, o8, o9, o10, o11, o12, o13, o14, o15, o16, o17, o18, o19, o20, o21, o22, o23, o24, o25, o26, o27, o28, o29] S o10 v a) (hS : S w) (h : wpAnyH P md #[o0, o1, o2, o3, o4, o5, o6, o7, o8, o9, o10, o11, o12, o13, o14, o15, o16, o17, o18, o19, o20, o21, o22, o23, o24, o25, o26, o27, o28, o29] Q S fuel (listed.setIfInBounds 10 true) (a.put o10.dst v) w) : wpAnyH P md #[o0, o1, o2, o3, o4, o5, o6, o7, o8, o9, o10, o11, o12, o13, o14, o15, o16, o17, o18, o19, o20, o21, o22, o23, o24, o25, o26, o27, o28, o29] Q S (fuel + 1) listed a w := wpAnyH_take (i := 10) (oi := o10) rfl hs hf hr hQ hy hS h
theorem tk30_11 (hs : Region.noSelect #[o0, o1, o2, o3, o4, o5, o6, o7, o8, o9, o10, o11, o12, o13, o14, o15, o16, o17, o18, o19, o20, o21, o22, o23, o24, o25, o26, o27, o28, o29] = true) (hf : Region.free md #[o0, o1, o2, o3, o4, o5, o6, o7, o8, o9, o10, o11, o12, o13, o14, o15, o16, o17, o18, o19, o20, o21, o22, o23, o24, o25, o26, o27, o28, o29] listed 11 = true) (hr : (Region.ready md #[o0, o1, o2, o3, o4, o5, o6, o7, o8, o9, o10, o11, o12, o13, o14, o15, o16, o17, o18, o19, o20, o21, o22, o23, o24, o25, o26, o27, o28, o29] listed).contains 11 = true) (hQ : ∀ c a w, Q (.panic c) (a.put o11.dst v) w → Q (.panic c) a w) (hy : YieldsIf P #[o0, o1, o2, o3, o4, o5, o6, o7, o8, o9, o10, o11, o12, o13, o14, o15, o16, o17, o18, o19, o20, o21, o22, o23, o24, o25, o26, o27, o28, o29] S o11 v a) (hS : S w) (h : wpAnyH P md #[o0, o1, o2, o3, o4, o5, o6, o7, o8, o9, o10, o11, o12, o13, o14, o15, o16, o17, o18, o19, o20, o21, o22, o23, o24, o25, o26, o27, o28, o29] Q S fuel (listed.setIfInBounds 11 true) (a.put o11.dst v) w) : wpAnyH P md #[o0, o1, o2, o3, o4, o5, o6, o7, o8, o9, o10, o11, o12, o13, o14, o15, o16, o17, o18, o19, o20, o21, o22, o23, o24, o25, o26, o27, o28, o29] Q S (fuel + 1) listed a w := wpAnyH_take (i := 11) (oi := o11) rfl hs hf hr hQ hy hS h
theorem tk30_12 (hs : Region.noSelect #[o0, o1, o2, o3, o4, o5, o6, o7, o8, o9, o10, o11, o12, o13, o14, o15, o16, o17, o18, o19, o20, o21, o22, o23, o24, o25, o26, o27, o28, o29] = true) (hf : Region.free md #[o0, o1, o2, o3, o4, o5, o6, o7, o8, o9, o10, o11, o12, o13, o14, o15, o16, o17, o18, o19, o20, o21, o22, o23, o24, o25, o26, o27, o28, o29] listed 12 = true) (hr : (Region.ready md #[o0, o1, o2, o3, o4, o5, o6, o7, o8, o9, o10, o11, o12, o13, o14, o15, o16, o17, o18, o19, o20, o21, o22, o23, o24, o25, o26, o27, o28, o29] listed).contains 12 = true) (hQ : ∀ c a w, Q (.panic c) (a.put o12.dst v) w → Q (.panic c) a w) (hy : YieldsIf P #[o0, o1, o2, o3, o4, o5, o6, o7, o8, o9, o10, o11, o12, o13, o14, o15, o16, o17, o18, o19, o20, o21, o22, o23, o24, o25, o26, o27, o28, o29] S o12 v a) (hS : S w) (h : wpAnyH P md #[o0, o1, o2, o3, o4, o5, o6, o7, o8, o9, o10, o11, o12, o13, o14, o15, o16, o17, o18, o19, o20, o21, o22, o23, o24, o25, o26, o27, o28, o29] Q S fuel (listed.setIfInBounds 12 true) (a.put o12.dst v) w) : wpAnyH P md #[o0, o1, o2, o3, o4, o5, o6, o7, o8, o9, o10, o11, o12, o13, o14, o15, o16, o17, o18, o19, o20, o21, o22, o23, o24, o25, o26, o27, o28, o29] Q S (fuel + 1) listed a w := wpAnyH_take (i := 12) (oi := o12) rfl hs hf hr hQ hy hS h
theorem tk30_13 (hs : Region.noSelect #[o0, o1, o2, o3, o4, o5, o6, o7, o8, o9, o10, o11, o12, o13, o14, o15, o16, o17, o18, o19, o20, o21, o22, o23, o24, o25, o26, o27, o28, o29] = true) (hf : Region.free md #[o0, o1, o2, o3, o4, o5, o6, o7, o8, o9, o10, o11, o12, o13, o14, o15, o16, o17, o18, o19, o20, o21, o22, o23, o24, o25, o26, o27, o28, o29] listed 13 = true) (hr : (Region.ready md #[o0, o1, o2, o3, o4, o5, o6, o7, o8, o9, o10, o11, o12, o13, o14, o15, o16, o17, o18, o19, o20, o21, o22, o23, o24, o25, o26, o27, o28, o29] listed).contains 13 = true) (hQ : ∀ c a w, Q (.panic c) (a.put o13.dst v) w → Q (.panic c) a w) (hy : YieldsIf P #[o0, o1, o2, o3, o4, o5, o6, o7, o8, o9, o10, o11, o12, o13, o14, o15, o16, o17, o18, o19, o20, o21, o22, o23, o24, o25, o26, o27, o28, o29] S o13 v a) (hS : S w) (h : wpAnyH P md #[o0, o1, o2, o3, o4, o5, o6, o7, o8, o9, o10, o11, o12, o13, o14, o15, o16, o17, o18, o19, o20, o21, o22, o23, o24, o25, o26, o27, o28, o29] Q S fuel (listed.setIfInBounds 13 true) (a.put o13.dst v) w) : wpAnyH P md #[o0, o1, o2, o3, o4, o5, o6, o7, o8, o9, o10, o11, o12, o13, o14, o15, o16, o17, o18, o19, o20, o21, o22, o23, o24, o25, o26, o27, o28, o29] Q S (fuel + 1) listed a w := wpAnyH_take (i := 13) (oi := o13) rfl hs hf hr hQ hy hS h
theorem tk30_14 (hs : Region.noSelect #[o0, o1, o2, o3, o4, o5, o6, o7, o8, o9, o10, o11, o12, o13, o14, o15, o16, o17, o18, o19, o20, o21, o22, o23, o24, o25, o26, o27, o28, o29] = true) (hf : Region.free md #[o0, o1, o2, o3, o4, o5, o6, o7, o8, o9, o10, o11, o12, o13, o14, o15, o16, o17, o18, o19, o20, o21, o22, o23, o24, o25, o26, o27, o28, o29] listed 14 = true) (hr : (Region.ready md #[o0, o1, o2, o3, o4, o5, o6, o7, o8, o9, o10, o11, o12, o13, o14, o15, o16, o17, o18, o19, o20, o21, o22, o23, o24, o25, o26, o27, o28, o29] listed).contains 14 = true) (hQ : ∀ c a w, Q (.panic c) (a.put o14.dst v) w → Q (.panic c) a w) (hy : YieldsIf P #[o0, o1, o2, o3, o4, o5, o6, o7, o8, o9, o10, o11, o12, o13, o14, o15, o16, o17, o18, o19, o20, o21, o22, o23, o24, o25, o26, o27, o28, o29] S o14 v a) (hS : S w) (h : wpAnyH P md #[o0, o1, o2, o3, o4, o5, o6, o7, o8, o9, o10, o11, o12, o13, o14, o15, o16, o17, o18, o19, o20, o21, o22, o23, o24, o25, o26, o27, o28, o29] Q S fuel (listed.setIfInBounds 14 true) (a.put o14.dst v) w) : wpAnyH P md #[o0, o1, o2, o3, o4, o5, o6, o7, o8, o9, o10, o11, o12, o13, o14, o15, o16, o17, o18, o19, o20, o21, o22, o23, o24, o25, o26, o27, o28, o29] Q S (fuel + 1) listed a w := wpAnyH_take (i := 14) (oi := o14) rfl hs hf hr hQ hy hS h
theorem tk30_15 (hs : Region.noSelect #[o0, o1, o2, o3, o4, o5, o6, o7, o8, o9, o10, o11, o12, o13, o14, o15, o16, o17, o18, o19, o20, o21, o22, o23, o24, o25, o26, o27, o28, o29] = true) (hf : Region.free md #[o0, o1, o2, o3, o4, o5, o6, o7, o8, o9, o10, o11, o12, o13, o14, o15, o16, o17, o18, o19, o20, o21, o22, o23, o24, o25, o26, o27, o28, o29] listed 15 = true) (hr : (Region.ready md #[o0, o1, o2, o3, o4, o5, o6, o7, o8, o9, o10, o11, o12, o13, o14, o15, o16, o17, o18, o19, o20, o21, o22, o23, o24, o25, o26, o27, o28, o29] listed).contains 15 = true) (hQ : ∀ c a w, Q (.panic c) (a.put o15.dst v) w → Q (.panic c) a w) (hy : YieldsIf P #[o0, o1, o2, o3, o4, o5, o6, o7, o8, o9, o10, o11, o12, o13, o14, o15, o16, o17, o18, o19, o20, o21, o22, o23, o24, o25, o26, o27, o28, o29] S o15 v a) (hS : S w) (h : wpAnyH P md #[o0, o1, o2, o3, o4, o5, o6, o7, o8, o9, o10, o11, o12, o13, o14, o15, o16, o17, o18, o19, o20, o21, o22, o23, o24, o25, o26, o27, o28, o29] Q S fuel (listed.setIfInBounds 15 true) (a.put o15.dst v) w) : wpAnyH P md #[o0, o1, o2, o3, o4, o5, o6, o7, o8, o9, o10, o11, o12, o13, o14, o15, o16, o17, o18, o19, o20, o21, o22, o23, o24, o25, o26, o27, o28, o29] Q S (fuel + 1) listed a w := wpAnyH_take (i := 15) (oi := o15) rfl hs hf hr hQ hy hS h
theorem tk30_16 (hs : Region.noSelect #[o0, o1, o2, o3, o4, o5, o6, o7, o8, o9, o10, o11, o12, o13, o14, o15, o16, o17, o18, o19, o20, o21, o22, o23, o24, o25, o26, o27, o28, o29] = true) (hf : Region.free md #[o0, o1, o2, o3, o4, o5, o6, o7, o8, o9, o10, o11, o12, o13, o14, o15, o16, o17, o18, o19, o20, o21, o22, o23, o24, o25, o26, o27, o28, o29] listed 16 = true) (hr : (Region.ready md #[o0, o1, o2, o3, o4, o5, o6, o7, o8, o9, o10, o11, o12, o13, o14, o15, o16, o17, o18, o19, o20, o21, o22, o23, o24, o25, o26, o27, o28, o29] listed).contains 16 = true) (hQ : ∀ c a w, Q (.panic c) (a.put o16.dst v) w → Q (.panic c) a w) (hy : YieldsIf P #[o0, o1, o2, o3, o4, o5, o6, o7, o8, o9, o10, o11, o12, o13, o14, o15, o16, o17, o18, o19, o20, o21, o22, o23, o24, o25, o26, o27, o28, o29] S o16 v a) (hS : S w) (h : wpAnyH P md #[o0, o1, o2, o3, o4, o5, o6, o7, o8, o9, o10, o11, o12, o13, o14, o15, o16, o17, o18, o19, o20, o21, o22, o23, o24, o25, o26, o27, o28, o29] Q S fuel (listed.setIfInBounds 16 true) (a.put o16.dst v) w) : wpAnyH P md #[o0, o1, o2, o3, o4, o5, o6, o7, o8, o9, o10, o11, o12, o13, o14, o15, o16, o17, o18, o19, o20, o21, o22, o23, o24, o25, o26, o27, o28, o29] Q S (fuel + 1) listed a w := wpAnyH_take (i := 16) (oi := o16) rfl hs hf hr hQ hy hS h
theorem tk30_17 (hs : Region.noSelect #[o0, o1, o2, o3, o4, o5, o6, o7, o8, o9, o10, o11, o12, o13, o14, o15, o16, o17, o18, o19, o20, o21, o22, o23, o24, o25, o26, o27, o28, o29] = true) (hf : Region.free md #[o0, o1, o2, o3, o4, o5, o6, o7, o8, o9, o10, o11, o12, o13, o14, o15, o16, o17, o18, o19, o20, o21, o22, o23, o24, o25, o26, o27, o28, o29] listed 17 = true) (hr : (Region.ready md #[o0, o1, o2, o3, o4, o5, o6, o7, o8, o9, o10, o11, o12, o13, o14, o15, o16, o17, o18, o19, o20, o21, o22, o23, o24, o25, o26, o27, o28, o29] listed).contains 17 = true) (hQ : ∀ c a w, Q (.panic c) (a.put o17.dst v) w → Q (.panic c) a w) (hy : YieldsIf P #[o0, o1, o2, o3, o4, o5, o6, o7, o8, o9, o10, o11, o12, o13, o14, o15, o16, o17, o18, o19, o20, o21, o22, o23, o24, o25, o26, o27, o28, o29] S o17 v a) (hS : S w) (h : wpAnyH P md #[o0, o1, o2, o3, o4, o5, o6, o7, o8, o9, o10, o11, o12, o13, o14, o15, o16, o17, o18, o19, o20, o21, o22, o23, o24, o25, o26, o27, o28, o29] Q S fuel (listed.setIfInBounds 17 true) (a.put o17.dst v) w) : wpAnyH P md #[o0, o1, o2, o3, o4, o5, o6, o7, o8, o9, o10, o11, o12, o13, o14, o15, o16, o17, o18, o19, o20, o21, o22, o23, o24, o25, o26, o27, o28, o29] Q S (fuel + 1) listed a w := wpAnyH_take (i := 17) (oi := o17) rfl hs hf hr hQ hy hS h
theorem tk30_18 (hs : Region.noSelect #[o0, o1, o2, o3, o4, o5, o6, o7, o8, o9, o10, o11, o12, o13, o14, o15, o16, o17, o18, o19, o20, o21, o22, o23, o24, o25, o26, o27, o28, o29] = true) (hf : Region.free md #[o0, o1, o2, o3, o4, o5, o6, o7, o8, o9, o10, o11, o12, o13, o14, o15, o16, o17, o18, o19, o20, o21, o22, o23, o24, o25, o26, o27, o28, o29] listed 18 = true) (hr : (Region.ready md #[o0, o1, o2, o3, o4, o5, o6, o7, o8, o9, o10, o11, o12, o13, o14, o15, o16, o17, o18, o19, o20, o21, o22, o23, o24, o25, o26, o27, o28, o29] listed).contains 18 = true) (hQ : ∀ c a w, Q (.panic c) (a.put o18.dst v) w → Q (.panic c) a w) (hy : YieldsIf P #[o0, o1, o2, o3, o4, o5, o6, o7, o8, o9, o10, o11, o12, o13, o14, o15, o16, o17, o18, o19, o20, o21, o22, o23, o24, o25, o26, o27, o28, o29] S o18 v a) (hS : S w) (h : wpAnyH P md #[o0, o1, o2, o3, o4, o5, o6, o7, o8, o9, o10, o11, o12, o13, o14, o15, o16, o17, o18, o19, o20, o21, o22, o23, o24, o25, o26, o27, o28, o29] Q S fuel (listed.setIfInBounds 18 true) (a.put o18.dst v) w) : wpAnyH P md #[o0, o1, o2, o3, o4, o5, o6, o7, o8, o9, o10, o11, o12, o13, o14, o15, o16, o17, o18, o19, o20, o21, o22, o23, o24, o25, o26, o27, o28, o29] Q S (fuel + 1) listed a w := wpAnyH_take (i := 18) (oi := o18) rfl hs hf hr hQ hy hS h
theorem tk30_19 (hs : Region.noSelect #[o0, o1, o2, o3, o4, o5, o6, o7, o8, o9, o10, o11, o12, o13, o14, o15, o16, o17, o18, o19, o20, o21, o22, o23, o24, o25, o26, o27, o28, o29] = true) (hf : Region.free md #[o0, o1, o2, o3, o4, o5, o6, o7, o8, o9, o10, o11, o12, o13, o14, o15, o16, o17, o18, o19, o20, o21, o22, o23, o24, o25, o26, o27, o28, o29] listed 19 = true) (hr : (Region.ready md #[o0, o1, o2, o3, o4, o5, o6, o7, o8, o9, o10, o11, o12, o13, o14, o15, o16, o17, o18, o19, o20, o21, o22, o23, o24, o25, o26, o27, o28, o29] listed).contains 19 = true) (hQ : ∀ c a w, Q (.panic c) (a.put o19.dst v) w → Q (.panic c) a w) (hy : YieldsIf P #[o0, o1, o2, o3, o4, o5, o6, o7, o8, o9, o10, o11, o12, o13, o14, o15, o16, o17, o18, o19, o20, o21, o22, o23, o24, o25, o26, o27, o28, o29] S o19 v a) (hS : S w) (h : wpAnyH P md #[o0, o1, o2, o3, o4, o5, o6, o7, o8, o9, o10, o11, o12, o13, o14, o15, o16, o17, o18, o19, o20, o21, o22, o23, o24, o25, o26, o27, o28, o29] Q S fuel (listed.setIfInBounds 19 true) (a.put o19.dst v) w) : wpAnyH P md #[o0, o1, o2, o3, o4, o5, o6, o7, o8, o9, o10, o11, o12, o13, o14, o15, o16, o17, o18, o19, o20, o21, o22, o23, o24, o25, o26, o27, o28, o29] Q S (fuel + 1) listed a w := wpAnyH_take (i := 19) (oi := o19) rfl hs hf hr hQ hy hS h
theorem tk30_20 (hs : Region.noSelect #[o0, o1, o2, o3, o4, o5, o6, o7, o8, o9, o10, o11, o12, o13, o14, o15, o16, o17, o18, o19, o20, o21, o22, o23, o24, o25, o26, o27, o28, o29] = true) (hf : Region.free md #[o0, o1, o2, o3, o4, o5, o6, o7, o8, o9, o10, o11, o12, o13, o14, o15, o16, o17, o18, o19, o20, o21, o22, o23, o24, o25, o26, o27, o28, o29] listed 20 = true) (hr : (Region.ready md #[o0, o1, o2, o3, o4, o5, o6, o7, o8, o9, o10, o11, o12, o13, o14, o15, o16, o17, o18, o19, o20, o21, o22, o23, o24, o25, o26, o27, o28, o29] listed).contains 20 = true) (hQ : ∀ c a w, Q (.panic c) (a.put o20.dst v) w → Q (.panic c) a w) (hy : YieldsIf P #[o0, o1, o2, o3, o4, o5, o6, o7, o8, o9, o10, o11, o12, o13, o14, o15, o16, o17, o18, o19, o20, o21, o22, o23, o24, o25, o26, o27, o28, o29] S o20 v a) (hS : S w) (h : wpAnyH P md #[o0, o1, o2, o3, o4, o5, o6, o7, o8, o9, o10, o11, o12, o13, o14, o15, o16, o17, o18, o19, o20, o21, o22, o23, o24, o25, o26, o27, o28, o29] Q S fuel (listed.setIfInBounds 20 true) (a.put o20.dst v) w) : wpAnyH P md #[o0, o1, o2, o3, o4, o5, o6, o7, o8, o9, o10, o11, o12, o13, o14, o15, o16, o17, o18, o19, o20, o21, o22, o23, o24, o25, o26, o27, o28, o29] Q S (fuel + 1) listed a w := wpAnyH_take (i := 20) (oi := o20) rfl hs hf hr hQ hy hS h
theorem tk30_22 (hs : Region.noSelect #[o0, o1, o2, o3, o4, o5, o6, o7, o8, o9, o10, o11, o12, o13, o14, o15, o16, o17, o18, o19, o20, o21, o22, o23, o24, o25, o26, o27, o28, o29] = true) (hf : Region.free md #[o0, o1, o2, o3, o4, o5, o6, o7, o8, o9, o10, o11, o12, o13, o14, o15, o16, o17, o18, o19, o20, o21, o22, o23, o24, o25, o26, o27, o28, o29] listed 22 = true) (hr : (Region.ready md #[o0, o1, o2, o3, o4, o5, o6, o7, o8, o9, o10, o11, o12, o13, o14, o15, o16, o17, o18, o19, o20, o21, o22, o23, o24, o25, o26, o27, o28, o29] listed).contains 22 = true) (hQ : ∀ c a w, Q (.panic c) (a.put o22.dst v) w → Q (.panic c) a w) (hy : YieldsIf P #[o0, o1, o2, o3, o4, o5, o6, o7, o8, o9, o10, o11, o12, o13, o14, o15, o16, o17, o18, o19, o20, o21, o22, o23, o24, o25, o26, o27, o28, o29] S o22 v a) (hS : S w) (h : wpAnyH P md #[o0, o1, o2, o3, o4, o5, o6, o7, o8, o9, o10, o11, o12, o13, o14, o15, o16, o17, o18, o19, o20, o21, o22, o23, o24, o25, o26, o27, o28, o29] Q S fuel (listed.setIfInBounds 22 true) (a.put o22.dst v) w) : wpAnyH P md #[o0, o1, o2, o3, o4, o5, o6, o7, o8, o9, o10, o11, o12, o13, o14, o15, o16, o17, o18, o19, o20, o21, o22, o23, o24, o25, o26, o27, o28, o29] Q S (fuel + 1) listed a w := wpAnyH_take (i := 22) (oi := o22) rfl hs hf hr hQ hy hS h
theorem tk30_23 (hs : Region.noSelect #[o0, o1, o2, o3, o4, o5, o6, o7, o8, o9, o10, o11, o12, o13, o14, o15, o16, o17, o18, o19, o20, o21, o22, o23, o24, o25, o26, o27, o28, o29] = true) (hf : Region.free md #[o0, o1, o2, o3, o4, o5, o6, o7, o8, o9, o10, o11, o12, o13, o14, o15, o16, o17, o18, o19, o20, o21, o22, o23, o24, o25, o26, o27, o28, o29] listed 23 = true) (hr : (Region.ready md #[o0, o1, o2, o3, o4, o5, o6, o7, o8, o9, o10, o11, o12, o13, o14, o15, o16, o17, o18, o19, o20, o21, o22, o23, o24, o25, o26, o27, o28, o29] listed).contains 23 = true) (hQ : ∀ c a w, Q (.panic c) (a.put o23.dst v) w → Q (.panic c) a w) (hy : YieldsIf P #[o0, o1, o2, o3, o4, o5, o6, o7, o8, o9, o10, o11, o12, o13, o14, o15, o16, o17, o18, o19, o20, o21, o22, o23, o24, o25, o26, o27, o28, o29] S o23 v a) (hS : S w) (h : wpAnyH P md #[o0, o1, o2, o3, o4, o5, o6, o7, o8, o9, o10, o11, o12, o13, o14, o15, o16, o17, o18, o19, o20, o21, o22, o23, o24, o25, o26, o27, o28, o29] Q S fuel (listed.setIfInBounds 23 true) (a.put o23.dst v) w) : wpAnyH P md #[o0, o1, o2, o3, o4, o5, o6, o7, o8, o9, o10, o11, o12, o13, o14, o15, o16, o17, o18, o19, o20, o21, o22, o23, o24, o25, o26, o27, o28, o29] Q S (fuel + 1) listed a w := wpAnyH_take (i := 23) (oi := o23) rfl hs hf hr hQ hy hS h
theorem tk30_25 (hs : Region.noSelect #[o0, o1, o2, o3, o4, o5, o6, o7, o8, o9, o10, o11, o12, o13, o14, o15, o16, o17, o18, o19, o20, o21, o22, o23, o24, o25, o26, o27, o28, o29] = true) (hf : Region.free md #[o0, o1, o2, o3, o4, o5, o6, o7, o8, o9, o10, o11, o12, o13, o14, o15, o16, o17, o18, o19, o20, o21, o22, o23, o24, o25, o26, o27, o28, o29] listed 25 = true) (hr : (Region.ready md #[o0, o1, o2, o3, o4, o5, o6, o7, o8, o9, o10, o11, o12, o13, o14, o15, o16, o17, o18, o19, o20, o21, o22, o23, o24, o25, o26, o27, o28, o29] listed).contains 25 = true) (hQ : ∀ c a w, Q (.panic c) (a.put o25.dst v) w → Q (.panic c) a w) (hy : YieldsIf P #[o0, o1, o2, o3, o4, o5, o6, o7, o8, o9, o10, o11, o12, o13, o14, o15, o16, o17, o18, o19, o20, o21, o22, o23, o24, o25, o26, o27, o28, o29] S o25 v a) (hS : S w) (h : wpAnyH P md #[o0, o1, o2, o3, o4, o5, o6, o7, o8, o9, o10, o11, o12, o13, o14, o15, o16, o17, o18, o19, o20, o21, o22, o23, o24, o25, o26, o27, o28, o29] Q S fuel (listed.setIfInBounds 25 true) (a.put o25.dst v) w) : wpAnyH P md #[o0, o1, o2, o3, o4, o5, o6, o7, o8, o9, o10, o11, o12, o13, o14, o15, o16, o17, o18, o19, o20, o21, o22, o23, o24, o25, o26, o27, o28, o29] Q S (fuel + 1) listed a w := wpAnyH_take (i := 25) (oi := o25) rfl hs hf hr hQ hy hS h
theorem tk30_26 (hs : Region.noSelect #[o0, o1, o2, o3, o4, o5, o6, o7, o8, o9, o10, o11, o12, o13, o14, o15, o16, o17, o18, o19, o20, o21, o22, o23, o24, o25, o26, o27, o28, o29] = true) (hf : Region.free md #[o0, o1, o2, o3, o4, o5, o6, o7, o8, o9, o10, o11, o12, o13, o14, o15, o16, o17, o18, o19, o20, o21, o22, o23, o24, o25, o26, o27, o28, o29] listed 26 = true) (hr : (Region.ready md #[o0, o1, o2, o3, o4, o5, o6, o7, o8, o9, o10, o11, o12, o13, o14, o15, o16, o17, o18, o19, o20, o21, o22, o23, o24, o25, o26, o27, o28, o29] listed).contains 26 = true) (hQ : ∀ c a w, Q (.panic c) (a.put o26.dst v) w → Q (.panic c) a w) (hy : YieldsIf P #[o0, o1, o2, o3, o4, o5, o6, o7, o8, o9, o10, o11, o12, o13, o14, o15, o16, o17, o18, o19, o20, o21, o22, o23, o24, o25, o26, o27, o28, o29] S o26 v a) (hS : S w) (h : wpAnyH P md #[o0, o1, o2, o3, o4, o5, o6, o7, o8, o9, o10, o11, o12, o13, o14, o15, o16, o17, o18, o19, o20, o21, o22, o23, o24, o25, o26, o27, o28, o29] Q S fuel (listed.setIfInBounds 26 true) (a.put o26.dst v) w) : wpAnyH P md #[o0, o1, o2, o3, o4, o5, o6, o7, o8, o9, o10, o11, o12, o13, o14, o15, o16, o17, o18, o19, o20, o21, o22, o23, o24, o25, o26, o27, o28, o29] Q S (fuel + 1) listed a w := wpAnyH_take (i := 26) (oi := o26) rfl hs hf hr hQ hy hS h
theorem tk30_28 (hs : Region.noSelect #[o0, o1, o2, o3, o4, o5, o6, o7, o8, o9, o10, o11, o12, o13, o14, o15, o16, o17, o18, o19, o20, o21, o22, o23, o24, o25, o26, o27, o28, o29] = true) (hf : Region.free md #[o0, o1, o2, o3, o4, o5, o6, o7, o8, o9, o10, o11, o12, o13, o14, o15, o16, o17, o18, o19, o20, o21, o22, o23, o24, o25, o26, o27, o28, o29] listed 28 = true) (hr : (Region.ready md #[o0, o1, o2, o3, o4, o5, o6, o7, o8, o9, o10, o11, o12, o13, o14, o15, o16, o17, o18, o19, o20, o21, o22, o23, o24, o25, o26, o27, o28, o29] listed).contains 28 = true) (hQ : ∀ c a w, Q (.panic c) (a.put o28.dst v) w → Q (.panic c) a w) (hy : YieldsIf P #[o0, o1, o2, o3, o4, o5, o6, o7, o8, o9, o10, o11, o12, o13, o14, o15, o16, o17, o18, o19, o20, o21, o22, o23, o24, o25, o26, o27, o28, o29] S o28 v a) (hS : S w) (h : wpAnyH P md #[o0, o1, o2, o3, o4, o5, o6, o7, o8, o9, o10, o11, o12, o13, o14, o15, o16, o17, o18, o19, o20, o21, o22, o23, o24, o25, o26, o27, o28, o29] Q S fuel (listed.setIfInBounds 28 true) (a.put o28.dst v) w) : wpAnyH P md #[o0, o1, o2, o3, o4, o5, o6, o7, o8, o9, o10, o11, o12, o13, o14, o15, o16, o17, o18, o19, o20, o21, o22, o23, o24, o25, o26, o27, o28, o29] Q S (fuel + 1) listed a w := wpAnyH_take (i := 28) (oi := o28) rfl hs hf hr hQ hy hS h
theorem tk30_29 (hs : Region.noSelect #[o0, o1, o2, o3, o4, o5, o6, o7, o8, o9, o10, o11, o12, o13, o14, o15, o16, o17, o18, o19, o20, o21, o22, o23, o24, o25, o26, o27, o28, o29] = true) (hf : Region.free md #[o0, o1, o2, o3, o4, o5, o6, o7, o8, o9, o10, o11, o12, o13, o14, o15, o16, o17, o18, o19, o20, o21, o22, o23, o24, o25, o26, o27, o28, o29] listed 29 = true) (hr : (Region.ready md #[o0, o1, o2, o3, o4, o5, o6, o7, o8, o9, o10, o11, o12, o13, o14, o15, o16, o17, o18, o19, o20, o21, o22, o23, o24, o25, o26, o27, o28, o29] listed).contains 29 = true) (hQ : ∀ c a w, Q (.panic c) (a.put o29.dst v) w → Q (.panic c) a w) (hy : YieldsIf P #[o0, o1, o2, o3, o4, o5, o6, o7, o8, o9, o10, o11, o12, o13, o14, o15, o16, o17, o18, o19, o20, o21, o22, o23, o24, o25, o26, o27, o28, o29] S o29 v a) (hS : S w) (h : wpAnyH P md #[o0, o1, o2, o3, o4, o5, o6, o7, o8, o9, o10, o11, o12, o13, o14, o15, o16, o17, o18, o19, o20, o21, o22, o23, o24, o25, o26, o27, o28, o29] Q S fuel (listed.setIfInBounds 29 true) (a.put o29.dst v) w) : wpAnyH P md #[o0, o1, o2, o3, o4, o5, o6, o7, o8, o9, o10, o11, o12, o13, o14, o15, o16, o17, o18, o19, o20, o21, o22, o23, o24, o25, o26, o27, o28, o29] Q S (fuel + 1) listed a w := wpAnyH_take (i := 29) (oi := o29) rfl hs hf hr hQ hy hS h
theorem br30_21 (hr : Region.ready md #[o0, o1, o2, o3, o4, o5, o6, o7, o8, o9, o10, o11, o12, o13, o14, o15, o16, o17, o18, o19, o20, o21, o22, o23, o24, o25, o26, o27, o28, o29] listed = [21]) (h : ∀ K' : Act → World → Prop, Shut (∀ a w, S w → (S w → wpAnyH P md #[o0, o1, o2, o3, o4, o5, o6, o7, o8, o9, o10, o11, o12, o13, o14, o15, o16, o17, o18, o19, o20, o21, o22, o23, o24, o25, o26, o27, o28, o29] Q S fuel (listed.setIfInBounds 21 true) a w) → K' a w) → if Region.wanted o21 (yielded #[o0, o1, o2, o3, o4, o5, o6, o7, o8, o9, o10, o11, o12, o13, o14, o15, o16, o17, o18, o19, o20, o21, o22, o23, o24, o25, o26, o27, o28, o29] a.tmps) = true then Oper.wp P o21 a w K' Q else K' (a.put o21.dst undef) w) : wpAnyH P md #[o0, o1, o2, o3, o4, o5, o6, o7, o8, o9, o10, o11, o12, o13, o14, o15, o16, o17, o18, o19, o20, o21, o22, o23, o24, o25, o26, o27, o28, o29] Q S (fuel + 1) listed a w := wpAnyH_ready hr (by simp) (AllReadyH.cons (o := o21) rfl h AllReadyH.nil)
theorem br30_24 (hr : Region.ready md #[o0, o1, o2, o3, o4, o5, o6, o7, o8, o9, o10, o11, o12, o13, o14, o15, o16, o17, o18, o19, o20, o21, o22, o23, o24, o25, o26, o27, o28, o29] listed = [24]) (h : ∀ K' : Act → World → Prop, Shut (∀ a w, S w → (S w → wpAnyH P md #[o0, o1, o2, o3, o4, o5, o6, o7, o8, o9, o10, o11, o12, o13, o14, o15, o16, o17, o18, o19, o20, o21, o22, o23, o24, o25, o26, o27, o28, o29] Q S fuel (listed.setIfInBounds 24 true) a w) → K' a w) → if Region.wanted o24 (yielded #[o0, o1, o2, o3, o4, o5, o6, o7, o8, o9, o10, o11, o12, o13, o14, o15, o16, o17, o18, o19, o20, o21, o22, o23, o24, o25, o26, o27, o28, o29] a.tmps) = true then Oper.wp P o24 a w K' Q else K' (a.put o24.dst undef) w) : wpAnyH P md #[o0, o1, o2, o3, o4, o5, o6, o7, o8, o9, o10, o11, o12, o13, o14, o15, o16, o17, o18, o19, o20, o21, o22, o23, o24, o25, o26, o27, o28, o29] Q S (fuel + 1) listed a w := wpAnyH_ready hr (by simp) (AllReadyH.cons (o := o24) rfl h AllReadyH.nil)
theorem br30_27 (hr : Region.ready md #[o0, o1, o2, o3, o4, o5, o6, o7, o8, o9, o10, o11, o12, o13, o14, o15, o16, o17, o18, o19, o20, o21, o22, o23, o24, o25, o26, o27, o28, o29] listed = [27]) (h : ∀ K' : Act → World → Prop, Shut (∀ a w, S w → (S w → wpAnyH P md #[o0, o1, o2, o3, o4, o5, o6, o7, o8, o9, o10, o11, o12, o13, o14, o15, o16, o17, o18, o19, o20, o21, o22, o23, o24, o25, o26, o27, o28, o29] Q S fuel (listed.setIfInBounds 27 true) a w) → K' a w) → if Region.wanted o27 (yielded #[o0, o1, o2, o3, o4, o5, o6, o7, o8, o9, o10, o11, o12, o13, o14, o15, o16, o17, o18, o19, o20, o21, o22, o23, o24, o25, o26, o27, o28, o29] a.tmps) = true then Oper.wp P o27 a w K' Q else K' (a.put o27.dst undef) w) : wpAnyH P md #[o0, o1, o2, o3, o4, o5, o6, o7, o8, o9, o10, o11, o12, o13, o14, o15, o16, o17, o18, o19, o20, o21, o22, o23, o24, o25, o26, o27, o28, o29] Q S (fuel + 1) listed a w := wpAnyH_ready hr (by simp) (AllReadyH.cons (o := o27) rfl h AllReadyH.nil)
end
end Go.Proofs.Ytmahagcghpoekaa
namespace Go.Proofs.Ytmahagcghpoekaa
open Go.RowKit
set_option linter.unusedSimpArgs false
set_option linter.unusedVariables false
/-- whether task and event are there -/
def isEv (R : Rn) (i x : Int) : Bool := inB i 0 ((R.L.length : Int) - 1) && inB x 0 (((evA R i.toNat).length : Int) - 1)
def blockedR (R : Rn) (t i x : Int) : Int × Int :=
  if (runB R && inB t 0 2000) = true ∧ isEv R i x = true then (blkC R.L i.toNat (relT (evA R i.toNat) x) (endF (plM R t.toNat).o i.toNat x) (plM R t.toNat).o, 0) else (0, 1)
theorem rank_nodup2 (L : List Ta) : (rankL L).Nodup := by
  rw [List.nodup_iff_pairwise_ne, List.pairwise_iff_getElem]
  intro i j hi hj hij e
  have h1 := rank_cnt (List.getElem?_eq_getElem hi)
  have h2 := rank_cnt (List.getElem?_eq_getElem hj)
  rw [e] at h1
  omega
set_option maxRecDepth 100000 in
set_option maxHeartbeats 8000000 in
theorem Blocked_any (H : RunH) (R : Rn) (t i x : Int) (w : World) (hR : ReadRun w H R) (hi : -9223372036854775808 ≤ i ∧ i ≤ 9223372036854775807) (hx : -9223372036854775808 ≤ x ∧ x ≤ 9223372036854775807) :
    Calls Try.prog 17 #[runV H R.fr R.sl, .int .i64 t, .int .i64 i, .int .i64 x] w fun e w' => e = rII (blockedR R t i x).1 (blockedR R t i x).2 ∧ Below w.heap.size w w' := by
  obtain ⟨B, hB⟩ : ∃ B, (runB R && inB t 0 2000) = B := ⟨_, rfl⟩
  unfold blockedR isEv
  rw [hB]
  have HI := Lib.hid (fun w1 (hb : Below w.heap.size w w1) => is_any H R t w1 (hR.ext hb) hB)
  cases B
  · rw [if_neg (by simp)]
    obtain ⟨fr, hfr⟩ : ∃ x, R.fr = x := ⟨_, rfl⟩
    obtain ⟨sl_, hsl⟩ : ∃ x, R.sl = x := ⟨_, rfl⟩
    rw [hfr, hsl] at HI ⊢
    obtain ⟨tA, tN, tC, eA, eN, eC, bA, bN, bC, sA, sN, sC⟩ := H
    unfold runV at HI ⊢
    simp only [] at HI ⊢
    clear hR hB hfr hsl
    go_enter Try.func17, Try.ntmps17
    go_wp2_with (go_at_call 32; (with_reducible refine (HI.out _ (by (repeat' (first | (with_reducible exact Below.refl _ _) | (with_reducible assumption) | (with_reducible refine Below.alloc ?_ ?_ _) | (with_reducible refine Below.drew ?_) | (with_reducible refine Below.draws ?_ _) | (with_reducible refine Below.setCell ?_ ?_ _) | (refine Below.then ?_ (by with_reducible assumption)) | go_size)))).mono ?_); rintro e w1 ⟨rfl, hb1⟩; have B1 : Hid (Below w.heap.size w w1) := Lib.hid (Below.trans (by (repeat' (first | (with_reducible exact Below.refl _ _) | (with_reducible assumption) | (with_reducible refine Below.alloc ?_ ?_ _) | (with_reducible refine Below.drew ?_) | (with_reducible refine Below.draws ?_ _) | (with_reducible refine Below.setCell ?_ ?_ _) | (refine Below.then ?_ (by with_reducible assumption)) | go_size))) (hb1.mono (by simp))); have z1 : w.heap.size < w1.heap.size := Nat.lt_of_lt_of_le (by simp) hb1.size; have c1_0 := (hb1.cell (p := ⟨w.heap.size, 0, none⟩) (by simp)).trans (by simp [go_sem]; rfl); have c1_1 := (hb1.cell (p := ⟨w.heap.size, 1, none⟩) (by simp)).trans (by simp [go_sem]; rfl); have c1_2 := (hb1.cell (p := ⟨w.heap.size, 2, none⟩) (by simp)).trans (by simp [go_sem]; rfl); have c1_3 := (hb1.cell (p := ⟨w.heap.size, 3, none⟩) (by simp)).trans (by simp [go_sem]; rfl); have c1_4 := (hb1.cell (p := ⟨w.heap.size, 4, none⟩) (by simp)).trans (by simp [go_sem]; rfl); have c1_5 := (hb1.cell (p := ⟨w.heap.size, 5, none⟩) (by simp)).trans (by simp [go_sem]; rfl); clear hb1)
    go_ret2
    exact ⟨rfl, B1.out⟩
  · rw [Bool.and_eq_true, inB_iff] at hB
    obtain ⟨tn, rfl⟩ := Int.eq_ofNat_of_zero_le hB.2.1
    have hr := (run_ok hB.1).1
    have htn : tn ≤ 2000 := by omega
    have hTN := hR.t.length
    have hL5 := hr.r.len
    obtain ⟨C1, hC1⟩ : ∃ C, inB i 0 ((R.L.length : Int) - 1) = C := ⟨_, rfl⟩
    rw [hC1]
    have hC1' : inB i 0 ((H.tN : Int) - 1) = C1 := by rw [← hTN]; exact hC1
    have HC1 := Lib.hid hC1'
    have wl : IntKind.i64.wrap ((H.tN : Int) - 1) = (H.tN : Int) - 1 := IntWalk.i64_in _ (by omega)
    cases C1
    · rw [if_neg (by simp)]
      obtain ⟨fr, hfr⟩ : ∃ x, R.fr = x := ⟨_, rfl⟩
      obtain ⟨sl_, hsl⟩ : ∃ x, R.sl = x := ⟨_, rfl⟩
      rw [hfr, hsl] at HI ⊢
      obtain ⟨tA, tN, tC, eA, eN, eC, bA, bN, bC, sA, sN, sC⟩ := H
      unfold runV at HI ⊢
      simp only [] at HI HC1 wl ⊢
      clear hR hB hfr hsl hC1 hC1' hTN hL5 hr
      go_enter Try.func17, Try.ntmps17
      go_wp2_with (first | (go_at_call 32; (with_reducible refine (HI.out _ (by (repeat' (first | (with_reducible exact Below.refl _ _) | (with_reducible assumption) | (with_reducible refine Below.alloc ?_ ?_ _) | (with_reducible refine Below.drew ?_) | (with_reducible refine Below.draws ?_ _) | (with_reducible refine Below.setCell ?_ ?_ _) | (refine Below.then ?_ (by with_reducible assumption)) | go_size)))).mono ?_); rintro e w1 ⟨rfl, hb1⟩; have B1 : Hid (Below w.heap.size w w1) := Lib.hid (Below.trans (by (repeat' (first | (with_reducible exact Below.refl _ _) | (with_reducible assumption) | (with_reducible refine Below.alloc ?_ ?_ _) | (with_reducible refine Below.drew ?_) | (with_reducible refine Below.draws ?_ _) | (with_reducible refine Below.setCell ?_ ?_ _) | (refine Below.then ?_ (by with_reducible assumption)) | go_size))) (hb1.mono (by simp))); have z1 : w.heap.size < w1.heap.size := Nat.lt_of_lt_of_le (by simp) hb1.size; have c1_0 := (hb1.cell (p := ⟨w.heap.size, 0, none⟩) (by simp)).trans (by simp [go_sem]; rfl); have c1_1 := (hb1.cell (p := ⟨w.heap.size, 1, none⟩) (by simp)).trans (by simp [go_sem]; rfl); have c1_2 := (hb1.cell (p := ⟨w.heap.size, 2, none⟩) (by simp)).trans (by simp [go_sem]; rfl); have c1_3 := (hb1.cell (p := ⟨w.heap.size, 3, none⟩) (by simp)).trans (by simp [go_sem]; rfl); have c1_4 := (hb1.cell (p := ⟨w.heap.size, 4, none⟩) (by simp)).trans (by simp [go_sem]; rfl); have c1_5 := (hb1.cell (p := ⟨w.heap.size, 5, none⟩) (by simp)).trans (by simp [go_sem]; rfl); clear hb1) | (go_at_call 46; (with_reducible refine (cwithin_is HC1.out).mono ?_); rintro e wq ⟨rfl, rfl⟩))
      go_ret2
      exact ⟨rfl, B1.out⟩
    · rw [inB_iff] at hC1
      obtain ⟨i, rfl⟩ := Int.eq_ofNat_of_zero_le hC1.1
      rw [Int.toNat_natCast]
      have hil : i < R.L.length := by omega
      have hiev : i < R.ev.length := by rw [hr.ev]; exact hil
      have hie : i < H.eN := by have := hR.rd.e.len; omega
      obtain ⟨eb, eo, ea, en, ec, hea, heb, hec, hRd⟩ := hR.rd.e.at_ i hie
      have hlen : (evA R i).length = en := hRd.length
      have hel := hr.el (evA R i) (by unfold evA; rw [List.getElem?_eq_getElem hiev]; exact List.getElem_mem hiev)
      obtain ⟨C2, hC2⟩ : ∃ C, inB x 0 (((evA R i).length : Int) - 1) = C := ⟨_, rfl⟩
      rw [hC2]
      have hC2' : inB x 0 ((en : Int) - 1) = C2 := by rw [← hlen]; exact hC2
      have HC2 := Lib.hid hC2'
      have hen40 : en ≤ 40 := by omega
      have wl2 : IntKind.i64.wrap ((en : Int) - 1) = (en : Int) - 1 := IntWalk.i64_in _ (by omega)
      have HEC : Hid (∀ wz, Below w.heap.size w wz → wz.cell? ⟨eb, eo + i, none⟩ = some (.slice ea en ec)) := Lib.hid (fun wz hz => (hz.cell (p := ⟨eb, eo + i, none⟩) heb).trans hec)
      cases C2
      · rw [if_neg (by simp)]
        obtain ⟨fr, hfr⟩ : ∃ x, R.fr = x := ⟨_, rfl⟩
        obtain ⟨sl_, hsl⟩ : ∃ x, R.sl = x := ⟨_, rfl⟩
        rw [hfr, hsl] at HI ⊢
        obtain ⟨tA, tN, tC, eA, eN, eC, bA, bN, bC, sA, sN, sC⟩ := H
        unfold runV at HI ⊢
        simp only [] at HI HC1 wl hea hie ⊢
        subst hea
        clear hR hB hfr hsl hC1 hC1' hTN hL5 hr hil hiev hRd hlen hel hC2 hC2' hec
        go_enter Try.func17, Try.ntmps17
        go_wp2_with (first | (go_at_call 32; (with_reducible refine (HI.out _ (by (repeat' (first | (with_reducible exact Below.refl _ _) | (with_reducible assumption) | (with_reducible refine Below.alloc ?_ ?_ _) | (with_reducible refine Below.drew ?_) | (with_reducible refine Below.draws ?_ _) | (with_reducible refine Below.setCell ?_ ?_ _) | (refine Below.then ?_ (by with_reducible assumption)) | go_size)))).mono ?_); rintro e w1 ⟨rfl, hb1⟩; have B1 : Hid (Below w.heap.size w w1) := Lib.hid (Below.trans (by (repeat' (first | (with_reducible exact Below.refl _ _) | (with_reducible assumption) | (with_reducible refine Below.alloc ?_ ?_ _) | (with_reducible refine Below.drew ?_) | (with_reducible refine Below.draws ?_ _) | (with_reducible refine Below.setCell ?_ ?_ _) | (refine Below.then ?_ (by with_reducible assumption)) | go_size))) (hb1.mono (by simp))); have z1 : w.heap.size < w1.heap.size := Nat.lt_of_lt_of_le (by simp) hb1.size; have c1_0 := (hb1.cell (p := ⟨w.heap.size, 0, none⟩) (by simp)).trans (by simp [go_sem]; rfl); have c1_1 := (hb1.cell (p := ⟨w.heap.size, 1, none⟩) (by simp)).trans (by simp [go_sem]; rfl); have c1_2 := (hb1.cell (p := ⟨w.heap.size, 2, none⟩) (by simp)).trans (by simp [go_sem]; rfl); have c1_3 := (hb1.cell (p := ⟨w.heap.size, 3, none⟩) (by simp)).trans (by simp [go_sem]; rfl); have c1_4 := (hb1.cell (p := ⟨w.heap.size, 4, none⟩) (by simp)).trans (by simp [go_sem]; rfl); have c1_5 := (hb1.cell (p := ⟨w.heap.size, 5, none⟩) (by simp)).trans (by simp [go_sem]; rfl); clear hb1; have e1 := HEC.out _ B1.out; have e2 := World.block_lt_of_cell? _ _ e1; simp only [] at e2) | (go_at_call 46; (with_reducible refine (cwithin_is HC1.out).mono ?_); rintro e wq ⟨rfl, rfl⟩) | (go_at_call 46; (with_reducible refine (cwithin_is HC2.out).mono ?_); rintro e wq ⟨rfl, rfl⟩))
        go_ret2
        exact ⟨rfl, B1.out⟩
      · rw [inB_iff] at hC2
        obtain ⟨xn, rfl⟩ := Int.eq_ofNat_of_zero_le hC2.1
        rw [if_pos ⟨rfl, rfl⟩, Int.toNat_natCast]
        have hxn : xn < en := by omega
        obtain ⟨e0, e1, vb, vo, rfl, hvb, g0, g1, hg, _⟩ := hRd.pc_at' xn hxn
        have hel2 := hel.2 _ (List.mem_of_getElem? hg)
        simp only [] at hel2
        have hrel : relT (evA R i) (xn : Int) = e0 + e1 := relT_of hg
        rw [hrel]
        have wadd : IntKind.i64.wrap (e0 + e1) = e0 + e1 := IntWalk.i64_in _ (by omega)
        have HVC : Hid (∀ wz, Below w.heap.size w wz → wz.cell? ⟨vb, vo + xn * 2, none⟩ = some (.int .i64 e0) ∧ wz.cell? ⟨vb, vo + xn * 2 + 1, none⟩ = some (.int .i64 e1)) := Lib.hid (fun wz hz => ⟨(hz.cell (p := ⟨vb, vo + xn * 2, none⟩) hvb).trans g0, (hz.cell (p := ⟨vb, vo + xn * 2 + 1, none⟩) hvb).trans g1⟩)
        have hol := plM_olen hr htn
        have hok := plM_ok4 hr tn
        have HP := Lib.hid (fun w1 (hb : Below w.heap.size w w1) => play_any H R tn w1 (hR.ext hb).rd hr (by omega))
        have HEN := Lib.hid (fun (w1 : World) (a : Option Addr) (n c : Nat) (hb : Below w.heap.size w w1) (hx : Rd w1 a n 5 ((plM R tn).o.map encE)) => ends_any H R (plM R tn).o a n c w1 (hR.ext hb).rd hr hx (by have h1 := hx.length; omega) (plM_ok5 hr tn))
        have HRD := Lib.hid (fun w1 (hb : Below w.heap.size w w1) => (hR.ext hb).rd.t)
        have HRK := Lib.hid (ranks_ok hr.r)
        obtain ⟨o, ho⟩ : ∃ x, (plM R tn).o = x := ⟨_, rfl⟩
        rw [ho] at HP HEN hol hok ⊢
        obtain ⟨X, hX⟩ : ∃ X, endsRow R o = X := ⟨_, rfl⟩
        have HXL : Hid ((X i).length = en) := Lib.hid (by rw [← hX, endsRow_len]; exact hlen)
        obtain ⟨E, hE⟩ : ∃ E, endF o i (xn : Int) = E := ⟨_, rfl⟩
        have HEX : Hid ((X i)[xn]? = some E) := Lib.hid (by rw [← hX, endsRow_get (by omega), hE])
        rw [hX] at HEN
        rw [hE]
        have HXN : Hid ((rankL R.L).Nodup) := Lib.hid (rank_nodup2 _)
        have HXA : Hid (∀ k : Nat, k < R.L.length → (rankL R.L)[cnt R.L k]? = some (k : Int)) := Lib.hid (fun k hk => rank_at (by omega) (by omega))
        have HIL := Lib.hid hil
        have HOK : Hid (∀ e ∈ o, e.w = 4 → ∃ k : Nat, e.k = (k : Int) ∧ k < R.L.length) := Lib.hid (fun e he h4 => by obtain ⟨i, _, x, h1, _, h3, h2, _, h5⟩ := hok e he h4; exact ⟨i, h1, h2⟩)
        obtain ⟨nL, hnL⟩ : ∃ x, R.L.length = x := ⟨_, rfl⟩
        rw [hnL] at HEN hil
        obtain ⟨RL, hRL⟩ : ∃ l, R.L = l := ⟨_, rfl⟩
        rw [hRL] at HRK HRD HXN HXA HIL HOK ⊢
        unfold blkC
        obtain ⟨Fb, hFb⟩ : ∃ f, blkE (bhd RL i) (e0 + e1) E = f := ⟨_, rfl⟩
        rw [hFb]
        obtain ⟨rf, hrf⟩ : ∃ f, e0 + e1 = f := ⟨_, rfl⟩
        rw [hrf] at hFb
        have wadd : IntKind.i64.wrap (e0 + e1) = rf := by rw [wadd, hrf]
        have HFB : Hid (∀ e : En, Fb e = (decide (e.w = 4) && (decide (rf ≤ e.m) && ((decide (E < 0) || decide (e.m < E)) && decide (cnt RL i < cnt RL e.k))))) := Lib.hid (fun e => by rw [← hFb]; rfl)
        obtain ⟨Z, hZ⟩ : ∃ Z, cntE Fb o = Z := ⟨_, rfl⟩
        rw [hZ]
        have HZ := Lib.hid hZ
        have HOL := Lib.hid hol
        obtain ⟨fr, hfr⟩ : ∃ x, R.fr = x := ⟨_, rfl⟩
        obtain ⟨sl_, hsl⟩ : ∃ x, R.sl = x := ⟨_, rfl⟩
        rw [hfr, hsl] at HI HP HEN ⊢
        obtain ⟨tA, tN, tC, eA, eN, eC, bA, bN, bC, sA, sN, sC⟩ := H
        unfold runV at HI ⊢
        simp only [] at HI HP HEN HC1 HRD wl hea hie ⊢
        subst hea
        clear hR hB hfr hsl hC1 hC1' hTN hL5 hr hiev hRd hlen hel hC2 hC2' hec g0 g1 hg hel2 hrel hok ho hX hE hFb hZ hol hnL hRL hrf
        go_enter Try.func17, Try.ntmps17
        go_upto_region 4 with (first | (go_at_call 32; (with_reducible refine (HI.out _ (by (repeat' (first | (with_reducible exact Below.refl _ _) | (with_reducible assumption) | (with_reducible refine Below.alloc ?_ ?_ _) | (with_reducible refine Below.drew ?_) | (with_reducible refine Below.draws ?_ _) | (with_reducible refine Below.setCell ?_ ?_ _) | (refine Below.then ?_ (by with_reducible assumption)) | go_size)))).mono ?_); rintro e w1 ⟨rfl, hb1⟩; have B1 : Hid (Below w.heap.size w w1) := Lib.hid (Below.trans (by (repeat' (first | (with_reducible exact Below.refl _ _) | (with_reducible assumption) | (with_reducible refine Below.alloc ?_ ?_ _) | (with_reducible refine Below.drew ?_) | (with_reducible refine Below.draws ?_ _) | (with_reducible refine Below.setCell ?_ ?_ _) | (refine Below.then ?_ (by with_reducible assumption)) | go_size))) (hb1.mono (by simp))); have z1 : w.heap.size < w1.heap.size := Nat.lt_of_lt_of_le (by simp) hb1.size; have c1_0 := (hb1.cell (p := ⟨w.heap.size, 0, none⟩) (by simp)).trans (by simp [go_sem]; rfl); have c1_1 := (hb1.cell (p := ⟨w.heap.size, 1, none⟩) (by simp)).trans (by simp [go_sem]; rfl); have c1_2 := (hb1.cell (p := ⟨w.heap.size, 2, none⟩) (by simp)).trans (by simp [go_sem]; rfl); have c1_3 := (hb1.cell (p := ⟨w.heap.size, 3, none⟩) (by simp)).trans (by simp [go_sem]; rfl); have c1_4 := (hb1.cell (p := ⟨w.heap.size, 4, none⟩) (by simp)).trans (by simp [go_sem]; rfl); have c1_5 := (hb1.cell (p := ⟨w.heap.size, 5, none⟩) (by simp)).trans (by simp [go_sem]; rfl); clear hb1; have d1 := HEC.out _ B1.out; have d2 := World.block_lt_of_cell? _ _ d1; simp only [] at d2) | (go_at_call 46; (with_reducible refine (cwithin_is HC1.out).mono ?_); rintro e wq ⟨rfl, rfl⟩) | (go_at_call 46; (with_reducible refine (cwithin_is HC2.out).mono ?_); rintro e wq ⟨rfl, rfl⟩) | (go_at_call 33; (with_reducible refine (HP.out _ B1.out).mono ?_); rintro e w2 ⟨a2, n2, c2', rfl, h2, hb2⟩; have HO2 := Lib.hid (Rd.of_owns encE_len (by decide) h2); clear h2; have B2 := Lib.hid (Below.then B1.out hb2); have z2 : w.heap.size < w2.heap.size := Nat.lt_of_lt_of_le z1 hb2.size; have c2_0 := (hb2.cell (p := ⟨w.heap.size, 0, none⟩) z1).trans c1_0; have c2_1 := (hb2.cell (p := ⟨w.heap.size, 1, none⟩) z1).trans c1_1; have c2_2 := (hb2.cell (p := ⟨w.heap.size, 2, none⟩) z1).trans c1_2; have c2_3 := (hb2.cell (p := ⟨w.heap.size, 3, none⟩) z1).trans c1_3; have c2_4 := (hb2.cell (p := ⟨w.heap.size, 4, none⟩) z1).trans c1_4; have c2_5 := (hb2.cell (p := ⟨w.heap.size, 5, none⟩) z1).trans c1_5; clear hb2 c1_0 c1_1 c1_2 c1_3 c1_4 c1_5))
        obtain ⟨v0, v1⟩ := HVC.out _ B2.out
        have d3 := HEC.out _ B2.out
        clear d1 d2
        have d2 := World.block_lt_of_cell? _ _ d3
        have d4 := World.block_lt_of_cell? _ _ v0
        simp only [] at d2 d4
        refine wp_region_held_drew (S := (fun w' => w'.cell? ⟨w.heap.size, 0, none⟩ = some (.slice tA tN tC) ∧ w'.cell? ⟨w.heap.size, 1, none⟩ = some (.int .i64 fr) ∧ w'.cell? ⟨w.heap.size, 2, none⟩ = some (.int .i64 sl_) ∧ w'.cell? ⟨w.heap.size, 3, none⟩ = some (.slice (some ⟨eb, eo, none⟩) eN eC) ∧ w'.cell? ⟨w.heap.size, 4, none⟩ = some (.slice bA bN bC) ∧ w'.cell? ⟨w.heap.size, 5, none⟩ = some (.slice sA sN sC) ∧
            w'.cell? ⟨eb, eo + i, none⟩ = some (.slice (some ⟨vb, vo, none⟩) en ec) ∧ w'.cell? ⟨vb, vo + xn * 2, none⟩ = some (.int .i64 e0) ∧ w'.cell? ⟨vb, vo + xn * 2 + 1, none⟩ = some (.int .i64 e1))) (by kernel_rfl) ?_ (fun hHeld => ?_)
        · go_keep
        change wpAnyH _ _ _ _ _ 30 (Array.replicate 30 false) _ _
        refine tk30_0 (v := ?v0) (by kernel_rfl) (by kernel_rfl) (by kernel_rfl) (fun _ _ _ h => h) (Or.inl ⟨by rfl, ?hy0⟩) (by assumption) ?rs0
        case hy0 => (intro w hSw; (try dsimp only at hSw); go_simp; try (with_reducible rfl))
        try simp only [Act.put, List.setIfInBounds_toArray, List.set_cons_zero, List.set_cons_succ]
        refine tk30_1 (v := ?v1) (by kernel_rfl) (by kernel_rfl) (by kernel_rfl) (fun _ _ _ h => h) (Or.inl ⟨by rfl, ?hy1⟩) (by assumption) ?rs1
        case hy1 => (intro w hSw; (try dsimp only at hSw); go_simp; try (with_reducible rfl))
        try simp only [Act.put, List.setIfInBounds_toArray, List.set_cons_zero, List.set_cons_succ]
        refine tk30_2 (v := ?v2) (by kernel_rfl) (by kernel_rfl) (by kernel_rfl) (fun _ _ _ h => h) (Or.inl ⟨by rfl, ?hy2⟩) (by assumption) ?rs2
        case hy2 => (intro w hSw; (try dsimp only at hSw); go_simp; try (with_reducible rfl))
        try simp only [Act.put, List.setIfInBounds_toArray, List.set_cons_zero, List.set_cons_succ]
        refine tk30_3 (v := ?v3) (by kernel_rfl) (by kernel_rfl) (by kernel_rfl) (fun _ _ _ h => h) (Or.inl ⟨by rfl, ?hy3⟩) (by assumption) ?rs3
        case hy3 => (intro w hSw; (try dsimp only at hSw); go_simp; try (with_reducible rfl))
        try simp only [Act.put, List.setIfInBounds_toArray, List.set_cons_zero, List.set_cons_succ]
        refine tk30_4 (v := ?v4) (by kernel_rfl) (by kernel_rfl) (by kernel_rfl) (fun _ _ _ h => h) (Or.inl ⟨by rfl, ?hy4⟩) (by assumption) ?rs4
        case hy4 => (intro w hSw; (try dsimp only at hSw); go_simp; try (with_reducible rfl))
        try simp only [Act.put, List.setIfInBounds_toArray, List.set_cons_zero, List.set_cons_succ]
        refine tk30_5 (v := ?v5) (by kernel_rfl) (by kernel_rfl) (by kernel_rfl) (fun _ _ _ h => h) (Or.inl ⟨by rfl, ?hy5⟩) (by assumption) ?rs5
        case hy5 => (intro w hSw; (try dsimp only at hSw); go_simp; try (with_reducible rfl))
        try simp only [Act.put, List.setIfInBounds_toArray, List.set_cons_zero, List.set_cons_succ]
        refine tk30_6 (v := ?v6) (by kernel_rfl) (by kernel_rfl) (by kernel_rfl) (fun _ _ _ h => h) (Or.inl ⟨by rfl, ?hy6⟩) (by assumption) ?rs6
        case hy6 => (intro w hSw; (try dsimp only at hSw); go_simp; try (with_reducible rfl))
        try simp only [Act.put, List.setIfInBounds_toArray, List.set_cons_zero, List.set_cons_succ]
        refine tk30_7 (v := ?v7) (by kernel_rfl) (by kernel_rfl) (by kernel_rfl) (fun _ _ _ h => h) (Or.inl ⟨by rfl, ?hy7⟩) (by assumption) ?rs7
        case hy7 => (intro w hSw; (try dsimp only at hSw); go_simp; try (with_reducible rfl))
        try simp only [Act.put, List.setIfInBounds_toArray, List.set_cons_zero, List.set_cons_succ]
        refine tk30_8 (v := ?v8) (by kernel_rfl) (by kernel_rfl) (by kernel_rfl) (fun _ _ _ h => h) (Or.inl ⟨by rfl, ?hy8⟩) (by assumption) ?rs8
        case hy8 => (intro w hSw; (try dsimp only at hSw); go_simp; try (with_reducible rfl))
        try simp only [Act.put, List.setIfInBounds_toArray, List.set_cons_zero, List.set_cons_succ]
        refine tk30_9 (v := ?v9) (by kernel_rfl) (by kernel_rfl) (by kernel_rfl) (fun _ _ _ h => h) (Or.inl ⟨by rfl, ?hy9⟩) (by assumption) ?rs9
        case hy9 => (intro w hSw; (try dsimp only at hSw); go_simp; try (with_reducible rfl))
        try simp only [Act.put, List.setIfInBounds_toArray, List.set_cons_zero, List.set_cons_succ]
        refine tk30_10 (v := ?v10) (by kernel_rfl) (by kernel_rfl) (by kernel_rfl) (fun _ _ _ h => h) (Or.inl ⟨by rfl, ?hy10⟩) (by assumption) ?rs10
        case hy10 => (intro w hSw; (try dsimp only at hSw); go_simp; try (with_reducible rfl))
        try simp only [Act.put, List.setIfInBounds_toArray, List.set_cons_zero, List.set_cons_succ]
        refine tk30_11 (v := ?v11) (by kernel_rfl) (by kernel_rfl) (by kernel_rfl) (fun _ _ _ h => h) (Or.inl ⟨by rfl, ?hy11⟩) (by assumption) ?rs11
        case hy11 => (intro w hSw; (try dsimp only at hSw); go_simp; try (with_reducible rfl))
        try simp only [Act.put, List.setIfInBounds_toArray, List.set_cons_zero, List.set_cons_succ]
        refine tk30_12 (v := ?v12) (by kernel_rfl) (by kernel_rfl) (by kernel_rfl) (fun _ _ _ h => h) (Or.inl ⟨by rfl, ?hy12⟩) (by assumption) ?rs12
        case hy12 => (intro w hSw; (try dsimp only at hSw); go_simp; try (with_reducible rfl))
        try simp only [Act.put, List.setIfInBounds_toArray, List.set_cons_zero, List.set_cons_succ]
        refine tk30_13 (v := ?v13) (by kernel_rfl) (by kernel_rfl) (by kernel_rfl) (fun _ _ _ h => h) (Or.inl ⟨by rfl, ?hy13⟩) (by assumption) ?rs13
        case hy13 => (intro w hSw; (try dsimp only at hSw); go_simp; try (with_reducible rfl))
        try simp only [Act.put, List.setIfInBounds_toArray, List.set_cons_zero, List.set_cons_succ]
        refine tk30_14 (v := ?v14) (by kernel_rfl) (by kernel_rfl) (by kernel_rfl) (fun _ _ _ h => h) (Or.inl ⟨by rfl, ?hy14⟩) (by assumption) ?rs14
        case hy14 => (intro w hSw; (try dsimp only at hSw); go_simp; try (with_reducible rfl))
        try simp only [Act.put, List.setIfInBounds_toArray, List.set_cons_zero, List.set_cons_succ]
        refine tk30_15 (v := ?v15) (by kernel_rfl) (by kernel_rfl) (by kernel_rfl) (fun _ _ _ h => h) (Or.inl ⟨by rfl, ?hy15⟩) (by assumption) ?rs15
        case hy15 => (intro w hSw; (try dsimp only at hSw); go_simp; try (with_reducible rfl))
        try simp only [Act.put, List.setIfInBounds_toArray, List.set_cons_zero, List.set_cons_succ]
        refine tk30_16 (v := ?v16) (by kernel_rfl) (by kernel_rfl) (by kernel_rfl) (fun _ _ _ h => h) (Or.inl ⟨by rfl, ?hy16⟩) (by assumption) ?rs16
        case hy16 => (intro w hSw; (try dsimp only at hSw); go_simp; try (with_reducible rfl))
        try simp only [Act.put, List.setIfInBounds_toArray, List.set_cons_zero, List.set_cons_succ]
        refine tk30_17 (v := ?v17) (by kernel_rfl) (by kernel_rfl) (by kernel_rfl) (fun _ _ _ h => h) (Or.inl ⟨by rfl, ?hy17⟩) (by assumption) ?rs17
        case hy17 => (intro w hSw; (try dsimp only at hSw); go_simp; try (with_reducible rfl))
        try simp only [Act.put, List.setIfInBounds_toArray, List.set_cons_zero, List.set_cons_succ]
        refine tk30_18 (v := ?v18) (by kernel_rfl) (by kernel_rfl) (by kernel_rfl) (fun _ _ _ h => h) (Or.inl ⟨by rfl, ?hy18⟩) (by assumption) ?rs18
        case hy18 => (intro w hSw; (try dsimp only at hSw); go_simp; try (with_reducible rfl))
        try simp only [Act.put, List.setIfInBounds_toArray, List.set_cons_zero, List.set_cons_succ]
        refine tk30_19 (v := ?v19) (by kernel_rfl) (by kernel_rfl) (by kernel_rfl) (fun _ _ _ h => h) (Or.inl ⟨by rfl, ?hy19⟩) (by assumption) ?rs19
        case hy19 => (intro w hSw; (try dsimp only at hSw); go_simp; try (with_reducible rfl))
        try simp only [Act.put, List.setIfInBounds_toArray, List.set_cons_zero, List.set_cons_succ]
        refine tk30_20 (v := ?v20) (by kernel_rfl) (by kernel_rfl) (by kernel_rfl) (fun _ _ _ h => h) (Or.inl ⟨by rfl, ?hy20⟩) (by assumption) ?rs20
        case hy20 => (intro w hSw; (try dsimp only at hSw); go_simp; try (with_reducible rfl))
        try simp only [Act.put, List.setIfInBounds_toArray, List.set_cons_zero, List.set_cons_succ]
        refine tk30_22 (v := ?v22) (by kernel_rfl) (by kernel_rfl) (by kernel_rfl) (fun _ _ _ h => h) (Or.inl ⟨by rfl, ?hy22⟩) (by assumption) ?rs22
        case hy22 => (intro w hSw; (try dsimp only at hSw); go_simp; try (with_reducible rfl))
        try simp only [Act.put, List.setIfInBounds_toArray, List.set_cons_zero, List.set_cons_succ]
        refine tk30_25 (v := ?v25) (by kernel_rfl) (by kernel_rfl) (by kernel_rfl) (fun _ _ _ h => h) (Or.inl ⟨by rfl, ?hy25⟩) (by assumption) ?rs25
        case hy25 => (intro w hSw; (try dsimp only at hSw); go_simp; try (with_reducible rfl))
        try simp only [Act.put, List.setIfInBounds_toArray, List.set_cons_zero, List.set_cons_succ]
        refine br30_21 (by kernel_rfl) (fun K hK => ?_)
        go_simp
        (go_at_call 41; (with_reducible refine (HEN.out _ _ _ _ B2.out.drew (HO2.out.ext (Below.refl _ _).drew)).mono ?_); rintro e w3 ⟨a3, rfl, h3, hb3x⟩; have hb3 : Below w2.heap.size w2 w3 := Below.then (Below.refl w2.heap.size w2).drew hb3x; clear hb3x; obtain ⟨xb, xoff, xa, en', xc, rfl, hxb, hxc, hxlen, hxR⟩ := h3.row hil; obtain ⟨z, zb, zo, rfl, hzb, hzc, hz⟩ := hxR.idx xn (by rw [← hxlen, HXL.out]; exact hxn); have hen' : en' = en := (by rw [← hxlen, HXL.out]); subst hen'; have hzz : z = E := Option.some.inj (hz.symm.trans HEX.out); subst hzz; have HO3 := Lib.hid (HO2.out.ext hb3); have HB3 := Lib.hid (B2.out.trans (hb3.mono B2.out.size)); have HB23 := Lib.hid hb3; clear h3 hxR hz hxlen; have e3 := HEC.out _ HB3.out; obtain ⟨v30, v31⟩ := HVC.out _ HB3.out; have e3z := World.block_lt_of_cell? _ _ e3; have v3z := World.block_lt_of_cell? _ _ v30; simp only [] at e3z v3z; have B3 := Lib.hid (Below.then B2.out hb3); have z3 : w.heap.size < w3.heap.size := Nat.lt_of_lt_of_le z2 hb3.size; have c3_0 := (hb3.cell (p := ⟨w.heap.size, 0, none⟩) z2).trans c2_0; have c3_1 := (hb3.cell (p := ⟨w.heap.size, 1, none⟩) z2).trans c2_1; have c3_2 := (hb3.cell (p := ⟨w.heap.size, 2, none⟩) z2).trans c2_2; have c3_3 := (hb3.cell (p := ⟨w.heap.size, 3, none⟩) z2).trans c2_3; have c3_4 := (hb3.cell (p := ⟨w.heap.size, 4, none⟩) z2).trans c2_4; have c3_5 := (hb3.cell (p := ⟨w.heap.size, 5, none⟩) z2).trans c2_5; clear hb3 c2_0 c2_1 c2_2 c2_3 c2_4 c2_5)
        simp only []
        refine hK.out _ _ (by go_keep) (fun hHeldB => ?_)
        clear hK
        try simp only [Act.put, List.setIfInBounds_toArray, List.set_cons_zero, List.set_cons_succ]
        refine tk30_28 (v := ?v28) (by kernel_rfl) (by kernel_rfl) (by kernel_rfl) (fun _ _ _ h => h) (Or.inl ⟨by rfl, ?hy28⟩) (by assumption) ?rs28
        case hy28 => (intro w hSw; (try dsimp only at hSw); go_simp; try (with_reducible rfl))
        try simp only [Act.put, List.setIfInBounds_toArray, List.set_cons_zero, List.set_cons_succ]
        refine tk30_23 (v := ?v23) (by kernel_rfl) (by kernel_rfl) (by kernel_rfl) (fun _ _ _ h => h) (Or.inl ⟨by rfl, ?hy23⟩) (by assumption) ?rs23
        case hy23 => (intro w hSw; (try dsimp only at hSw); go_simp; try (with_reducible rfl))
        try simp only [Act.put, List.setIfInBounds_toArray, List.set_cons_zero, List.set_cons_succ]
        refine br30_24 (by kernel_rfl) (fun K hK => ?_)
        go_simp
        refine hK.out _ _ (by go_keep) (fun hHeldB => ?_)
        clear hK
        try simp only [Act.put, List.setIfInBounds_toArray, List.set_cons_zero, List.set_cons_succ]
        refine tk30_26 (v := ?v26) (by kernel_rfl) (by kernel_rfl) (by kernel_rfl) (fun _ _ _ h => h) (Or.inl ⟨by rfl, ?hy26⟩) (by assumption) ?rs26
        case hy26 => (intro w hSw; (try dsimp only at hSw); go_simp; try (with_reducible rfl))
        try simp only [Act.put, List.setIfInBounds_toArray, List.set_cons_zero, List.set_cons_succ]
        refine br30_27 (by kernel_rfl) (fun K hK => ?_)
        go_simp
        refine hK.out _ _ (by go_keep) (fun hHeldB => ?_)
        clear hK
        try simp only [Act.put, List.setIfInBounds_toArray, List.set_cons_zero, List.set_cons_succ]
        refine tk30_29 (v := ?v29) (by kernel_rfl) (by kernel_rfl) (by kernel_rfl) (fun _ _ _ h => h) (Or.inl ⟨by rfl, ?hy29⟩) (by assumption) ?rs29
        case hy29 => (intro w hSw; (try dsimp only at hSw); go_simp; try (with_reducible rfl))
        try simp only [Act.put, List.setIfInBounds_toArray, List.set_cons_zero, List.set_cons_succ]
        refine wpAnyH_done (by kernel_rfl) ?_ _
        go_wp2_with (first | (go_at_call 15; (with_reducible refine (Ranks_is (HRD.out _ (by first | exact HB3.out | exact HB3.out.drew)) HRK.out).mono ?_); rintro e w4 ⟨a4, n4, x4, rfl, h4, hb4⟩; have HK4 := Lib.hid (ownsI_rd h4); have HO4 := Lib.hid (HO3.out.ext (Below.then (show Below w3.heap.size w3 _ by (repeat' (first | (with_reducible exact Below.refl _ _) | (with_reducible assumption) | (with_reducible refine Below.alloc ?_ ?_ _) | (with_reducible refine Below.drew ?_) | (with_reducible refine Below.draws ?_ _) | (with_reducible refine Below.setCell ?_ ?_ _) | (refine Below.then ?_ (by with_reducible assumption)) | go_size))) hb4)); have B4 := Lib.hid (Below.then B3.out (Below.then (show Below w3.heap.size w3 _ by (repeat' (first | (with_reducible exact Below.refl _ _) | (with_reducible assumption) | (with_reducible refine Below.alloc ?_ ?_ _) | (with_reducible refine Below.drew ?_) | (with_reducible refine Below.draws ?_ _) | (with_reducible refine Below.setCell ?_ ?_ _) | (refine Below.then ?_ (by with_reducible assumption)) | go_size))) hb4)); clear h4 hb4) | (go_at_call 47; (with_reducible refine (indexR_any _ _ _ _ _ _ _ HK4.out (HXA.out i HIL.out) HXN.out).mono ?_); rintro e wq ⟨rfl, rfl⟩))
        have hn2 : n2 ≤ 504000 := by rw [← HO4.out.length]; exact HOL.out
        go_loopw [16, 86] (fun v16 v86 wr => ∃ k : Nat, k ≤ n2 ∧ v16 = .int .i64 (cntE Fb (o.take k)) ∧ v86 = .int .i64 k ∧ Below w4.heap.size w4 wr) (fun _ v _ => n2 - (intOf v).toNat)
        case atStart => exact ⟨0, Nat.zero_le _, rfl, rfl, Below.refl _ _⟩
        case round =>
          obtain ⟨k, hk, rfl, rfl, hB⟩ := hrel
          have HB := Lib.hid hB
          have hbd := cnt_take_bd Fb o k
          by_cases hkn : k < n2
          · obtain ⟨x, b1, o1, rfl, hb1, hx, q0, q1, q2, q3, q4⟩ := (HO4.out.ext hB).en_at k hkn
            have htk := cnt_take (p := Fb) hx
            rw [HFB.out x] at htk
            have hmem := List.mem_of_getElem? hx
            have HX1 : Hid (x.w = 4 → ∃ k : Nat, x.k = (k : Int) ∧ k < RL.length) := Lib.hid (HOK.out x hmem)
            obtain ⟨C, hC⟩ : ∃ C, cntE Fb (o.take k) = C := ⟨_, rfl⟩
            rw [hC] at htk hbd ⊢
            have wr1 : IntKind.i64.wrap (C + 1) = C + 1 := IntWalk.i64_in _ (by have := HOL.out; omega)
            obtain ⟨m1, k1, w1', a1, c1⟩ := x
            simp only [] at q0 q1 q2 q3 q4 htk HX1 ⊢
            have HTK0 := Lib.hid htk
            have HKR := Lib.hid (HK4.out.ext hB)
            clear hB hx hC hmem hbd htk
            go_upto_region 10 with fail
            (obtain ⟨we, hwe⟩ : ∃ x, x = wr.alloc (.cells #[.int .i64 m1, .int .i64 k1, .int .i64 w1', .int .i64 a1, .int .i64 c1] 43) := ⟨_, rfl⟩); have HBE : Hid (Below wr.heap.size wr we) := Lib.hid (by rw [hwe]; (repeat' (first | (with_reducible exact Below.refl _ _) | (with_reducible assumption) | (with_reducible refine Below.alloc ?_ ?_ _) | (with_reducible refine Below.drew ?_) | (with_reducible refine Below.draws ?_ _) | (with_reducible refine Below.setCell ?_ ?_ _) | (refine Below.then ?_ (by with_reducible assumption)) | go_size))); have HE5 : Hid (Blk5 we wr.heap.size ⟨m1, k1, w1', a1, c1⟩) := Lib.hid (by rw [hwe]; exact ⟨by simp [go_sem], by simp [go_sem], by simp [go_sem], by simp [go_sem], by simp [go_sem], fun j => by simp [go_sem], by simp⟩); rw [← hwe]; clear hwe
            have HKE := Lib.hid (HKR.out.ext HBE.out)
            obtain ⟨u0, u1, u2, u3, u4, uf, uz⟩ := HE5.out
            clear uf q0 q1 q2 q3 q4
            by_cases h4 : w1' = 4
            · subst h4
              obtain ⟨kk, hkk, hkl⟩ := HX1.out rfl
              subst hkk
              have HKK := Lib.hid hkl
              by_cases hr : rf ≤ m1
              · have hr' : decide (rf ≤ m1) = true := by simpa using hr
                have hE3 : (decide (z < 0) = true) ∨ (decide (z < 0) = false ∧ decide (m1 < z) = true) ∨ (decide (z < 0) = false ∧ decide (m1 < z) = false) := by simp; omega
                rcases hE3 with h5 | ⟨h5, h6⟩ | ⟨h5, h6⟩
                · by_cases hbh : cnt RL i < cnt RL kk
                  · have HTK : Hid (cntE Fb (o.take (k + 1)) = C + 1) := Lib.hid (by rw [HTK0.out, if_pos (by simp [hr, hbh]; simp at h5; omega)])
                    have hb' : decide (cnt RL i < cnt RL kk) = true := by simpa using hbh
                    (go_wp2_with (first | (go_at_call 47; (with_reducible refine (indexR_any _ _ _ _ _ _ _ HKE.out (HXA.out kk HKK.out) HXN.out).mono ?_); rintro e wq ⟨rfl, rfl⟩)); go_roundw; (case rel => exact ⟨k + 1, hkn, by rw [HTK.out], by go_num, Below.then HB.out HBE.out⟩); (case measure => (simp [intOf]; omega)))
                  · have HTK : Hid (cntE Fb (o.take (k + 1)) = C) := Lib.hid (by rw [HTK0.out, if_neg (by simp [hbh])]; simp)
                    have hb' : decide (cnt RL i < cnt RL kk) = false := by simpa using hbh
                    (go_wp2_with (first | (go_at_call 47; (with_reducible refine (indexR_any _ _ _ _ _ _ _ HKE.out (HXA.out kk HKK.out) HXN.out).mono ?_); rintro e wq ⟨rfl, rfl⟩)); go_roundw; (case rel => exact ⟨k + 1, hkn, by rw [HTK.out], by go_num, Below.then HB.out HBE.out⟩); (case measure => (simp [intOf]; omega)))
                · by_cases hbh : cnt RL i < cnt RL kk
                  · have HTK : Hid (cntE Fb (o.take (k + 1)) = C + 1) := Lib.hid (by rw [HTK0.out, if_pos (by simp [hr, hbh]; simp at h6; omega)])
                    have hb' : decide (cnt RL i < cnt RL kk) = true := by simpa using hbh
                    (go_wp2_with (first | (go_at_call 47; (with_reducible refine (indexR_any _ _ _ _ _ _ _ HKE.out (HXA.out kk HKK.out) HXN.out).mono ?_); rintro e wq ⟨rfl, rfl⟩)); go_roundw; (case rel => exact ⟨k + 1, hkn, by rw [HTK.out], by go_num, Below.then HB.out HBE.out⟩); (case measure => (simp [intOf]; omega)))
                  · have HTK : Hid (cntE Fb (o.take (k + 1)) = C) := Lib.hid (by rw [HTK0.out, if_neg (by simp [hbh])]; simp)
                    have hb' : decide (cnt RL i < cnt RL kk) = false := by simpa using hbh
                    (go_wp2_with (first | (go_at_call 47; (with_reducible refine (indexR_any _ _ _ _ _ _ _ HKE.out (HXA.out kk HKK.out) HXN.out).mono ?_); rintro e wq ⟨rfl, rfl⟩)); go_roundw; (case rel => exact ⟨k + 1, hkn, by rw [HTK.out], by go_num, Below.then HB.out HBE.out⟩); (case measure => (simp [intOf]; omega)))
                · have HTK : Hid (cntE Fb (o.take (k + 1)) = C) := Lib.hid (by rw [HTK0.out, if_neg (by rw [h5, h6]; simp)]; simp)
                  (go_wp2_with (first | (go_at_call 47; (with_reducible refine (indexR_any _ _ _ _ _ _ _ HKE.out (HXA.out kk HKK.out) HXN.out).mono ?_); rintro e wq ⟨rfl, rfl⟩)); go_roundw; (case rel => exact ⟨k + 1, hkn, by rw [HTK.out], by go_num, Below.then HB.out HBE.out⟩); (case measure => (simp [intOf]; omega)))
              · have hr' : decide (rf ≤ m1) = false := by simpa using hr
                have HTK : Hid (cntE Fb (o.take (k + 1)) = C) := Lib.hid (by rw [HTK0.out, if_neg (by rw [hr']; simp)]; simp)
                (go_wp2_with (first | (go_at_call 47; (with_reducible refine (indexR_any _ _ _ _ _ _ _ HKE.out (HXA.out kk HKK.out) HXN.out).mono ?_); rintro e wq ⟨rfl, rfl⟩)); go_roundw; (case rel => exact ⟨k + 1, hkn, by rw [HTK.out], by go_num, Below.then HB.out HBE.out⟩); (case measure => (simp [intOf]; omega)))
            · have h4' : (w1' == 4) = false := by simpa using h4
              have HTK : Hid (cntE Fb (o.take (k + 1)) = C) := Lib.hid (by rw [HTK0.out, if_neg (by simp [h4])]; simp)
              go_wp2_with fail
              go_roundw
              case rel => exact ⟨k + 1, hkn, by rw [HTK.out], by go_num, Below.then HB.out HBE.out⟩
              case measure => simp [intOf]; omega
          · have e : cntE Fb (o.take k) = Z := by rw [List.take_of_length_le (by rw [HO4.out.length]; omega), HZ.out]
            rw [e]
            clear hB hbd e
            go_wp2
            go_ret2
            exact ⟨rfl, B4.out.trans (HB.out.mono B4.out.size)⟩
end Go.Proofs.Ytmahagcghpoekaa
