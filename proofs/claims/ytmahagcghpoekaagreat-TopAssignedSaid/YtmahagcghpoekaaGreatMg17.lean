/- Who works: nobody ahead is there. No condition: plain lemmas. No deadline is missed by accepted tasks. No condition: plain lemmas. The contracts of First and Responses of response and of its reference. The conditions: the tasks read as named. -/
import Derived.Test.YtmahagcghpoekaaGreatMg3
import Derived.Test.YtmahagcghpoekaaGreatMg16
import Derived.Test.YtmahagcghpoekaaGreatMg13
import Derived.Test.YtmahagcghpoekaaGreatMg15
import Derived.Test.YtmahagcghpoekaaGreatMg14
namespace Go.Proofs.YtmahagcghpoekaaGreat
open Go.RowKit
set_option linter.unusedSimpArgs false
set_option linter.unusedVariables false
/-- the task whose rank a piece has -/
def raisA (L : List Ta) (y p : Nat) : Int := if 0 ≤ lkA L y p then ceilG L (lkA L y p) else y
/-- task x is ahead of the work of piece p of task y -/
def AheadW (L : List Ta) (x y p : Nat) : Prop := x < L.length ∧ cnt L x < cnt L y ∧ cnt L x < cnt L (raisA L y p)
structure RkI (R : Rn) (s : Ms) : Prop where
  h : ∀ e ∈ s.o, e.w = 4 → ∀ y p : Nat, e.k = (y : Int) → e.a = (p : Int) → ∀ x k : Nat, AheadW R.L x y p → k < (evA R x).length → relT (evA R x) k ≤ e.m → 0 ≤ endF s.o x k ∧ endF s.o x k ≤ e.m
theorem RkI.of {R : Rn} {s s' : Ms} (h : RkI R s) {l : List En} (ho : s'.o = s.o ++ l) (h5 : ∀ e ∈ l, e.w ≠ 5 ∧ e.w ≠ 4) : RkI R s' := by
  have he : ∀ i x, endF s'.o i x = endF s.o i x := fun i x => by rw [ho]; exact endF_app _ _ _ _ (fun e q r => (h5 e q).1 r.1)
  refine ⟨fun e q w4 y p hy hp x k ha hk hr => ?_⟩
  rw [he]
  rw [ho, List.mem_append] at q
  rcases q with q | q
  · exact h.h e q w4 y p hy hp x k ha hk hr
  · exact absurd w4 (h5 e q).2
theorem RkI.fin {R : Rn} {T : Int} {s : Ms} {at_ : List Nat} (h : RkI R s) (hE : EI R T s at_) {i a : Nat} {how : Int} (hi : i < R.L.length) (ha : at_[i]? = some a) (hx : (ordE (evA R i))[a]? = some (s.hd i)) : RkI R (fin1 T i how s) := by
  have ho : (fin1 T i how s).o = s.o ++ [⟨T, i, 5, s.hd i, how⟩] := rfl
  refine ⟨fun e q w4 y p hy hp x k hA hk hr => ?_⟩
  rw [ho, List.mem_append] at q
  rcases q with q | q
  · have h0 := h.h e q w4 y p hy hp x k hA hk hr
    have e1 : endF (fin1 T i how s).o x k = endF s.o x k := by
      rw [ho, endF_one]
      unfold endG
      rw [if_neg]
      rintro ⟨_, h1, h2⟩
      simp only [] at h1 h2
      have : i = x := by omega
      subst this
      have := hE.new i a a _ ha hx (Nat.le_refl _)
      rw [h2] at this
      omega
    rw [e1]; exact h0
  · simp at q; subst q; simp at w4
theorem ahead_idle {R : Rn} {s : Ms} {y : Nat} (hm : MOk R s) (hch : Chosen R s y) {x : Nat} (hA : AheadW R.L x y (s.ja y).p) : s.qa x = [] := by
  obtain ⟨hx, h1, h2⟩ := hA
  by_cases hq : s.qa x = []
  · exact hq
  · exfalso
    have hk := hch.le x hx hq
    have hto := (hm.to_ hx).2
    unfold keyI at hk
    have ho : ownI R.L s x ≤ 1 := by unfold ownI; split <;> omega
    have hle : cnt R.L (toI R.L s y) ≤ cnt R.L x := by omega
    cases hc : insB R.L s y
    · rw [toI_no hc] at hle; omega
    · have hl := (insB_iff.1 hc).2
      have e : toI R.L s y = raisA R.L y (s.ja y).p := by
        unfold toI raisA
        rw [hc, if_pos hl]; rfl
      rw [e] at hle; omega
theorem idle_ends {R : Rn} {t T : Int} {s : Ms} {at_ : List Nat} (hq : QR R t s at_) (hE : EI R T s at_) {x k : Nat} (hx : x < R.L.length) (h0 : s.qa x = []) (hk : k < (evA R x).length) (hr : relT (evA R x) k ≤ t) : 0 ≤ endF s.o x k ∧ endF s.o x k ≤ T := by
  have hil : x < at_.length := by rw [hq.len]; exact hx
  have ha := List.getElem?_eq_getElem hil
  obtain ⟨j, hj⟩ := List.getElem?_of_mem (ordE_mem (l := evA R x).2 ⟨show (0 : Int) ≤ (k : Int) by omega, by omega⟩)
  obtain ⟨g1, g2⟩ := hq.q x _ ha
  rw [h0] at g1
  have h2 := congrArg List.length g1
  rw [List.length_drop] at h2
  simp only [List.length_nil] at h2
  have hlt := ((outE_facts (evA R x) t).2 j _ hj).1 hr
  exact hE.old x _ j _ ha hj (by omega)
theorem RkI.work {R : Rn} {t : Int} {s : Ms} {at_ : List Nat} {i a : Nat} (h : RkI R s) (hE : EI R t s at_) (hm : MOk R s) (hq : QR R t s at_) (hch : Chosen R s i) (ha : at_[i]? = some a) : RkI R (wk1 R t i s) := by
  have ho : (wk1 R t i s).o = s.o ++ [⟨t, i, 4, (s.ja i).p, s.hd i⟩] := rfl
  refine ⟨fun e q w4 y p hy hp x k hA hk hr => ?_⟩
  have e1 : endF (wk1 R t i s).o x k = endF s.o x k := by rw [ho]; exact endF_app _ _ _ _ (fun e q r => by simp at q; subst q; simp at r)
  rw [e1]
  rw [ho, List.mem_append] at q
  rcases q with q | q
  · exact h.h e q w4 y p hy hp x k hA hk hr
  · simp at q; subst q
    simp only [] at hy hp hr ⊢
    obtain rfl : i = y := by omega
    obtain rfl : (s.ja i).p = p := by omega
    exact idle_ends hq hE hA.1 (ahead_idle hm hch hA) hk hr
theorem rk_steps {R : Rn} (hr : RnOk R) : Steps R (fun t s at_ => EI R t s at_ ∧ RkI R s) (fun t s at_ => EI R (t + 1) s at_ ∧ RkI R s) := by
  have hE := ends_steps hr
  refine ⟨?_, ?_, ?_, ?_, ?_, ?_, ?_, ?_⟩
  · intro t s at_ hm hq hp
    obtain ⟨l, h1, h2⟩ := relA_newE t R.ev 0 s
    exact ⟨hE.rel t s at_ hm hq hp.1, hp.2.of h1 (fun e q => by rw [(h2 e q).2]; decide)⟩
  · intro t s at_ i hm hq hi hn hp
    exact ⟨hE.sig t s at_ i hm hq hi hn hp.1, hp.2.of (l := [⟨t, i, 2, 0, 0⟩]) rfl (fun e q => by simp at q; subst q; simp)⟩
  · intro t s at_ i a hm hq hi hn ha hs hin hp
    exact ⟨hE.fin t s at_ i a hm hq hi hn ha hs hin hp.1, hp.2.fin hp.1 hi ha (hq.event ha hn)⟩
  · intro t s at_ hm hq hs hg hp
    exact ⟨hE.gc t s at_ hm hq hs hg hp.1, hp.2.of (l := [⟨t, -1, 3, 0, 0⟩]) rfl (fun e q => by simp at q; subst q; simp)⟩
  · intro t s at_ hm hq hs hg hn hp
    exact ⟨hE.idle t s at_ hm hq hs hg hn hp.1, hp.2⟩
  · intro t s at_ i a hm hq hs hg hch ha hfin hp
    refine ⟨hE.w0 t s at_ i a hm hq hs hg hch ha hfin hp.1, ?_⟩
    have h1 := hp.1.work hm hq hch ha
    exact (hp.2.work hp.1 hm hq hch ha).fin (s := wk1 R t i s) h1 hch.lt ha (hq.event ha hch.rd)
  · intro t s at_ i a hm hq hs hg hch ha hpl hbu hp
    exact ⟨hE.w1 t s at_ i a hm hq hs hg hch ha hpl hbu hp.1, hp.2.work hp.1 hm hq hch ha⟩
  · intro t s at_ i a hm hq hs hg hch ha hpl hbu hp
    refine ⟨hE.w2 t s at_ i a hm hq hs hg hch ha hpl hbu hp.1, ?_⟩
    exact (hp.2.work hp.1 hm hq hch ha).of (s' := wk2 R t i s) (l := [⟨t + 1, i, 6, s.hd i, 0⟩]) rfl (fun e q => by simp at q; subst q; simp)
theorem plM_rk {R : Rn} (hr : RnOk R) (k : Nat) : RkI R (plM R k) := by
  obtain ⟨at_, _, h1, h2⟩ := (rk_steps hr).run hr ⟨EI.zero hr, ⟨fun e q => by simp [ms0] at q⟩⟩ k
  exact h2
/-- those ahead of both, as the law takes them from the ranks -/
theorem ranks_before {L : List Ta} {i : Nat} {x : Int} (hx : (rankL L)[i]? = some x) {y r : Int} (hy0 : 0 ≤ y ∧ y < L.length) (hr0 : 0 ≤ r ∧ r < L.length) (h : ∀ j, j ≤ i → (rankL L)[j]? ≠ some r ∧ (rankL L)[j]? ≠ some y) : cnt L x < cnt L y ∧ cnt L x < cnt L r := by
  have e := rank_cnt hx
  have ey := rank_at hy0.1 hy0.2
  have er := rank_at hr0.1 hr0.2
  constructor
  · rcases Nat.lt_or_ge (cnt L x) (cnt L y) with q | q
    · exact q
    · exact absurd ey (h _ (by omega)).2
  · rcases Nat.lt_or_ge (cnt L x) (cnt L r) with q | q
    · exact q
    · exact absurd er (h _ (by omega)).1
end Go.Proofs.YtmahagcghpoekaaGreat
namespace Go.Proofs.YtmahagcghpoekaaGreat
open Go.RowKit
set_option linter.unusedSimpArgs false
set_option linter.unusedVariables false
theorem Steps.from_ {R : Rn} {P Q : Int → Ms → List Nat → Prop} (h : Steps R P Q) (hr : RnOk R) {k0 : Nat} {at0 : List Nat} (q0 : QR R ((k0 : Int) - 1) (plM R k0) at0) (h0 : Q ((k0 : Int) - 1) (plM R k0) at0) : ∀ d : Nat, ∃ at_, QR R (((k0 + d : Nat) : Int) - 1) (plM R (k0 + d)) at_ ∧ Q (((k0 + d : Nat) : Int) - 1) (plM R (k0 + d)) at_
  | 0 => ⟨at0, q0, h0⟩
  | d + 1 => by
    obtain ⟨at_, hq, hp⟩ := Steps.from_ h hr q0 h0 d
    have hm := plM_ok hr (k0 + d)
    obtain ⟨a1, q1, p1⟩ := h.arr hr hm hq hp
    obtain ⟨a2, q2, p2⟩ := h.tick hr (hm.arrA hr _) (arrA_settled hr hm _) q1 p1
    refine ⟨a2, ?_⟩
    rw [show (((k0 + (d + 1) : Nat) : Int) - 1) = ((k0 + d : Nat) : Int) by omega]
    exact ⟨q2, p2⟩
/-- what is over stays so -/
def StayI (R : Rn) (i j : Nat) (x E : Int) (s : Ms) (at_ : List Nat) : Prop := (∀ a, at_[i]? = some a → j < a) ∧ endF s.o i x = E
theorem StayI.of {R : Rn} {i j : Nat} {x E : Int} {s s' : Ms} {at_ : List Nat} (h : StayI R i j x E s at_) {l : List En} (ho : s'.o = s.o ++ l) (h5 : ∀ e ∈ l, e.w ≠ 5) : StayI R i j x E s' at_ :=
  ⟨h.1, by rw [ho, endF_app _ _ _ _ (fun e q r => h5 e q r.1)]; exact h.2⟩
theorem StayI.fin {R : Rn} {i j : Nat} {x E : Int} {s : Ms} {at_ : List Nat} (h : StayI R i j x E s at_) (hj : (ordE (evA R i))[j]? = some x) {k a : Nat} {T how : Int} (ha : at_[k]? = some a) (hx : (ordE (evA R k))[a]? = some (s.hd k)) : StayI R i j x E (fin1 T k how s) (at_.set k (a + 1)) := by
  refine ⟨fun b hb => ?_, ?_⟩
  · rcases set_atE hb with ⟨rfl, rfl⟩ | ⟨_, hb⟩
    · have := h.1 a ha; omega
    · exact h.1 b hb
  · have ho : (fin1 T k how s).o = s.o ++ [⟨T, k, 5, s.hd k, how⟩] := rfl
    rw [ho, endF_one]
    unfold endG
    rw [if_neg]
    · exact h.2
    · rintro ⟨_, h1, h2⟩
      simp only [] at h1 h2
      have : k = i := by omega
      subst this
      rw [h2] at hx
      have := ord_injE hx hj
      have := h.1 a ha
      omega
theorem stay_steps {R : Rn} (hr : RnOk R) {i j : Nat} {x E : Int} (hj : (ordE (evA R i))[j]? = some x) : Steps R (fun _ s at_ => StayI R i j x E s at_) (fun _ s at_ => StayI R i j x E s at_) := by
  refine ⟨?_, ?_, ?_, ?_, ?_, ?_, ?_, ?_⟩
  · intro t s at_ hm hq hp
    obtain ⟨l, h1, h2⟩ := relA_newE t R.ev 0 s
    exact hp.of h1 (fun e q => by rw [(h2 e q).2]; decide)
  · intro t s at_ k hm hq hi hn hp
    exact hp.of (l := [⟨t, k, 2, 0, 0⟩]) rfl (fun e q => by simp at q; subst q; simp)
  · intro t s at_ k a hm hq hi hn ha hs hin hp
    exact hp.fin hj ha (hq.event ha hn)
  · intro t s at_ hm hq hs hg hp
    exact hp.of (l := [⟨t, -1, 3, 0, 0⟩]) rfl (fun e q => by simp at q; subst q; simp)
  · intro t s at_ hm hq hs hg hn hp
    exact hp
  · intro t s at_ k a hm hq hs hg hch ha hfin hp
    have h1 : StayI R i j x E (wk1 R t k s) at_ := hp.of (l := [⟨t, k, 4, (s.ja k).p, s.hd k⟩]) rfl (fun e q => by simp at q; subst q; simp)
    exact h1.fin (s := wk1 R t k s) hj ha (hq.event ha hch.rd)
  · intro t s at_ k a hm hq hs hg hch ha hpl hbu hp
    exact hp.of (s' := wk1 R t k s) (l := [⟨t, k, 4, (s.ja k).p, s.hd k⟩]) rfl (fun e q => by simp at q; subst q; simp)
  · intro t s at_ k a hm hq hs hg hch ha hpl hbu hp
    have h1 : StayI R i j x E (wk1 R t k s) at_ := hp.of (l := [⟨t, k, 4, (s.ja k).p, s.hd k⟩]) rfl (fun e q => by simp at q; subst q; simp)
    exact h1.of (s' := wk2 R t k s) (l := [⟨t + 1, k, 6, s.hd k, 0⟩]) rfl (fun e q => by simp at q; subst q; simp)
theorem end_by {R : Rn} (hr : RnOk R) {i x u v : Nat} (hi : i < R.L.length) (hx : x < (evA R i).length) (hq : (plM R u).qa i = []) (hrel : relT (evA R i) x ≤ (u : Int) - 1) (huv : u ≤ v) : 0 ≤ endF (plM R v).o i x ∧ endF (plM R v).o i x ≤ u := by
  obtain ⟨at_, h1, h2⟩ := plM_ei hr u
  have h3 := idle_ends h1 h2 hi hq hx hrel
  have hil : i < at_.length := by rw [h1.len]; exact hi
  have ha := List.getElem?_eq_getElem hil
  obtain ⟨j, hj⟩ := List.getElem?_of_mem (ordE_mem (l := evA R i).2 ⟨show (0 : Int) ≤ (x : Int) by omega, by omega⟩)
  have hja : j < at_[i] := by
    rcases Nat.lt_or_ge j at_[i] with q | q
    · exact q
    · have := h2.new i _ j _ ha hj q
      omega
  obtain ⟨_, _, h4⟩ := (stay_steps hr (E := endF (plM R u).o i x) hj).from_ hr h1 ⟨fun a q => by rw [ha] at q; simp at q; omega, rfl⟩ (v - u)
  rw [show u + (v - u) = v by omega] at h4
  rw [h4.2]; exact h3
theorem sparse_jit {g j : Int} : ∀ (xs : List P2) (l : Int), sparse g j l xs = true → ∀ e ∈ xs, e.2 ≤ j
  | [], _, _, e, he => by simp at he
  | x :: xs, l, h, e, he => by
    unfold sparse at h
    split at h
    · cases h
    · rename_i hc
      rcases List.mem_cons.1 he with rfl | he
      · omega
      · exact sparse_jit xs _ h e he
theorem allow_sparse {g j : Int} : ∀ (xs : List P2) (l : Int), allowGo g j l xs = sparse g j l xs
  | [], _ => rfl
  | x :: xs, l => by unfold allowGo sparse; rw [allow_sparse xs]
/-- the response: a job is over within jitter and window of its arrival -/
theorem resp_by {R : Rn} (hr : RnOk R) (hf : Fair R) (hv : ValidT R.L) (hs : 0 ≤ R.sl ∧ R.sl < R.fr) {i : Nat} (hi : i < R.L.length) {W : Nat} (hW : 1 ≤ W) (hd : demN R.L i W ≤ leastN R.fr R.sl W) (hj : (taAt R.L i).jit + W ≤ (taAt R.L i).gap)
    {x v : Nat} {e : P2} (he : (evA R i)[x]? = some e) (hle : e.1 + (taAt R.L i).jit + W ≤ v) : 0 ≤ endF (plM R v).o i x ∧ endF (plM R v).o i x ≤ e.1 + (taAt R.L i).jit + W := by
  have hx := (List.getElem?_eq_some_iff.1 he).1
  have hev : i < R.ev.length := by rw [hr.ev]; exact hi
  have hel := (hr.el (evA R i) (by unfold evA; rw [List.getElem?_eq_getElem hev]; exact List.getElem_mem hev)).2 e (List.mem_of_getElem? he)
  have hjit := sparse_jit _ _ (hf.ev i hi) e (List.mem_of_getElem? he)
  have hrl := relT_of he
  obtain ⟨r, hr2⟩ := Int.eq_ofNat_of_zero_le (show 0 ≤ e.1 + e.2 by omega)
  obtain ⟨u, h1, h2, h3⟩ := idle_after hr hf hv hs hi hW hd hj r
  have := end_by hr hi hx (h3 i hi (Nat.le_refl _)) (by rw [hrl]; omega) (show u ≤ v by omega)
  exact ⟨this.1, by omega⟩
theorem fair_of {R : Rn} (h : runB R = true) (ha : alwR R = (true, 0)) : Fair R := by
  obtain ⟨hr, _⟩ := run_ok h
  unfold alwR at ha
  rw [if_pos h] at ha
  have h1 : alwF R R.L.length 0 = true := congrArg Prod.fst ha
  have key : ∀ f i, alwF R f i = true → R.sg.length = 0 ∧ ∀ k, i ≤ k → k < i + f → mayB R k = true ∧ lowB R k = false := by
    intro f
    induction f with
    | zero => intro i h; exact ⟨by simpa [alwF] using h, fun k h1 h2 => by omega⟩
    | succ f ih =>
      intro i h
      rw [alwF] at h
      split at h
      · rename_i hc
        obtain ⟨g1, g2⟩ := ih (i + 1) h
        refine ⟨g1, fun k h1 h2 => ?_⟩
        by_cases e : k = i
        · subst e; exact hc
        · exact g2 k (by omega) (by omega)
      · cases h
  obtain ⟨g1, g2⟩ := key _ _ h1
  refine ⟨List.eq_nil_of_length_eq_zero g1, fun i hi => ?_, fun i hi => ?_⟩
  · have := (g2 i (Nat.zero_le _) (by omega)).2
    unfold lowB buA at this
    have hb : 0 ≤ (R.bu[i]?).getD 0 := by
      cases q : R.bu[i]? with
      | none => simp
      | some b => exact (hr.b0 b (List.mem_of_getElem? q)).1
    by_cases q : 0 < (R.bu[i]?).getD 0
    · right
      rw [decide_eq_true q, Bool.true_and, decide_eq_false_iff_not] at this
      omega
    · left; omega
  · have := (g2 i (Nat.zero_le _) (by omega)).1
    unfold mayB at this
    rw [← allow_sparse]; exact this
/-- the law of the deadlines: nothing is late -/
theorem late_none {R : Rn} {X : Nat → List Int} {t : Int} (h : ∀ i k, i < R.L.length → k < (evA R i).length → dueA R i k < t + 1 → ¬ (xAt X i k < 0 ∨ dueA R i k < xAt X i k)) : lateAll R X R.L.length 0 (t + 1, -1, -1) = (t + 1, -1, -1) := by
  have hrow : ∀ f i k, i < R.L.length → k + f ≤ (evA R i).length → lateRow R X i f k (t + 1, -1, -1) = (t + 1, -1, -1) := by
    intro f
    induction f with
    | zero => intro i k _ _; rfl
    | succ f ih =>
      intro i k hi hk
      rw [lateRow]
      have e : lateS R X i k (t + 1, -1, -1) = (t + 1, -1, -1) := by
        unfold lateS
        rw [if_neg]
        rintro ⟨h1, h2⟩
        exact h i k hi (by omega) h1 h2
      rw [e]
      exact ih i (k + 1) hi (by omega)
  have hall : ∀ f i, i + f ≤ R.L.length → lateAll R X f i (t + 1, -1, -1) = (t + 1, -1, -1) := by
    intro f
    induction f with
    | zero => intro i _; rfl
    | succ f ih =>
      intro i hi
      rw [lateAll, hrow _ i 0 (by omega) (by omega)]
      exact ih (i + 1) (by omega)
  exact hall _ _ (by omega)
theorem meets_all {R : Rn} {t : Int} (h : runB R = true) (ht : 0 ≤ t ∧ t ≤ 2000) (ha : alwR R = (true, 0)) (hacc : accB R.L R.fr R.sl = true) : meetsR R t = (true, 0) := by
  obtain ⟨hr, hvl, hsup, _⟩ := run_ok h
  have hv := valid_of hvl
  have hf := fair_of h ha
  have hs := (supB_iff.1 hsup)
  have hs2 : 0 ≤ R.sl ∧ R.sl < R.fr := by omega
  have hin : (runB R && inB t 0 2000) = true := by rw [h, Bool.true_and, inB_iff]; exact ht
  have key : lateF R t = (t + 1, -1, -1) := by
    unfold lateF
    refine late_none (fun i k hi hk hdue => ?_)
    have hm := accB_iff.1 hacc i hi
    unfold meetB at hm
    rw [Bool.and_eq_true, decide_eq_true_eq, decide_eq_true_eq] at hm
    obtain ⟨W, hWe, hW1, hW2, hW3, _⟩ := (isWin R.L R.fr R.sl i).some_ (by omega)
    have he : (evA R i)[k]? = some ((evA R i)[k]) := List.getElem?_eq_getElem hk
    have hdl := hv.dl _ (ta_mem hi)
    have hdu : dueA R i k = ((evA R i)[k]).1 + (taAt R.L i).dl := by unfold dueA; rw [he]; rfl
    have hx : xAt (endX R t) i k = endF (plM R t.toNat).o i k := by
      unfold xAt endX
      rw [endsRow_get hk]; rfl
    have := resp_by hr hf hv hs2 hi hW1 hW3 (by omega) he (v := t.toNat) (by omega)
    rw [hx]
    omega
  unfold meetsR
  rw [if_pos hin, key]
  rfl
end Go.Proofs.YtmahagcghpoekaaGreat
namespace Go.Proofs.YtmahagcghpoekaaGreat
open Go.RowKit
set_option linter.unusedSimpArgs false
set_option linter.unusedVariables false
def firstL (L : List Ta) (F S : Int) : List Int → Int × Int
  | [] => (0, 3)
  | k :: ks => if meetB L F S k then firstL L F S ks else (k, 0)
def firstR (L : List Ta) (F S : Int) : Int × Int := if okB L F S then firstL L F S (rankL L) else (0, 1)
def respsR (L : List Ta) (F S : Int) : List Int × Int := if okB L F S then ((List.range L.length).map (fun k => respN L F S k), 0) else ([], 1)
theorem firstL_cons {L : List Ta} {F S k : Int} {ks : List Int} : firstL L F S (k :: ks) = if meetB L F S k then firstL L F S ks else (k, 0) := rfl
set_option maxHeartbeats 2000000 in
theorem Resps_any (a : Option Addr) (n c : Nat) (L : List Ta) (F S : Int) (w : World) (hL : RdL w a n L) :
    Calls Tryz.prog 10 #[.slice a n c, .agg #[.int .i64 F, .int .i64 S]] w (OutTE w.heap.size w (respsR L F S).1 (respsR L F S).2) := by
  have hll := hL.length
  have hsm := hL.small
  have HR := Lib.hid hL
  unfold respsR
  cases ho : okB L F S
  · have HO := Lib.hid ho
    clear hL hll ho
    go_enter Tryz.func10, Tryz.ntmps10
    go_wp2_with (go_at_call 23; (with_reducible refine (right25_is (HR.out.ext (Below.alloc (Below.refl _ _) (Nat.le_refl _) _)) HO.out).mono ?_); rintro e w1 ⟨rfl, hb1⟩; have B1 := Lib.hid hb1; have c0 := (hb1.cell (p := ⟨w.heap.size, 0, none⟩) (by simp)).trans (show _ = some (.int .i64 F) by simp [go_sem]); have c1 := (hb1.cell (p := ⟨w.heap.size, 1, none⟩) (by simp)).trans (show _ = some (.int .i64 S) by simp [go_sem]); have hz1 := hb1.size; clear hb1)
    go_ret2
    exact .none (Below.then (Below.alloc (Below.refl _ _) (Nat.le_refl _) _) B1.out)
  · have HO := Lib.hid ho
    obtain ⟨hv, hs⟩ := ok_of ho
    have hn5 := hv.r.len
    rw [hll] at hn5
    have HV := Lib.hid hv
    have HS := Lib.hid hs
    rw [if_pos rfl, hll]
    have e1 := E1
    clear hL hll ho hv hs
    go_enter Tryz.func10, Tryz.ntmps10
    go_wp2_with (go_at_call 23; (with_reducible refine (right25_is (HR.out.ext (Below.alloc (Below.refl _ _) (Nat.le_refl _) _)) HO.out).mono ?_); rintro e w1 ⟨rfl, hb1⟩; have B1 := Lib.hid hb1; have c0 := (hb1.cell (p := ⟨w.heap.size, 0, none⟩) (by simp)).trans (show _ = some (.int .i64 F) by simp [go_sem]); have c1 := (hb1.cell (p := ⟨w.heap.size, 1, none⟩) (by simp)).trans (show _ = some (.int .i64 S) by simp [go_sem]); have hz1 := hb1.size; clear hb1)
    simp only [World.size_alloc] at hz1
    go_loopw [6, 14] (fun v i wr => ∃ (k : Nat) (a' : Option Addr) (c' : Nat), k ≤ n ∧ v = .slice a' k c' ∧ i = .int .i64 k ∧ wr.ownsRow w1.heap.size 3 1 (.slice a' k c') k (((List.range k).map (fun k => respN L F S k)).flatMap enc1) ∧ Below w1.heap.size w1 wr) (fun _ i _ => n - (intOf i).toNat)
    case atStart => exact ⟨0, none, 0, Nat.zero_le _, rfl, rfl, World.ownsRow_nil _ _ _ _, Below.refl _ _⟩
    case round =>
      obtain ⟨k, a', c', hk, rfl, rfl, ho, hB⟩ := hrel
      have HO2 := Lib.hid ho; have HB := Lib.hid hB; have HBW : Hid (Below w.heap.size w wr) := Lib.hid (Below.then (Below.then (Below.alloc (Below.refl _ _) (Nat.le_refl _) _) B1.out) hB)
      have d0 := (hB.cell (p := ⟨w.heap.size, 0, none⟩) (by simp only []; omega)).trans c0
      have d1 := (hB.cell (p := ⟨w.heap.size, 1, none⟩) (by simp only []; omega)).trans c1
      clear ho hB
      by_cases hlt : k < n
      · obtain ⟨x, hx⟩ : ∃ x, respN L F S k = x := ⟨_, rfl⟩
        have HX := Lib.hid hx
        clear hx
        go_wp2_with (first | (go_at_call 25; (with_reducible refine (resp_is ((((HR.out.ext (Below.alloc (Below.refl _ _) (Nat.le_refl _) _)).ext B1.out).ext HB.out)) HV.out HS.out hlt HX.out).mono ?_); rintro e w3 ⟨rfl, hb3⟩; have B3 := Lib.hid hb3; have HO3 := Lib.hid (owns_ext HO2.out hb3); have hz3 : w1.heap.size ≤ w3.heap.size := (by have := hb3.size; have := HB.out.size; omega); clear hb3) | (at_builtin; refine wpList_push (B := w1.heap.size) rfl _ _ _ rfl e1 rfl HO3.out rfl rfl (by intro u hu; simp at hu; rcases hu with rfl; rfl) (by omega) (by decide) hz3 ?_; intro a4 c4 w4 hown4 hb4; have HO4 := Lib.hid (ownsI_snoc hown4); have HB4 := Lib.hid hb4; clear hown4 hb4))
        go_roundw
        case rel =>
          refine ⟨k + 1, a4, c4, by omega, by go_num, by go_num, ?_, (Below.then HB.out B3.out).trans HB4.out⟩
          rw [List.range_succ, List.map_append, List.map_singleton, HX.out]; exact HO4.out
        case measure => simp [intOf]; omega
      · obtain rfl : k = n := by omega
        go_wp2
        go_ret2
        exact ⟨_, _, _, rfl, owns_mono HO2.out (Nat.le_of_lt hz1), HBW.out⟩
end Go.Proofs.YtmahagcghpoekaaGreat
