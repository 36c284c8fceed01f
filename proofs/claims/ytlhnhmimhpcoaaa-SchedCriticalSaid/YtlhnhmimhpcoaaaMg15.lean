/- Blocking in a run, and when jobs are over in a run that nothing disturbs. No condition: plain lemmas. When jobs are over in a run that nothing disturbs. No condition: plain lemmas. Responses in a run that nothing disturbs. No condition: plain lemmas. Who works: nobody ahead is there. No condition: plain lemmas. The contracts of Cost, of both sides. The conditions: the tasks read as named. The contracts of Allowed of both sides. The conditions: the run reads as named. No deadline is missed by accepted tasks. No condition: plain lemmas. A run whose events each pattern allows. No condition: plain lemmas. -/
import Derived.Test.YtlhnhmimhpcoaaaMg9
import Derived.Test.YtlhnhmimhpcoaaaMg5
import Derived.Test.YtlhnhmimhpcoaaaMg13
import Derived.Test.YtlhnhmimhpcoaaaMg6
import Derived.Test.YtlhnhmimhpcoaaaMg12
import Derived.Test.YtlhnhmimhpcoaaaMg14
import Derived.Test.YtlhnhmimhpcoaaaMg7
namespace Go.Proofs.Ytlhnhmimhpcoaaa
open Go.RowKit
set_option linter.unusedSimpArgs false
set_option linter.unusedVariables false
/-- sums -/
def sumL (f : Int → Int) : List Int → Int
  | [] => 0
  | k :: ks => f k + sumL f ks
theorem demL_sum {L : List Ta} {w : Int} : ∀ (ks : List Int) (n : Int), demL L w ks n = n + sumL (fun k => demT (taAt L k) w) ks
  | [], n => by simp [demL, sumL]
  | k :: ks, n => by
    have e : demL L w (k :: ks) n = demL L w ks (n + demT (taAt L k) w) := rfl
    rw [e, demL_sum ks, sumL]; omega
theorem sumL_le {f g : Int → Int} : ∀ (ks : List Int), (∀ k ∈ ks, f k ≤ g k) → sumL f ks ≤ sumL g ks
  | [], _ => Int.le_refl _
  | k :: ks, h => by
    have h1 := h k (by simp)
    have h2 := sumL_le ks (fun j hj => h j (by simp [hj]))
    rw [sumL, sumL]; omega
theorem sumL_add {f g : Int → Int} : ∀ (ks : List Int), sumL (fun k => f k + g k) ks = sumL f ks + sumL g ks
  | [] => rfl
  | k :: ks => by rw [sumL, sumL, sumL, sumL_add ks]; omega
theorem sumL_eq {f g : Int → Int} : ∀ (ks : List Int), (∀ k ∈ ks, f k = g k) → sumL f ks = sumL g ks
  | [], _ => rfl
  | k :: ks, h => by rw [sumL, sumL, h k (by simp), sumL_eq ks (fun j hj => h j (by simp [hj]))]
theorem sumL_app {f : Int → Int} : ∀ (ks js : List Int), sumL f (ks ++ js) = sumL f ks + sumL f js
  | [], js => by simp [sumL]
  | k :: ks, js => by rw [List.cons_append, sumL, sumL, sumL_app ks js]; omega
theorem sumL_upd {f g : Int → Int} {y d : Int} : ∀ (ks : List Int), ks.Nodup → y ∈ ks → g y = f y + d → (∀ k ∈ ks, k ≠ y → g k = f k) → sumL g ks = sumL f ks + d
  | [], _, h, _, _ => by simp at h
  | k :: ks, hn, hy, hg, hk => by
    rw [List.nodup_cons] at hn
    rw [sumL, sumL]
    by_cases e : k = y
    · subst e
      rw [hg, sumL_eq ks (fun j hj => hk j (by simp [hj]) (fun q => hn.1 (q ▸ hj)))]; omega
    · have hy' : y ∈ ks := by
        rcases List.mem_cons.1 hy with q | q
        · exact absurd q.symm e
        · exact q
      rw [hk k (by simp) e, sumL_upd ks hn.2 hy' hg (fun j hj hne => hk j (by simp [hj]) hne)]; omega
theorem sumL_zero {f : Int → Int} : ∀ (ks : List Int), (∀ k ∈ ks, 0 ≤ f k) → 0 ≤ sumL f ks ∧ (sumL f ks ≤ 0 → ∀ k ∈ ks, f k ≤ 0)
  | [], _ => ⟨Int.le_refl _, fun _ k hk => by simp at hk⟩
  | k :: ks, h => by
    have h1 := h k (by simp)
    obtain ⟨h2, h3⟩ := sumL_zero ks (fun j hj => h j (by simp [hj]))
    rw [sumL]
    refine ⟨by omega, fun h4 j hj => ?_⟩
    rcases List.mem_cons.1 hj with rfl | hj
    · omega
    · exact h3 (by omega) j hj
/-- the pieces that block -/
theorem blkP_has {L : List Ta} {t j : Int} : ∀ (ps : List P2) (k m : Nat) (p : P2), ps[m]? = some p → 0 ≤ p.2 → aheadB L t (ceilG L p.2) = false → (j, ((k + m : Nat) : Int)) ∈ blkP L t j k ps
  | [], _, _, _, h, _, _ => by simp at h
  | q :: ps, k, 0, p, h, h1, h2 => by
    simp at h; subst h
    rw [blkP, if_pos ⟨h1, h2⟩]; simp
  | q :: ps, k, m + 1, p, h, h1, h2 => by
    have := blkP_has (j := j) ps (k + 1) m p (by simpa using h) h1 h2
    rw [show k + 1 + m = k + (m + 1) by omega] at this
    rw [blkP]
    split
    · exact List.mem_cons_of_mem _ this
    · exact this
theorem blkFrom_has {L : List Ta} {t : Int} {y : Nat} {b : P2} (ha : aheadB L t y = true) (hb : b ∈ blkP L t y 0 (taAt L y).pcs) : ∀ (f j : Nat), j ≤ y → y < j + f → b ∈ blkFrom L t f j
  | 0, j, h1, h2 => by omega
  | f + 1, j, h1, h2 => by
    rw [blkFrom, List.mem_append]
    by_cases e : j = y
    · subst e; left; rw [if_pos ha]; exact hb
    · exact .inr (blkFrom_has ha hb f (j + 1) (by omega) (by omega))
theorem foldmax_ge {L : List Ta} {b : P2} : ∀ (bs : List P2) (m : Int), m ≤ bs.foldl (fun m b => max m (ticksAt L b)) m ∧ (b ∈ bs → ticksAt L b ≤ bs.foldl (fun m b => max m (ticksAt L b)) m)
  | [], m => ⟨Int.le_refl _, fun h => by simp at h⟩
  | c :: bs, m => by
    obtain ⟨h1, h2⟩ := foldmax_ge (L := L) (b := b) bs (max m (ticksAt L c))
    simp only [List.foldl_cons]
    refine ⟨by omega, fun h => ?_⟩
    rcases List.mem_cons.1 h with rfl | h
    · omega
    · exact h2 h
theorem blockN_ge {L : List Ta} {t : Int} {y p : Nat} (hy : y < L.length) (hp : p < (taAt L y).pcs.length) (ha : Ahead L t y) (hl : 0 ≤ lkA L y p) (hc : ¬ Ahead L t (ceilG L (lkA L y p))) : tkA L y p ≤ blockN L t := by
  have e : (taAt L y).pcs[p]? = some ((taAt L y).pcs[p]) := List.getElem?_eq_getElem hp
  have e2 : pcA L y p = (taAt L y).pcs[p] := by unfold pcA; rw [e]; rfl
  have h1 : ((y : Int), ((0 + p : Nat) : Int)) ∈ blkP L t y 0 (taAt L y).pcs := blkP_has _ 0 p _ e (by rw [← e2]; exact hl) (by rw [← e2]; exact aheadB_no.2 hc)
  have h2 := blkFrom_has (aheadB_iff.2 ha) h1 L.length 0 (Nat.zero_le _) (by omega)
  have h3 := (foldmax_ge (L := L) (b := ((y : Int), ((0 + p : Nat) : Int))) (blkFrom L t L.length 0) 0).2 h2
  have e3 : ticksAt L ((y : Int), ((0 + p : Nat) : Int)) = tkA L y p := by
    unfold ticksAt tkA pcA; simp
  rw [e3] at h3
  exact h3
/-- a job of a task behind i that is within a piece that blocks i -/
structure IsBk (L : List Ta) (s : Ms) (i y : Nat) : Prop where
  lt : y < L.length
  bh : cnt L i < cnt L y
  ins : insB L s y = true
  to_ : cnt L (toI L s y) ≤ cnt L i
section
variable {R : Rn} {s s' : Ms} {i y : Nat}
theorem IsBk.ticks (h : IsBk R.L s i y) (hm : MOk R s) (hi : i < R.L.length) : tkA R.L y (s.ja y).p ≤ blockN R.L i := by
  obtain ⟨h0, h1⟩ := insB_iff.1 h.ins
  have ht := (hm.to_ h.lt).1
  have e : toI R.L s y = ceilG R.L (lkA R.L y (s.ja y).p) := by unfold toI; rw [h.ins]; rfl
  refine blockN_ge h.lt (hm.pc y h.lt) ((cnt_ahead (by omega) (by omega) (by omega) (by have := h.lt; omega)).1 h.bh) h1 (fun q => ?_)
  rw [← e] at q
  have := (cnt_ahead (by omega) (by omega) ht.1 ht.2).2 q
  have := h.to_
  omega
theorem IsBk.one {z : Nat} (h : IsBk R.L s i y) (k : IsBk R.L s i z) (hm : MOk R s) : y = z := by
  by_cases e : y = z
  · exact e
  · have h1 := h.to_; have h2 := k.to_; have h3 := h.bh; have h4 := k.bh
    rcases hm.ce y z h.lt k.lt e h.ins k.ins with q | q <;> omega
theorem IsBk.of (h : IsBk R.L s' i y) (e : s'.ja y = s.ja y) : IsBk R.L s i y := ⟨h.lt, h.bh, by rw [← insB_eq e]; exact h.ins, by rw [← toI_eq e]; exact h.to_⟩
theorem IsBk.of2 (h : IsBk R.L s' i y) (e1 : (s'.ja y).p = (s.ja y).p) (e2 : (s'.ja y).t = (s.ja y).t) : IsBk R.L s i y := by
  have e : insB R.L s' y = insB R.L s y := by unfold insB; rw [e1, e2]
  have e3 : toI R.L s' y = toI R.L s y := by unfold toI; rw [e, e1]
  exact ⟨h.lt, h.bh, by rw [← e]; exact h.ins, by rw [← e3]; exact h.to_⟩
/-- while somebody not behind i is there, who works behind i blocks it -/
theorem Chosen.blk (h : Chosen R s y) (hm : MOk R s) {x : Nat} (hx : x < R.L.length) (hq : s.qa x ≠ []) (hc : cnt R.L x ≤ cnt R.L i) (hy : cnt R.L i < cnt R.L y) : IsBk R.L s i y := by
  have hk := h.le x hx hq
  have hto := (hm.to_ hx).2
  unfold keyI at hk
  have ho : ownI R.L s x ≤ 1 := by unfold ownI; split <;> omega
  have h1 : cnt R.L (toI R.L s y) ≤ cnt R.L i := by omega
  refine ⟨h.lt, hy, ?_, h1⟩
  cases hc : insB R.L s y
  · rw [toI_no hc] at h1; omega
  · rfl
theorem wkA_other {t : Int} (hm : MOk R s) (hy : y < R.L.length) {k : Nat} (hk : k ≠ y) : (wkA R t y s).ja k = s.ja k ∧ (wkA R t y s).qa k = s.qa k := by
  have hl : y < s.j.length := by rw [hm.jl]; exact hy
  have hql : y < s.q.length := by rw [hm.ql]; exact hy
  rw [wkA_cases]
  have h1 : (wk1 R t y s).ja k = s.ja k := by unfold wk1; rw [ja_set hl, if_neg hk]
  split
  · rw [fin_ja (by unfold wk1; simpa using hl), if_neg hk, fin_qa (by unfold wk1; exact hql), if_neg hk]
    exact ⟨h1, rfl⟩
  · split
    · exact ⟨by unfold wk2; rw [ja_set hl, if_neg hk], rfl⟩
    · exact ⟨h1, rfl⟩
theorem wkA_self {t : Int} (hm : MOk R s) (hy : y < R.L.length) :
    ((jbN R.L y (s.ja y)).p = (taAt R.L y).pcs.length ∧ (wkA R t y s).ja y = Jb.zero ∧ (wkA R t y s).qa y = (s.qa y).tail) ∨
    ((jbN R.L y (s.ja y)).p < (taAt R.L y).pcs.length ∧ (wkA R t y s).qa y = s.qa y ∧ ((wkA R t y s).ja y).p = (jbN R.L y (s.ja y)).p ∧ ((wkA R t y s).ja y).t = (jbN R.L y (s.ja y)).t ∧ ((wkA R t y s).ja y).d = (s.ja y).d + 1 ∧ (((wkA R t y s).ja y).s = (s.ja y).s ∨ (((s.ja y).d + 1 : Nat) : Int) = (R.bu[y]?).getD 0)) := by
  have hl : y < s.j.length := by rw [hm.jl]; exact hy
  have hql : y < s.q.length := by rw [hm.ql]; exact hy
  have hle : (jbN R.L y (s.ja y)).p ≤ (taAt R.L y).pcs.length := by
    have hpi := hm.pc y hy
    unfold jbN; split <;> simp only [] <;> omega
  have hs : (jbN R.L y (s.ja y)).s = (s.ja y).s := by unfold jbN; split <;> rfl
  rw [wkA_cases]
  split
  · rename_i e
    left
    rw [fin_ja (by unfold wk1; simpa using hl), if_pos rfl, fin_qa (by unfold wk1; exact hql), if_pos rfl]
    exact ⟨e, rfl, rfl⟩
  · rename_i e
    right
    refine ⟨by omega, ?_⟩
    split
    · rename_i e2
      refine ⟨rfl, ?_⟩
      unfold wk2
      rw [ja_set hl, if_pos rfl]
      rw [jbN_d] at e2
      exact ⟨rfl, rfl, jbN_d _ _ _, .inr e2⟩
    · refine ⟨rfl, ?_⟩
      unfold wk1
      rw [ja_set hl, if_pos rfl]
      exact ⟨rfl, rfl, jbN_d _ _ _, .inl hs⟩
/-- the budget of blocking -/
structure BkOk (L : List Ta) (s : Ms) (i : Nat) (b : Int) : Prop where
  pos : 0 ≤ b
  le : ∀ y, IsBk L s i y → tkA L y (s.ja y).p - (s.ja y).t ≤ b
theorem BkOk.start (hm : MOk R s) (hr : RnOk R) (hi : i < R.L.length) : BkOk R.L s i (blockN R.L i) :=
  ⟨(blockN_bd hr.r i).1, fun y h => by have := h.ticks hm hi; omega⟩
theorem BkOk.of {b : Int} (h : BkOk R.L s i b) (e : ∀ y, y < R.L.length → ((s'.ja y).p = (s.ja y).p ∧ (s'.ja y).t = (s.ja y).t) ∨ s'.ja y = Jb.zero) : BkOk R.L s' i b :=
  ⟨h.pos, fun y hy => by
    rcases e y hy.lt with ⟨e1, e2⟩ | e1
    · have := h.le y (hy.of2 e1 e2)
      rw [e1, e2]; exact this
    · have := hy.ins
      rw [ins_zero e1] at this; cases this⟩
/-- a tick of work, not behind i -/
theorem BkOk.fore {b : Int} {t : Int} (h : BkOk R.L s i b) (hm : MOk R s) (hy : y < R.L.length) (hc : cnt R.L y ≤ cnt R.L i) : BkOk R.L (wkA R t y s) i b :=
  ⟨h.pos, fun z hz => by
    have hne : z ≠ y := fun e => by have := hz.bh; rw [e] at this; omega
    have e := (wkA_other (t := t) hm hy hne).1
    have := h.le z (hz.of e)
    rw [e]; exact this⟩
/-- a tick of work behind i -/
theorem BkOk.back {b : Int} {t : Int} (h : BkOk R.L s i b) (hm : MOk R s) (hb : IsBk R.L s i y) : BkOk R.L (wkA R t y s) i (b - 1) := by
  have hy := hb.lt
  have h1 := h.le y hb
  have h2 := hm.tk y hy
  refine ⟨by omega, fun z hz => ?_⟩
  by_cases e : z = y
  · subst e
    rcases wkA_self (t := t) hm hy with ⟨_, e1, _⟩ | ⟨_, _, e1, e2, _⟩
    · have := hz.ins
      rw [ins_zero e1] at this; cases this
    · rw [e1, e2]
      have h3 := (insB_iff.1 hz.ins).1
      rw [e2] at h3
      unfold jbN at h3 ⊢
      split
      · rename_i q
        rw [if_pos q] at h3
        exact absurd h3 (Nat.lt_irrefl 0)
      · show tkA R.L z (s.ja z).p - (((s.ja z).t + 1 : Nat) : Int) ≤ b - 1
        omega
  · have e1 := (wkA_other (t := t) hm hy e).1
    exact absurd ((hz.of e1).one hb hm) e
end
/-- arrivals leave what has been done, or end jobs -/
theorem arr_ja {R : Rn} (hr : RnOk R) {t : Int} {s : Ms} (hm : MOk R s) (k : Nat) : (((arrA R t s).ja k).p = (s.ja k).p ∧ ((arrA R t s).ja k).t = (s.ja k).t) ∨ (arrA R t s).ja k = Jb.zero := by
  have hsig : ∀ (gs : List P2) {s : Ms}, MOk R s → (∀ g ∈ gs, 0 ≤ g.2 ∧ g.2 < R.L.length) → ((sigA t gs s).ja k).p = (s.ja k).p ∧ ((sigA t gs s).ja k).t = (s.ja k).t := by
    intro gs
    induction gs with
    | nil => exact fun _ _ => ⟨rfl, rfl⟩
    | cons g gs ih =>
      intro s hm hg
      obtain ⟨h1, h2⟩ := ih (hm.sigS t (hg g (by simp))) (fun x hx => hg x (by simp [hx]))
      rw [sigA, h1, h2]
      unfold sigS; split
      · unfold sig1
        have := hg g (by simp)
        rw [ja_set (by rw [hm.jl]; omega)]
        split
        · rename_i e; subst e; exact ⟨rfl, rfl⟩
        · exact ⟨rfl, rfl⟩
      · exact ⟨rfl, rfl⟩
  have hend : ∀ (f i : Nat) {s : Ms}, MOk R s → i + f = R.L.length → (endA R.L t f i s).ja k = s.ja k ∨ (endA R.L t f i s).ja k = Jb.zero := by
    intro f
    induction f with
    | zero => exact fun i s _ _ => .inl rfl
    | succ f ih =>
      intro i s hm e
      rw [endA]
      rcases ih (i + 1) (hm.endS hr t (by omega : i < R.L.length)) (by omega) with h | h
      · rw [h]
        unfold endS; split
        · rw [fin_ja (by rw [hm.jl]; omega)]
          split
          · exact .inr rfl
          · exact .inl rfl
        · exact .inl rfl
      · exact .inr h
  unfold arrA
  rcases hend R.L.length 0 (MOk.sigA t R.sg (hm.relA hr t) hr.sg) (by omega) with h | h
  · left
    rw [h]
    obtain ⟨h1, h2⟩ := hsig R.sg (hm.relA hr t) hr.sg
    rw [h1, h2, relA_ja hr hm]
    exact ⟨rfl, rfl⟩
  · exact .inr h
end Go.Proofs.Ytlhnhmimhpcoaaa
namespace Go.Proofs.Ytlhnhmimhpcoaaa
open Go.RowKit
set_option linter.unusedSimpArgs false
set_option linter.unusedVariables false
/-- events as far apart as the pattern says -/
def sparse (g j : Int) : Int → List P2 → Bool
  | _, [] => true
  | least, x :: xs => if x.1 < least ∨ j < x.2 then false else sparse g j (x.1 + g) xs
def cN (from_ til : Int) : List P2 → Int
  | [] => 0
  | x :: xs => (if from_ ≤ x.1 + x.2 ∧ x.1 + x.2 < til then 1 else 0) + cN from_ til xs
theorem cN_nonneg (from_ til : Int) : ∀ xs : List P2, 0 ≤ cN from_ til xs
  | [] => by simp [cN]
  | x :: xs => by have := cN_nonneg from_ til xs; rw [cN]; split <;> omega
theorem cN_bound {g j from_ til : Int} (hg : 1 ≤ g) : ∀ (xs : List P2) (l : Int), (∀ e ∈ xs, 0 ≤ e.2) → sparse g j l xs = true → 1 ≤ cN from_ til xs →
    l + (cN from_ til xs - 1) * g ≤ til - 1 ∧ from_ - j + (cN from_ til xs - 1) * g ≤ til - 1
  | [], _, _, _, h => by simp [cN] at h
  | x :: xs, l, hf, ha, h => by
    have b3 := hf x (by simp)
    unfold sparse at ha
    split at ha
    · simp at ha
    · rename_i h1
      have ih := cN_bound (from_ := from_) (til := til) hg xs (x.1 + g) (fun e he => hf e (by simp [he])) ha
      have hn := cN_nonneg from_ til xs
      rw [cN] at h ⊢
      by_cases hc : from_ ≤ x.1 + x.2 ∧ x.1 + x.2 < til
      · rw [if_pos hc] at h ⊢
        by_cases h0 : cN from_ til xs = 0
        · rw [h0]; constructor <;> simp <;> omega
        · have := ih (by omega)
          have e : (1 + cN from_ til xs - 1) * g = g + (cN from_ til xs - 1) * g := by
            rw [Int.sub_mul, Int.sub_mul, Int.add_mul]; omega
          rw [e]; omega
      · rw [if_neg hc] at h ⊢
        have := ih (by omega)
        simp only [Int.zero_add]
        omega
theorem cN_most {g j from_ win : Int} (hg : 1 ≤ g) (hj : 0 ≤ j) (hw : 0 ≤ win) (xs : List P2) (l : Int) (hf : ∀ e ∈ xs, 0 ≤ e.2) (ha : sparse g j l xs = true) : cN from_ (from_ + win) xs ≤ mostN g j win := by
  have hn := cN_nonneg from_ (from_ + win) xs
  by_cases h0 : cN from_ (from_ + win) xs = 0
  · rw [h0]; unfold mostN; split
    · omega
    · have := Int.ediv_nonneg (show 0 ≤ win - 1 + j by omega) (show 0 ≤ g by omega); omega
  · have hb := cN_bound hg xs l hf ha (show 1 ≤ cN from_ (from_ + win) xs by omega)
    by_cases hz : win = 0
    · exfalso
      subst hz
      have : ∀ ys : List P2, cN from_ (from_ + 0) ys = 0 := by
        intro ys
        induction ys with
        | nil => rfl
        | cons y ys ih => rw [cN, ih, if_neg (by omega)]; rfl
      exact h0 (this xs)
    · rw [mostN, if_neg hz]
      have := (Int.le_ediv_iff_mul_le (show 0 < g by omega)).2 (show (cN from_ (from_ + win) xs - 1) * g ≤ win - 1 + j by omega)
      omega
def cP (l : List P2) (t : Int) : Nat := l.countP (fun e => decide (e.1 + e.2 ≤ t))
theorem cN_cP {from_ til : Int} (h : from_ ≤ til) : ∀ l : List P2, cN from_ til l = (cP l (til - 1) : Int) - (cP l (from_ - 1) : Int)
  | [] => by simp [cN, cP]
  | x :: xs => by
    have ih := cN_cP h xs
    unfold cP at ih ⊢
    rw [cN, List.countP_cons, List.countP_cons, ih]
    by_cases h1 : x.1 + x.2 ≤ til - 1
    · by_cases h2 : x.1 + x.2 ≤ from_ - 1
      · rw [if_neg (by omega), if_pos (by simpa using h1), if_pos (by simpa using h2)]; omega
      · rw [if_pos (by omega), if_pos (by simpa using h1), if_neg (by simpa using h2)]; omega
    · rw [if_neg (by omega), if_neg (by simpa using h1), if_neg (by simp; omega)]; omega
theorem range_count (p : P2 → Bool) : ∀ l : List P2, (List.range l.length).countP (fun k => p ((l[k]?).getD default)) = l.countP p
  | [] => rfl
  | x :: xs => by
    rw [List.length_cons, List.range_succ_eq_map, List.countP_cons, List.countP_map, List.countP_cons, ← range_count p xs]
    congr 1
theorem outE_cP (l : List P2) (t : Int) : (outE l t).length = cP l t := by
  unfold outE
  rw [((ordE_perm l).filter _).length_eq, ← List.countP_eq_length_filter]
  unfold idxs cP
  rw [List.countP_map, ← range_count]
  congr 1
/-- the ticks of a job -/
theorem costP_app : ∀ (a b : List P2), costP (a ++ b) = costP a + costP b
  | [], b => by simp [costP]
  | x :: a, b => by rw [List.cons_append, costP, costP, costP_app a b]; omega
theorem costP_take {ps : List P2} {p : Nat} (h : p < ps.length) : costP (ps.take (p + 1)) = costP (ps.take p) + ((ps[p]?).getD default).1 := by
  rw [List.take_add_one, costP_app, List.getElem?_eq_getElem h]
  simp [costP]
theorem costP_split {ps : List P2} {p : Nat} (h : p < ps.length) : costP ps = costP (ps.take p) + ((ps[p]?).getD default).1 + costP (ps.drop (p + 1)) := by
  have h1 := costP_app (ps.take p) (ps.drop p)
  rw [List.take_append_drop] at h1
  have h2 := costP_drop (List.getElem?_eq_getElem h)
  rw [h1, h2, List.getElem?_eq_getElem h]
  simp; omega
/-- nobody has been told til end; the ticks done are those of the pieces -/
structure Qt (R : Rn) (s : Ms) : Prop where
  s_ : ∀ i, i < R.L.length → (s.ja i).s = false
  d : ∀ i, i < R.L.length → ((s.ja i).d : Int) = costP ((taAt R.L i).pcs.take (s.ja i).p) + (s.ja i).t
/-- a run that nothing disturbs -/
structure Fair (R : Rn) : Prop where
  sg : R.sg = []
  bu : ∀ i, i < R.L.length → (R.bu[i]?).getD 0 = 0 ∨ costT (taAt R.L i) ≤ (R.bu[i]?).getD 0
  ev : ∀ i, i < R.L.length → sparse (taAt R.L i).gap (taAt R.L i).jit (taAt R.L i).first (evA R i) = true
section
variable {R : Rn} {s : Ms}
theorem Qt.lt (h : Qt R s) (hm : MOk R s) (hr : RnOk R) {i : Nat} (hi : i < R.L.length) : ((s.ja i).d : Int) < costT (taAt R.L i) := by
  have h1 := h.d i hi
  have hp := hm.pc i hi
  have h2 := hm.tk i hi
  have h3 := costP_split hp
  have h4 := costP_bd ((taAt R.L i).pcs.drop ((s.ja i).p + 1)) (fun p q => (hr.r.piece _ (ta_mem hi) p (List.mem_of_mem_drop q)).1)
  unfold tkA pcA at h2
  unfold costT
  omega
theorem endA_quiet (t : Int) : ∀ (f i : Nat) (s : Ms), (∀ k, k < i + f → (s.ja k).s = false) → endA R.L t f i s = s
  | 0, _, _, _ => rfl
  | f + 1, i, s, h => by
    rw [endA]
    have e : endS R.L t i s = s := by
      unfold endS
      rw [if_neg]
      rintro ⟨_, h2, _⟩
      rw [h i (by omega)] at h2; cases h2
    rw [e]
    exact endA_quiet t f (i + 1) s (fun k hk => h k (by omega))
theorem arr_quiet (hr : RnOk R) (hm : MOk R s) (hf : Fair R) (h : Qt R s) (t : Int) : arrA R t s = relA t 0 R.ev s := by
  unfold arrA
  rw [hf.sg, sigA]
  exact endA_quiet t _ _ _ (fun k hk => by rw [relA_ja hr hm]; exact h.s_ k (by omega))
theorem Qt.rel (hr : RnOk R) (hm : MOk R s) (h : Qt R s) (t : Int) : Qt R (relA t 0 R.ev s) :=
  ⟨fun i hi => by rw [relA_ja hr hm]; exact h.s_ i hi, fun i hi => by rw [relA_ja hr hm]; exact h.d i hi⟩
/-- what a tick of work leaves of the job's ticks -/
theorem Qt.next (h : Qt R s) (hm : MOk R s) {y : Nat} (hy : y < R.L.length) : ((s.ja y).d : Int) + 1 = costP ((taAt R.L y).pcs.take (jbN R.L y (s.ja y)).p) + (jbN R.L y (s.ja y)).t := by
  have h1 := h.d y hy
  have hp := hm.pc y hy
  unfold jbN
  split
  · rename_i e
    have := costP_take hp
    unfold tkA pcA at e
    show _ = costP ((taAt R.L y).pcs.take ((s.ja y).p + 1)) + ((0 : Nat) : Int)
    omega
  · show _ = costP ((taAt R.L y).pcs.take (s.ja y).p) + (((s.ja y).t + 1 : Nat) : Int)
    omega
theorem jbN_tk (hm : MOk R s) (hr : RnOk R) {y : Nat} (hy : y < R.L.length) (hp : (jbN R.L y (s.ja y)).p < (taAt R.L y).pcs.length) : ((jbN R.L y (s.ja y)).t : Int) < tkA R.L y (jbN R.L y (s.ja y)).p := by
  have h2 := hm.tk y hy
  have h5 := (pc_lim hr.r hy hp).1.1
  unfold jbN at h5 hp ⊢
  split
  · rename_i hx
    rw [if_pos hx] at h5
    show ((0 : Nat) : Int) < _
    simp only [] at h5
    exact Int.lt_of_lt_of_le (by omega) h5
  · rename_i hx
    show (((s.ja y).t + 1 : Nat) : Int) < tkA R.L y (s.ja y).p
    omega
theorem Qt.work (h : Qt R s) (hr : RnOk R) (hm : MOk R s) (hf : Fair R) {y : Nat} (hy : y < R.L.length) (t : Int) : Qt R (wkA R t y s) := by
  have hnx := h.next hm hy
  have key : (wkA R t y s).ja y = Jb.zero ∨ ((((wkA R t y s).ja y).s = false) ∧ (((wkA R t y s).ja y).d : Int) = costP ((taAt R.L y).pcs.take ((wkA R t y s).ja y).p) + ((wkA R t y s).ja y).t) := by
    rcases wkA_self (t := t) hm hy with ⟨_, e, _⟩ | ⟨hp, _, e1, e2, e3, e4⟩
    · exact .inl e
    · right
      rw [e1, e2, e3]
      refine ⟨?_, by omega⟩
      rcases e4 with e4 | e4
      · rw [e4]; exact h.s_ y hy
      · exfalso
        have h2 := jbN_tk hm hr hy hp
        have h3 := costP_split hp
        have h4 := costP_bd ((taAt R.L y).pcs.drop ((jbN R.L y (s.ja y)).p + 1)) (fun p q => (hr.r.piece _ (ta_mem hy) p (List.mem_of_mem_drop q)).1)
        unfold tkA pcA at h2
        have hb := hf.bu y hy
        unfold costT at hb
        rw [← e4] at hb
        omega
  refine ⟨fun i hi => ?_, fun i hi => ?_⟩
  · by_cases e : i = y
    · subst e
      rcases key with k | k
      · rw [k]; rfl
      · exact k.1
    · rw [(wkA_other (t := t) hm hy e).1]; exact h.s_ i hi
  · by_cases e : i = y
    · subst e
      rcases key with k | k
      · rw [k]; show ((0 : Nat) : Int) = costP ((taAt R.L i).pcs.take 0) + ((0 : Nat) : Int); simp [costP]
      · exact k.2
    · rw [(wkA_other (t := t) hm hy e).1]; exact h.d i hi
theorem Qt.tick (h : Qt R s) (hr : RnOk R) (hm : MOk R s) (hf : Fair R) (t : Int) : Qt R (tckB R t s) := by
  unfold tckB
  split
  · exact ⟨h.s_, h.d⟩
  · split
    · rename_i hc
      exact h.work hr hm hf (chosen_of hm hc).lt t
    · exact h
theorem ms0_ja (n i : Nat) : (ms0 n).ja i = Jb.zero := by
  unfold Ms.ja ms0; simp only [List.getElem?_replicate]; split <;> rfl
theorem ms0_qa (n i : Nat) : (ms0 n).qa i = [] := by
  unfold Ms.qa ms0; simp only [List.getElem?_replicate]; split <;> rfl
theorem plM_qt (hr : RnOk R) (hf : Fair R) : ∀ k, Qt R (plM R k)
  | 0 => ⟨fun i _ => by show ((ms0 R.L.length).ja i).s = false; rw [ms0_ja]; rfl, fun i _ => by
    show (((ms0 R.L.length).ja i).d : Int) = costP ((taAt R.L i).pcs.take ((ms0 R.L.length).ja i).p) + ((ms0 R.L.length).ja i).t
    rw [ms0_ja]; show ((0 : Nat) : Int) = costP ((taAt R.L i).pcs.take 0) + ((0 : Nat) : Int); simp [costP]⟩
  | k + 1 => by
    have h := plM_qt hr hf k
    have hm := plM_ok hr k
    rw [plM, tckA, arr_quiet hr hm hf h]
    exact (h.rel hr hm _).tick hr (hm.relA hr _) hf _
/-- the work that is left of a task -/
def leftI (L : List Ta) (s : Ms) (k : Int) : Int := ((s.qa k.toNat).length : Int) * costT (taAt L k) - ((s.ja k.toNat).d : Int)
def rcA (R : Rn) (k t : Int) : Int := ((outE (evA R k.toNat) t).length : Int)
/-- nothing is there of i and those ahead -/
def Idle (R : Rn) (i : Nat) (s : Ms) : Prop := ∀ x, x < R.L.length → cnt R.L x ≤ cnt R.L i → s.qa x = []
def accL (L : List Ta) (i : Nat) : List Int := aheadL L i ++ [(i : Int)]
theorem accL_mem {L : List Ta} {i : Nat} (hi : i < L.length) {x : Nat} : (x : Int) ∈ accL L i ↔ x < L.length ∧ cnt L x ≤ cnt L i := by
  unfold accL
  rw [List.mem_append, aheadL_mem, aheadB_iff]
  constructor
  · rintro (⟨⟨_, h1⟩, h2⟩ | h)
    · exact ⟨by omega, Nat.le_of_lt ((cnt_ahead (by omega) h1 (by omega) (by omega)).2 h2)⟩
    · have e : x = i := by simp at h; omega
      subst e; exact ⟨hi, Nat.le_refl _⟩
  · rintro ⟨h1, h2⟩
    by_cases e : x = i
    · right; simp [e]
    · left
      refine ⟨⟨by omega, by omega⟩, (cnt_ahead (by omega) (by omega) (by omega) (by omega)).1 ?_⟩
      rcases Nat.lt_or_ge (cnt L x) (cnt L i) with h | h
      · exact h
      · have := cnt_inj (L := L) (x := (x : Int)) (y := (i : Int)) (by omega) (by omega) (by omega) (by omega) (by omega)
        omega
theorem accL_int {L : List Ta} {i : Nat} (hi : i < L.length) {k : Int} (h : k ∈ accL L i) : ∃ x : Nat, k = (x : Int) ∧ x < L.length ∧ cnt L x ≤ cnt L i := by
  have h0 : 0 ≤ k := by
    unfold accL at h
    rw [List.mem_append, aheadL_mem] at h
    rcases h with h | h
    · omega
    · simp at h; omega
  obtain ⟨x, rfl⟩ := Int.eq_ofNat_of_zero_le h0
  exact ⟨x, rfl, (accL_mem hi).1 h⟩
theorem accL_nodup {L : List Ta} {i : Nat} : (accL L i).Nodup := by
  unfold accL
  rw [List.nodup_append]
  refine ⟨(idxs_nodup _).filter _, by simp, ?_⟩
  intro a ha b hb e
  subst e
  simp at hb
  subst hb
  have := (aheadL_mem.1 ha).2
  exact ahead_irr _ (aheadB_iff.1 this)
theorem leftI_rel (hr : RnOk R) (hm : MOk R s) (t : Int) (x : Nat) : leftI R.L (relA t 0 R.ev s) (x : Int) = leftI R.L s (x : Int) + (rcA R x t - rcA R x (t - 1)) * costT (taAt R.L x) := by
  obtain ⟨_, _, h3⟩ := relA_spec t R.ev 0 s (by rw [hm.ql, hr.ev]; omega)
  unfold leftI rcA
  rw [Int.toNat_natCast, h3 x, if_pos (Nat.zero_le _), Nat.sub_zero, relA_ja hr hm, outE_step (evA R x) t]
  unfold evA
  rw [List.length_append, List.length_append]
  simp only [Int.natCast_add, Int.add_mul, Int.sub_mul]
  omega
theorem leftI_other {t : Int} (hm : MOk R s) {y x : Nat} (hy : y < R.L.length) (h : x ≠ y) : leftI R.L (wkA R t y s) (x : Int) = leftI R.L s (x : Int) := by
  obtain ⟨h1, h2⟩ := wkA_other (t := t) hm hy h
  unfold leftI
  rw [Int.toNat_natCast, h1, h2]
theorem leftI_self {t : Int} (hm : MOk R s) (h : Qt R s) {y : Nat} (hy : y < R.L.length) (hq : s.qa y ≠ []) : leftI R.L (wkA R t y s) (y : Int) = leftI R.L s (y : Int) + (-1) := by
  have hnx := h.next hm hy
  unfold leftI
  rw [Int.toNat_natCast]
  rcases wkA_self (t := t) hm hy with ⟨e0, e1, e2⟩ | ⟨hp, e1, _, _, e3, _⟩
  · rw [e1, e2, List.length_tail]
    have hl : 1 ≤ (s.qa y).length := by
      rcases Nat.eq_zero_or_pos (s.qa y).length with q | q
      · exact absurd (List.eq_nil_of_length_eq_zero q) hq
      · exact q
    have ht : (jbN R.L y (s.ja y)).t = 0 := by
      have hp := hm.pc y hy
      unfold jbN at e0 ⊢
      split
      · rfl
      · rename_i q
        rw [if_neg q] at e0
        simp only [] at e0
        omega
    rw [e0, List.take_length, ht] at hnx
    have e4 : costP (taAt R.L y).pcs = costT (taAt R.L y) := rfl
    rw [e4] at hnx
    have e5 : (((s.qa y).length - 1 : Nat) : Int) = ((s.qa y).length : Int) - 1 := by omega
    rw [e5, Int.sub_mul]
    show _ - ((0 : Nat) : Int) = _
    omega
  · rw [e1, e3]; omega
theorem leftI_pos (hr : RnOk R) (hm : MOk R s) (h : Qt R s) {x : Nat} (hx : x < R.L.length) : 0 ≤ leftI R.L s (x : Int) ∧ (leftI R.L s (x : Int) ≤ 0 → s.qa x = []) := by
  have h1 := h.lt hm hr hx
  unfold leftI
  rw [Int.toNat_natCast]
  rcases Nat.eq_zero_or_pos (s.qa x).length with q | q
  · have hq := List.eq_nil_of_length_eq_zero q
    have := hm.rd x hx hq
    rw [this, q]
    exact ⟨by simp [Jb.zero], fun _ => hq⟩
  · have h2 := Int.mul_le_mul_of_nonneg_right (show (1 : Int) ≤ ((s.qa x).length : Int) by omega) (show 0 ≤ costT (taAt R.L x) by omega)
    rw [Int.one_mul] at h2
    exact ⟨by omega, fun h => by omega⟩
theorem diffS_mod {F S w : Int} (hF : 0 < F) (t : Nat) : diffS F S w t = diffS F S w ((t : Int) % F).toNat := by
  have h0 := Int.emod_nonneg (t : Int) (show F ≠ 0 by omega)
  have e := Int.emod_add_mul_ediv (t : Int) F
  unfold diffS
  rw [Int.toNat_of_nonneg h0]
  have e1 : (t : Int) = (t : Int) % F + ((t : Int) / F) * F := by rw [Int.mul_comm]; omega
  have h1 := aheadS_period (S := S) hF ((t : Int) % F + w) ((t : Int) / F)
  have h2 := aheadS_period (S := S) hF ((t : Int) % F) ((t : Int) / F)
  have e2 : (t : Int) % F + w + (t : Int) / F * F = (t : Int) + w := by omega
  rw [e2] at h1
  rw [← e1] at h2
  omega
end
end Go.Proofs.Ytlhnhmimhpcoaaa
namespace Go.Proofs.Ytlhnhmimhpcoaaa
open Go.RowKit
set_option linter.unusedSimpArgs false
set_option linter.unusedVariables false
theorem sumL_zeros : ∀ ks : List Int, sumL (fun _ => 0) ks = 0
  | [] => rfl
  | k :: ks => by rw [sumL, sumL_zeros ks]; rfl
section
variable {R : Rn} {i : Nat}
theorem idle_left {s : Ms} (hm : MOk R s) (h0 : Idle R i s) (hi : i < R.L.length) : sumL (leftI R.L s) (accL R.L i) = 0 := by
  rw [sumL_eq (g := fun _ => 0) _ (fun k hk => ?_), sumL_zeros]
  obtain ⟨x, rfl, hx, hc⟩ := accL_int hi hk
  have hq := h0 x hx hc
  have hj := hm.rd x hx hq
  unfold leftI
  rw [Int.toNat_natCast, hq, hj]
  simp [Jb.zero]
theorem idle_tick {t : Int} {s : Ms} (hm : MOk R s) (h0 : Idle R i s) : Idle R i (tckB R t s) := by
  intro x hx hc
  have hq := h0 x hx hc
  unfold tckB
  split
  · exact hq
  · split
    · rename_i hcm
      have hch := chosen_of hm hcm
      have hne : x ≠ (chM R.L s).toNat := fun e => hch.rd (by rw [← e]; exact hq)
      rw [(wkA_other (t := t) hm hch.lt hne).2]; exact hq
    · exact hq
/-- what a tick does with what is left, while somebody not behind i is there -/
theorem cyc_tick (hr : RnOk R) (hs : 0 ≤ R.sl ∧ R.sl < R.fr) (hi : i < R.L.length) {t : Nat} {s : Ms} (hm : MOk R s) (hq : Qt R s) {x : Nat} (hx : x < R.L.length) (hxq : s.qa x ≠ []) (hxc : cnt R.L x ≤ cnt R.L i) {b : Int} (hb : BkOk R.L s i b) :
    ∃ b', BkOk R.L (tckB R t s) i b' ∧ sumL (leftI R.L (tckB R t s)) (accL R.L i) + b' + aheadS R.fr R.sl ((t : Int) + 1) = sumL (leftI R.L s) (accL R.L i) + b + aheadS R.fr R.sl t := by
  have hst := aheadS_step hs.1 hs.2 t
  unfold tckB
  by_cases hg : (t : Int) % R.fr < R.sl
  · rw [if_pos hg]
    rw [if_neg (by omega)] at hst
    refine ⟨b, hb.of (fun y _ => .inl ⟨rfl, rfl⟩), ?_⟩
    have : sumL (leftI R.L (s.wr ⟨(t : Int), -1, 3, 0, 0⟩)) (accL R.L i) = sumL (leftI R.L s) (accL R.L i) := sumL_eq _ (fun k _ => rfl)
    rw [this, hst]; omega
  · rw [if_neg hg]
    rw [if_pos (by omega)] at hst
    obtain ⟨h1, h2, h3, h4⟩ := chM_spec R.L s
    have hc := (h3 x hx hxq).1
    rw [if_pos hc]
    have hch := chosen_of hm hc
    obtain ⟨y, hy⟩ : ∃ y, (chM R.L s).toNat = y := ⟨_, rfl⟩
    rw [hy] at hch ⊢
    by_cases hya : cnt R.L y ≤ cnt R.L i
    · refine ⟨b, hb.fore hm hch.lt hya, ?_⟩
      have hmem : (y : Int) ∈ accL R.L i := (accL_mem hi).2 ⟨hch.lt, hya⟩
      have := sumL_upd (f := leftI R.L s) (g := leftI R.L (wkA R t y s)) (y := (y : Int)) (d := -1) _ accL_nodup hmem (leftI_self hm hq hch.lt hch.rd) (fun k hk hne => by
        obtain ⟨z, rfl, _, _⟩ := accL_int hi hk
        exact leftI_other hm hch.lt (by omega))
      rw [this, hst]; omega
    · have hbk := hch.blk hm hx hxq hxc (by omega)
      refine ⟨b - 1, hb.back hm hbk, ?_⟩
      have : sumL (leftI R.L (wkA R t y s)) (accL R.L i) = sumL (leftI R.L s) (accL R.L i) := sumL_eq _ (fun k hk => by
        obtain ⟨z, rfl, _, hz⟩ := accL_int hi hk
        exact leftI_other hm hch.lt (fun e => hya (by rw [← e]; exact hz)))
      rw [this, hst]; omega
theorem cyc (hr : RnOk R) (hf : Fair R) (hs : 0 ≤ R.sl ∧ R.sl < R.fr) (hi : i < R.L.length) {t0 : Nat} (h0 : Idle R i (plM R t0)) : ∀ m : Nat, (∀ u, t0 < u → u ≤ t0 + m → ¬ Idle R i (plM R u)) →
    ∃ b, BkOk R.L (plM R (t0 + m)) i b ∧ sumL (leftI R.L (plM R (t0 + m))) (accL R.L i) + b + (aheadS R.fr R.sl ((t0 : Int) + m) - aheadS R.fr R.sl t0) = blockN R.L i + sumL (fun k => (rcA R k ((t0 : Int) + m - 1) - rcA R k ((t0 : Int) - 1)) * costT (taAt R.L k)) (accL R.L i)
  | 0, _ => by
    refine ⟨blockN R.L i, BkOk.start (plM_ok hr _) hr hi, ?_⟩
    rw [Nat.add_zero, idle_left (plM_ok hr _) h0 hi, sumL_eq (f := fun k => (rcA R k ((t0 : Int) + (0 : Nat) - 1) - rcA R k ((t0 : Int) - 1)) * costT (taAt R.L k)) (g := fun _ => 0) _ (fun k _ => by simp), sumL_zeros]
    simp
  | m + 1, hno => by
    obtain ⟨b, h1, h2⟩ := cyc hr hf hs hi h0 m (fun u a c => hno u a (by omega))
    have hm := plM_ok hr (t0 + m)
    have hq := plM_qt hr hf (t0 + m)
    have ha := arr_quiet hr hm hf hq ((t0 + m : Nat) : Int)
    have hm1 := hm.relA hr ((t0 + m : Nat) : Int)
    have hq1 := hq.rel hr hm ((t0 + m : Nat) : Int)
    have hpl : plM R (t0 + (m + 1)) = tckB R ((t0 + m : Nat) : Int) (relA ((t0 + m : Nat) : Int) 0 R.ev (plM R (t0 + m))) := by
      rw [show t0 + (m + 1) = t0 + m + 1 by omega, plM, tckA, ha]
    have hn := hno (t0 + (m + 1)) (by omega) (by omega)
    rw [hpl] at hn ⊢
    obtain ⟨s1, hs1⟩ : ∃ s1, relA ((t0 + m : Nat) : Int) 0 R.ev (plM R (t0 + m)) = s1 := ⟨_, rfl⟩
    have hb1 : BkOk R.L s1 i b := by rw [← hs1]; exact h1.of (fun y _ => .inl (by rw [relA_ja hr hm]; exact ⟨rfl, rfl⟩))
    have hleft : sumL (leftI R.L s1) (accL R.L i) = sumL (leftI R.L (plM R (t0 + m))) (accL R.L i) + sumL (fun k => (rcA R k ((t0 + m : Nat) : Int) - rcA R k (((t0 + m : Nat) : Int) - 1)) * costT (taAt R.L k)) (accL R.L i) := by
      rw [← sumL_add]
      refine sumL_eq _ (fun k hk => ?_)
      obtain ⟨x, rfl, _, _⟩ := accL_int hi hk
      rw [← hs1]; exact leftI_rel hr hm _ x
    rw [hs1] at hm1 hq1 hn ⊢
    have hex : ∃ x, x < R.L.length ∧ cnt R.L x ≤ cnt R.L i ∧ s1.qa x ≠ [] := by
      apply Classical.byContradiction
      intro hne
      exact hn (idle_tick hm1 (fun x hx hc => Classical.byContradiction fun q => hne ⟨x, hx, hc, q⟩))
    obtain ⟨x, hx, hc, hxq⟩ := hex
    obtain ⟨b', h3, h4⟩ := cyc_tick hr hs hi (t := t0 + m) hm1 hq1 hx hxq hc hb1
    refine ⟨b', h3, ?_⟩
    have hsum : sumL (fun k => (rcA R k ((t0 : Int) + ((m + 1 : Nat) : Int) - 1) - rcA R k ((t0 : Int) - 1)) * costT (taAt R.L k)) (accL R.L i) = sumL (fun k => (rcA R k ((t0 + m : Nat) : Int) - rcA R k (((t0 + m : Nat) : Int) - 1)) * costT (taAt R.L k)) (accL R.L i) + sumL (fun k => (rcA R k ((t0 : Int) + m - 1) - rcA R k ((t0 : Int) - 1)) * costT (taAt R.L k)) (accL R.L i) := by
      rw [← sumL_add]
      refine sumL_eq _ (fun k _ => ?_)
      rw [show (t0 : Int) + ((m + 1 : Nat) : Int) - 1 = ((t0 + m : Nat) : Int) by omega, show (t0 : Int) + m - 1 = ((t0 + m : Nat) : Int) - 1 by omega, ← Int.add_mul]
      congr 1; omega
    rw [hsum]
    rw [show (t0 : Int) + ((m + 1 : Nat) : Int) = ((t0 + m : Nat) : Int) + 1 by omega]
    rw [show (t0 : Int) + (m : Int) = ((t0 + m : Nat) : Int) by omega] at h2
    rw [show (t0 : Int) + (m : Int) - 1 = ((t0 + m : Nat) : Int) - 1 by omega]
    omega
theorem rc_le (hr : RnOk R) (hf : Fair R) (hv : ValidT R.L) {x : Nat} (hx : x < R.L.length) (t0 W : Nat) : rcA R x ((t0 : Int) + W - 1) - rcA R x ((t0 : Int) - 1) ≤ mostN (taAt R.L x).gap (taAt R.L x).jit W := by
  have hev : x < R.ev.length := by rw [hr.ev]; exact hx
  have hel := (hr.el (evA R x) (by unfold evA; rw [List.getElem?_eq_getElem hev]; exact List.getElem_mem hev)).2
  have hm := ta_mem hx
  have h1 := cN_most (from_ := (t0 : Int)) (win := (W : Int)) (hv.gap _ hm).1 (hv.jit _ hm).1 (by omega) (evA R x) _ (fun e he => (hel e he).2.1) (hf.ev x hx)
  rw [cN_cP (by omega)] at h1
  unfold rcA
  rw [Int.toNat_natCast, outE_cP, outE_cP]
  exact h1
/-- from a moment without work of i and those ahead, there is another one within the window -/
theorem idle_next (hr : RnOk R) (hf : Fair R) (hv : ValidT R.L) (hs : 0 ≤ R.sl ∧ R.sl < R.fr) (hi : i < R.L.length) {W : Nat} (hW : 1 ≤ W) (hd : demN R.L i W ≤ leastN R.fr R.sl W) (hj : (taAt R.L i).jit + W ≤ (taAt R.L i).gap) {t0 : Nat} (h0 : Idle R i (plM R t0)) :
    ∃ u, t0 < u ∧ u ≤ t0 + W ∧ Idle R i (plM R u) := by
  apply Classical.byContradiction
  intro hne
  have hno : ∀ u, t0 < u → u ≤ t0 + W → ¬ Idle R i (plM R u) := fun u h1 h2 h3 => hne ⟨u, h1, h2, h3⟩
  obtain ⟨b, h1, h2⟩ := cyc hr hf hs hi h0 W hno
  have hb := h1.pos
  have hF : 0 < R.fr := by omega
  have hr0 := Int.emod_nonneg (t0 : Int) (show R.fr ≠ 0 by omega)
  have hr1 := Int.emod_lt_of_pos (t0 : Int) hF
  have hsup : leastN R.fr R.sl W ≤ aheadS R.fr R.sl ((t0 : Int) + W) - aheadS R.fr R.sl t0 := by
    have h3 := (isLeast hs.1 hs.2 W).le ((t0 : Int) % R.fr).toNat (by omega)
    rw [← diffS_mod hF] at h3
    exact h3
  have hown : mostN (taAt R.L i).gap (taAt R.L i).jit W = 1 := by
    have hm := ta_mem hi
    have g1 := (hv.gap _ hm).1
    have g2 := (hv.jit _ hm).1
    unfold mostN
    rw [if_neg (by omega), Int.ediv_eq_zero_of_lt (by omega) (by omega)]
    rfl
  have hcost : ∀ x, x < R.L.length → 0 ≤ costT (taAt R.L x) := fun x hx => by have := (costT_bd hr.r (ta_mem hx)).1; omega
  have hdem : sumL (fun k => (rcA R k ((t0 : Int) + W - 1) - rcA R k ((t0 : Int) - 1)) * costT (taAt R.L k)) (accL R.L i) + blockN R.L i ≤ demN R.L i W := by
    have hle := sumL_le (f := fun k => (rcA R k ((t0 : Int) + W - 1) - rcA R k ((t0 : Int) - 1)) * costT (taAt R.L k)) (g := fun k => demT (taAt R.L k) W) (accL R.L i) (fun k hk => by
      obtain ⟨x, rfl, hx, _⟩ := accL_int hi hk
      exact Int.mul_le_mul_of_nonneg_right (rc_le hr hf hv hx t0 W) (hcost x hx))
    have e : sumL (fun k => demT (taAt R.L k) W) (accL R.L i) = sumL (fun k => demT (taAt R.L k) W) (aheadL R.L i) + costT (taAt R.L i) := by
      unfold accL
      rw [sumL_app]
      have : demT (taAt R.L (i : Int)) W = costT (taAt R.L i) := by unfold demT; rw [hown, Int.one_mul]
      simp only [sumL, this]; omega
    unfold demN
    rw [demL_sum]
    unfold ownN
    omega
  have hpos : ∀ k ∈ accL R.L i, 0 ≤ leftI R.L (plM R (t0 + W)) k := fun k hk => by
    obtain ⟨x, rfl, hx, _⟩ := accL_int hi hk
    exact (leftI_pos hr (plM_ok hr _) (plM_qt hr hf _) hx).1
  have hz := (sumL_zero _ hpos).2 (by omega)
  refine hno (t0 + W) (by omega) (Nat.le_refl _) (fun x hx hc => ?_)
  exact (leftI_pos hr (plM_ok hr _) (plM_qt hr hf _) hx).2 (hz _ ((accL_mem hi).2 ⟨hx, hc⟩))
theorem idle_after (hr : RnOk R) (hf : Fair R) (hv : ValidT R.L) (hs : 0 ≤ R.sl ∧ R.sl < R.fr) (hi : i < R.L.length) {W : Nat} (hW : 1 ≤ W) (hd : demN R.L i W ≤ leastN R.fr R.sl W) (hj : (taAt R.L i).jit + W ≤ (taAt R.L i).gap) (r : Nat) : ∃ u, r < u ∧ u ≤ r + W ∧ Idle R i (plM R u) := by
  have key : ∀ (d t0 : Nat), r - t0 ≤ d → t0 ≤ r → Idle R i (plM R t0) → ∃ u, r < u ∧ u ≤ r + W ∧ Idle R i (plM R u) := by
    intro d
    induction d with
    | zero =>
      intro t0 h1 h2 h0
      obtain ⟨u, g1, g2, g3⟩ := idle_next hr hf hv hs hi hW hd hj h0
      exact ⟨u, by omega, by omega, g3⟩
    | succ d ih =>
      intro t0 h1 h2 h0
      obtain ⟨u, g1, g2, g3⟩ := idle_next hr hf hv hs hi hW hd hj h0
      by_cases hu : r < u
      · exact ⟨u, hu, by omega, g3⟩
      · exact ih u (by omega) (by omega) g3
  exact key r 0 (by omega) (Nat.zero_le _) (fun x _ _ => by show (ms0 R.L.length).qa x = []; exact ms0_qa _ _)
end
end Go.Proofs.Ytlhnhmimhpcoaaa
namespace Go.Proofs.Ytlhnhmimhpcoaaa
open Go.RowKit
set_option linter.unusedSimpArgs false
set_option linter.unusedVariables false
/-- the task whose rank a piece has -/
def raisA (L : List Ta) (y p : Nat) : Int := if 0 ≤ lkA L y p then ceilG L (lkA L y p) else y
/-- task x is ahead of the work of piece p of task y -/
def AheadW (L : List Ta) (x y p : Nat) : Prop := x < L.length ∧ cnt L x < cnt L y ∧ cnt L x < cnt L (raisA L y p)
structure RkI (R : Rn) (s : Ms) : Prop where
  h : ∀ e ∈ s.o, e.w = 4 → ∀ y p : Nat, e.k = (y : Int) → e.a = (p : Int) → ∀ x k : Nat, AheadW R.L x y p → k < (evA R x).length → relT (evA R x) k ≤ e.m → 0 ≤ endF s.o x k ∧ endF s.o x k ≤ e.m
theorem RkI.of {R : Rn} {s s' : Ms} (h : RkI R s) {l : List En} (ho : s'.o = s.o ++ l) (h5 : ∀ e ∈ l, e.w ≠ 5 ∧ e.w ≠ 4) : RkI R s' := by
  have he : ∀ i x, endF s'.o i x = endF s.o i x := fun i x => by rw [ho]; exact endF_app _ _ _ _ (fun e q r => (h5 e q).1 r.1)
  refine ⟨fun e q w4 y p hy hp x k ha hk hr => ?_⟩
  rw [he]
  rw [ho, List.mem_append] at q
  rcases q with q | q
  · exact h.h e q w4 y p hy hp x k ha hk hr
  · exact absurd w4 (h5 e q).2
theorem RkI.fin {R : Rn} {T : Int} {s : Ms} {at_ : List Nat} (h : RkI R s) (hE : EI R T s at_) {i a : Nat} {how : Int} (hi : i < R.L.length) (ha : at_[i]? = some a) (hx : (ordE (evA R i))[a]? = some (s.hd i)) : RkI R (fin1 T i how s) := by
  have ho : (fin1 T i how s).o = s.o ++ [⟨T, i, 5, s.hd i, how⟩] := rfl
  refine ⟨fun e q w4 y p hy hp x k hA hk hr => ?_⟩
  rw [ho, List.mem_append] at q
  rcases q with q | q
  · have h0 := h.h e q w4 y p hy hp x k hA hk hr
    have e1 : endF (fin1 T i how s).o x k = endF s.o x k := by
      rw [ho, endF_one]
      unfold endG
      rw [if_neg]
      rintro ⟨_, h1, h2⟩
      simp only [] at h1 h2
      have : i = x := by omega
      subst this
      have := hE.new i a a _ ha hx (Nat.le_refl _)
      rw [h2] at this
      omega
    rw [e1]; exact h0
  · simp at q; subst q; simp at w4
theorem ahead_idle {R : Rn} {s : Ms} {y : Nat} (hm : MOk R s) (hch : Chosen R s y) {x : Nat} (hA : AheadW R.L x y (s.ja y).p) : s.qa x = [] := by
  obtain ⟨hx, h1, h2⟩ := hA
  by_cases hq : s.qa x = []
  · exact hq
  · exfalso
    have hk := hch.le x hx hq
    have hto := (hm.to_ hx).2
    unfold keyI at hk
    have ho : ownI R.L s x ≤ 1 := by unfold ownI; split <;> omega
    have hle : cnt R.L (toI R.L s y) ≤ cnt R.L x := by omega
    cases hc : insB R.L s y
    · rw [toI_no hc] at hle; omega
    · have hl := (insB_iff.1 hc).2
      have e : toI R.L s y = raisA R.L y (s.ja y).p := by
        unfold toI raisA
        rw [hc, if_pos hl]; rfl
      rw [e] at hle; omega
theorem idle_ends {R : Rn} {t T : Int} {s : Ms} {at_ : List Nat} (hq : QR R t s at_) (hE : EI R T s at_) {x k : Nat} (hx : x < R.L.length) (h0 : s.qa x = []) (hk : k < (evA R x).length) (hr : relT (evA R x) k ≤ t) : 0 ≤ endF s.o x k ∧ endF s.o x k ≤ T := by
  have hil : x < at_.length := by rw [hq.len]; exact hx
  have ha := List.getElem?_eq_getElem hil
  obtain ⟨j, hj⟩ := List.getElem?_of_mem (ordE_mem (l := evA R x).2 ⟨show (0 : Int) ≤ (k : Int) by omega, by omega⟩)
  obtain ⟨g1, g2⟩ := hq.q x _ ha
  rw [h0] at g1
  have h2 := congrArg List.length g1
  rw [List.length_drop] at h2
  simp only [List.length_nil] at h2
  have hlt := ((outE_facts (evA R x) t).2 j _ hj).1 hr
  exact hE.old x _ j _ ha hj (by omega)
theorem RkI.work {R : Rn} {t : Int} {s : Ms} {at_ : List Nat} {i a : Nat} (h : RkI R s) (hE : EI R t s at_) (hm : MOk R s) (hq : QR R t s at_) (hch : Chosen R s i) (ha : at_[i]? = some a) : RkI R (wk1 R t i s) := by
  have ho : (wk1 R t i s).o = s.o ++ [⟨t, i, 4, (s.ja i).p, s.hd i⟩] := rfl
  refine ⟨fun e q w4 y p hy hp x k hA hk hr => ?_⟩
  have e1 : endF (wk1 R t i s).o x k = endF s.o x k := by rw [ho]; exact endF_app _ _ _ _ (fun e q r => by simp at q; subst q; simp at r)
  rw [e1]
  rw [ho, List.mem_append] at q
  rcases q with q | q
  · exact h.h e q w4 y p hy hp x k hA hk hr
  · simp at q; subst q
    simp only [] at hy hp hr ⊢
    obtain rfl : i = y := by omega
    obtain rfl : (s.ja i).p = p := by omega
    exact idle_ends hq hE hA.1 (ahead_idle hm hch hA) hk hr
theorem rk_steps {R : Rn} (hr : RnOk R) : Steps R (fun t s at_ => EI R t s at_ ∧ RkI R s) (fun t s at_ => EI R (t + 1) s at_ ∧ RkI R s) := by
  have hE := ends_steps hr
  refine ⟨?_, ?_, ?_, ?_, ?_, ?_, ?_, ?_⟩
  · intro t s at_ hm hq hp
    obtain ⟨l, h1, h2⟩ := relA_newE t R.ev 0 s
    exact ⟨hE.rel t s at_ hm hq hp.1, hp.2.of h1 (fun e q => by rw [(h2 e q).2]; decide)⟩
  · intro t s at_ i hm hq hi hn hp
    exact ⟨hE.sig t s at_ i hm hq hi hn hp.1, hp.2.of (l := [⟨t, i, 2, 0, 0⟩]) rfl (fun e q => by simp at q; subst q; simp)⟩
  · intro t s at_ i a hm hq hi hn ha hs hin hp
    exact ⟨hE.fin t s at_ i a hm hq hi hn ha hs hin hp.1, hp.2.fin hp.1 hi ha (hq.event ha hn)⟩
  · intro t s at_ hm hq hs hg hp
    exact ⟨hE.gc t s at_ hm hq hs hg hp.1, hp.2.of (l := [⟨t, -1, 3, 0, 0⟩]) rfl (fun e q => by simp at q; subst q; simp)⟩
  · intro t s at_ hm hq hs hg hn hp
    exact ⟨hE.idle t s at_ hm hq hs hg hn hp.1, hp.2⟩
  · intro t s at_ i a hm hq hs hg hch ha hfin hp
    refine ⟨hE.w0 t s at_ i a hm hq hs hg hch ha hfin hp.1, ?_⟩
    have h1 := hp.1.work hm hq hch ha
    exact (hp.2.work hp.1 hm hq hch ha).fin (s := wk1 R t i s) h1 hch.lt ha (hq.event ha hch.rd)
  · intro t s at_ i a hm hq hs hg hch ha hpl hbu hp
    exact ⟨hE.w1 t s at_ i a hm hq hs hg hch ha hpl hbu hp.1, hp.2.work hp.1 hm hq hch ha⟩
  · intro t s at_ i a hm hq hs hg hch ha hpl hbu hp
    refine ⟨hE.w2 t s at_ i a hm hq hs hg hch ha hpl hbu hp.1, ?_⟩
    exact (hp.2.work hp.1 hm hq hch ha).of (s' := wk2 R t i s) (l := [⟨t + 1, i, 6, s.hd i, 0⟩]) rfl (fun e q => by simp at q; subst q; simp)
theorem plM_rk {R : Rn} (hr : RnOk R) (k : Nat) : RkI R (plM R k) := by
  obtain ⟨at_, _, h1, h2⟩ := (rk_steps hr).run hr ⟨EI.zero hr, ⟨fun e q => by simp [ms0] at q⟩⟩ k
  exact h2
/-- those ahead of both, as the law takes them from the ranks -/
theorem ranks_before {L : List Ta} {i : Nat} {x : Int} (hx : (rankL L)[i]? = some x) {y r : Int} (hy0 : 0 ≤ y ∧ y < L.length) (hr0 : 0 ≤ r ∧ r < L.length) (h : ∀ j, j ≤ i → (rankL L)[j]? ≠ some r ∧ (rankL L)[j]? ≠ some y) : cnt L x < cnt L y ∧ cnt L x < cnt L r := by
  have e := rank_cnt hx
  have ey := rank_at hy0.1 hy0.2
  have er := rank_at hr0.1 hr0.2
  constructor
  · rcases Nat.lt_or_ge (cnt L x) (cnt L y) with q | q
    · exact q
    · exact absurd ey (h _ (by omega)).2
  · rcases Nat.lt_or_ge (cnt L x) (cnt L r) with q | q
    · exact q
    · exact absurd er (h _ (by omega)).1
end Go.Proofs.Ytlhnhmimhpcoaaa
namespace Go.Proofs.Ytlhnhmimhpcoaaa
open Go.RowKit
set_option linter.unusedSimpArgs false
set_option linter.unusedVariables false
theorem bcost_is {t : Ta} {pa : Option Addr} {pn pc : Nat} {x : Int} {w : World} (hp : Rd w pa pn 2 (t.pcs.map enc2)) (hv : ∀ q ∈ t.pcs, 1 ≤ q.1 ∧ q.1 ≤ 200) (hn : pn ≤ 8) (h : costT t = x) :
    Calls Try.prog 90 #[.agg #[.int .i64 t.pri, .int .i64 t.dl, .int .i64 t.first, .int .i64 t.gap, .int .i64 t.jit, .slice pa pn pc]] w fun e w' => e = .returned (.int .i64 x) ∧ Below w.heap.size w w' := by
  subst h; exact cost_any _ _ _ _ _ pa pn pc t.pcs w hp hv hn
theorem rcost_is {t : Ta} {pa : Option Addr} {pn pc : Nat} {x : Int} {w : World} (hp : Rd w pa pn 2 (t.pcs.map enc2)) (hv : ∀ q ∈ t.pcs, 1 ≤ q.1 ∧ q.1 ≤ 200) (hn : pn ≤ 8) (h : costT t = x) :
    Calls Try.prog 92 #[.agg #[.int .i64 t.pri, .int .i64 t.dl, .int .i64 t.first, .int .i64 t.gap, .int .i64 t.jit, .slice pa pn pc]] w fun e w' => e = .returned (.int .i64 x) ∧ Below w.heap.size w w' := by
  subst h; exact rcost_any _ _ _ _ _ pa pn pc t.pcs w hp hv hn
theorem Blocking_is {a : Option Addr} {n c : Nat} {L : List Ta} {t x e : Int} {w : World} (hL : RdL w a n L) (h : blkgR L t = (x, e)) :
    Calls Try.prog 36 #[.slice a n c, .int .i64 t] w fun en w' => en = rII x e ∧ Below w.heap.size w w' := by
  have := Blocking_any a n c L t w hL
  rw [h] at this; exact this
/-- a task's cells, in every later world -/
theorem RdL.cells {w : World} {a : Option Addr} {n : Nat} {L : List Ta} (h : RdL w a n L) (k : Nat) (hk : k < n) : ∃ (t : Ta) (b off : Nat) (pa : Option Addr) (pn pc : Nat), a = some ⟨b, off, none⟩ ∧ b < w.heap.size ∧ L[k]? = some t ∧ t.pcs.length = pn ∧ Hid (∀ wx : World, Below w.heap.size w wx →
    wx.cell? ⟨b, off + k * 6, none⟩ = some (.int .i64 t.pri) ∧ wx.cell? ⟨b, off + k * 6 + 1, none⟩ = some (.int .i64 t.dl) ∧ wx.cell? ⟨b, off + k * 6 + 2, none⟩ = some (.int .i64 t.first) ∧ wx.cell? ⟨b, off + k * 6 + 3, none⟩ = some (.int .i64 t.gap) ∧
    wx.cell? ⟨b, off + k * 6 + 4, none⟩ = some (.int .i64 t.jit) ∧ wx.cell? ⟨b, off + k * 6 + 5, none⟩ = some (.slice pa pn pc) ∧ b < wx.heap.size ∧ Rd wx pa pn 2 (t.pcs.map enc2)) := by
  obtain ⟨t, b, off, pa, pn, pc, rfl, hb, c0, c1, c2, c3, c4, c5, hp, _, hg, _⟩ := h.at_ k hk
  exact ⟨t, b, off, pa, pn, pc, rfl, hb, hg, hp.length, fun wx h => ⟨(h.cell (p := ⟨b, off + k * 6, none⟩) hb).trans c0, (h.cell (p := ⟨b, off + k * 6 + 1, none⟩) hb).trans c1, (h.cell (p := ⟨b, off + k * 6 + 2, none⟩) hb).trans c2, (h.cell (p := ⟨b, off + k * 6 + 3, none⟩) hb).trans c3, (h.cell (p := ⟨b, off + k * 6 + 4, none⟩) hb).trans c4, (h.cell (p := ⟨b, off + k * 6 + 5, none⟩) hb).trans c5, Nat.lt_of_lt_of_le hb h.size, hp.ext h⟩⟩
def inT (L : List Ta) (t : Int) : Bool := inB t 0 ((L.length : Int) - 1)
def costR (L : List Ta) (t : Int) : Int × Int := if validL L && inT L t then (costT (taAt L t), 0) else (0, 1)
theorem inT_iff {L : List Ta} {t : Int} : inT L t = true ↔ 0 ≤ t ∧ t < L.length := by unfold inT; rw [inB_iff]; omega
set_option maxHeartbeats 1000000 in
theorem Cost_any (a : Option Addr) (n c : Nat) (L : List Ta) (t : Int) (w : World) (hL : RdL w a n L) :
    Calls Try.prog 53 #[.slice a n c, .int .i64 t] w fun e w' => e = rII (costR L t).1 (costR L t).2 ∧ Below w.heap.size w w' := by
  have hll := hL.length
  have hsm := hL.small
  have HR := Lib.hid hL
  unfold costR inT
  rw [hll]
  cases ho : validL L
  · have HO := Lib.hid ho
    rw [Bool.false_and]
    clear hL hll ho
    go_enter Try.func53, Try.ntmps53
    go_wp2_with (go_at_call 56; (with_reducible refine (valid_is HR.out HO.out).mono ?_); rintro e w1 ⟨rfl, hb1⟩; have B1 := Lib.hid hb1; clear hb1)
    go_ret2
    exact ⟨rII_eq rfl rfl, B1.out⟩
  · have HO := Lib.hid ho
    rw [Bool.true_and]
    by_cases h0 : t < 0
    · rw [if_neg (by rw [inB_iff]; omega)]
      clear hL hll ho
      go_enter Try.func53, Try.ntmps53
      go_wp2_with (go_at_call 56; (with_reducible refine (valid_is HR.out HO.out).mono ?_); rintro e w1 ⟨rfl, hb1⟩; have B1 := Lib.hid hb1; clear hb1)
      go_ret2
      exact ⟨rII_eq rfl rfl, B1.out⟩
    · have h0' : decide (t < 0) = false := by simpa using h0
      by_cases h1 : (n : Int) ≤ t
      · rw [if_neg (by rw [inB_iff]; omega)]
        clear hL hll ho
        go_enter Try.func53, Try.ntmps53
        go_wp2_with (go_at_call 56; (with_reducible refine (valid_is HR.out HO.out).mono ?_); rintro e w1 ⟨rfl, hb1⟩; have B1 := Lib.hid hb1; clear hb1)
        go_ret2
        exact ⟨rII_eq rfl rfl, B1.out⟩
      · rw [if_pos (by rw [inB_iff]; omega)]
        obtain ⟨q, rfl⟩ := Int.eq_ofNat_of_zero_le (Int.not_lt.1 h0)
        have hq : q < n := by omega
        have h1' : decide ((n : Int) ≤ (q : Int)) = false := by simpa using h1
        have h1'' : decide (n ≤ q) = false := by simp; omega
        have hv := valid_of ho
        obtain ⟨u, b, off, pa, pn, pc, rfl, hb, hg, hpl, HK⟩ := hL.cells q hq
        have hum := List.mem_of_getElem? hg
        have hpn := hv.r.pcs u hum
        rw [hpl] at hpn
        have HPV : Hid (∀ p ∈ u.pcs, 1 ≤ p.1 ∧ p.1 ≤ 200) := Lib.hid (fun p hp => (hv.r.piece u hum p hp).1)
        obtain ⟨ct, hct⟩ : ∃ x, costT u = x := ⟨_, rfl⟩
        have HCT := Lib.hid hct
        rw [taAt_of hg, hct]
        clear hL hll ho hv hum hg hpl hct
        go_enter Try.func53, Try.ntmps53
        go_wp2_with (first | (go_at_call 56; (with_reducible refine (valid_is HR.out HO.out).mono ?_); rintro e w1 ⟨rfl, hb1⟩; have B1 := Lib.hid hb1; obtain ⟨k0, k1, k2, k3, k4, k5, hbw, hpp⟩ := HK.out w1 hb1; have HPP := Lib.hid hpp; clear hpp; clear hb1) | (go_at_call 90; (with_reducible refine (bcost_is HPP.out HPV.out hpn.2 HCT.out).mono ?_); rintro e w2 ⟨rfl, hb2⟩; have B2 := Lib.hid hb2; clear hb2))
        go_ret2
        exact ⟨rII_eq rfl rfl, (by repeat (first | (with_reducible exact Below.refl _ _) | (refine Below.then ?_ (Hid.out (by with_reducible assumption)))))⟩
theorem Cost_is {a : Option Addr} {n c : Nat} {L : List Ta} {t x e : Int} {w : World} (hL : RdL w a n L) (h : costR L t = (x, e)) :
    Calls Try.prog 53 #[.slice a n c, .int .i64 t] w fun en w' => en = rII x e ∧ Below w.heap.size w w' := by
  have := Cost_any a n c L t w hL
  rw [h] at this; exact this
set_option maxHeartbeats 1000000 in
theorem rCost_any (a : Option Addr) (n c : Nat) (L : List Ta) (t : Int) (w : World) (hL : RdL w a n L) :
    Calls Try.prog 55 #[.slice a n c, .int .i64 t] w fun e w' => e = rII (costR L t).1 (costR L t).2 ∧ Below w.heap.size w w' := by
  have hll := hL.length
  have hsm := hL.small
  have HR := Lib.hid hL
  unfold costR inT
  rw [hll]
  cases ho : validL L
  · have HO := Lib.hid ho
    rw [Bool.false_and]
    clear hL hll ho
    go_enter Try.func55, Try.ntmps55
    go_wp2_with (go_at_call 50; (with_reducible refine (rValid_is HR.out HO.out).mono ?_); rintro e w1 ⟨rfl, hb1⟩; have B1 := Lib.hid hb1; clear hb1)
    go_ret2
    exact ⟨rII_eq rfl rfl, B1.out⟩
  · have HO := Lib.hid ho
    rw [Bool.true_and]
    by_cases h0 : t < 0
    · rw [if_neg (by rw [inB_iff]; omega)]
      clear hL hll ho
      go_enter Try.func55, Try.ntmps55
      go_wp2_with (go_at_call 50; (with_reducible refine (rValid_is HR.out HO.out).mono ?_); rintro e w1 ⟨rfl, hb1⟩; have B1 := Lib.hid hb1; clear hb1)
      go_ret2
      exact ⟨rII_eq rfl rfl, B1.out⟩
    · have h0' : decide (t < 0) = false := by simpa using h0
      by_cases h1 : (n : Int) ≤ t
      · rw [if_neg (by rw [inB_iff]; omega)]
        clear hL hll ho
        go_enter Try.func55, Try.ntmps55
        go_wp2_with (go_at_call 50; (with_reducible refine (rValid_is HR.out HO.out).mono ?_); rintro e w1 ⟨rfl, hb1⟩; have B1 := Lib.hid hb1; clear hb1)
        go_ret2
        exact ⟨rII_eq rfl rfl, B1.out⟩
      · rw [if_pos (by rw [inB_iff]; omega)]
        obtain ⟨q, rfl⟩ := Int.eq_ofNat_of_zero_le (Int.not_lt.1 h0)
        have hq : q < n := by omega
        have h1' : decide ((n : Int) ≤ (q : Int)) = false := by simpa using h1
        have h1'' : decide (n ≤ q) = false := by simp; omega
        have hv := valid_of ho
        obtain ⟨u, b, off, pa, pn, pc, rfl, hb, hg, hpl, HK⟩ := hL.cells q hq
        have hum := List.mem_of_getElem? hg
        have hpn := hv.r.pcs u hum
        rw [hpl] at hpn
        have HPV : Hid (∀ p ∈ u.pcs, 1 ≤ p.1 ∧ p.1 ≤ 200) := Lib.hid (fun p hp => (hv.r.piece u hum p hp).1)
        obtain ⟨ct, hct⟩ : ∃ x, costT u = x := ⟨_, rfl⟩
        have HCT := Lib.hid hct
        rw [taAt_of hg, hct]
        clear hL hll ho hv hum hg hpl hct
        go_enter Try.func55, Try.ntmps55
        go_wp2_with (first | (go_at_call 50; (with_reducible refine (rValid_is HR.out HO.out).mono ?_); rintro e w1 ⟨rfl, hb1⟩; have B1 := Lib.hid hb1; obtain ⟨k0, k1, k2, k3, k4, k5, hbw, hpp⟩ := HK.out w1 hb1; have HPP := Lib.hid hpp; clear hpp; clear hb1) | (go_at_call 92; (with_reducible refine (rcost_is HPP.out HPV.out hpn.2 HCT.out).mono ?_); rintro e w2 ⟨rfl, hb2⟩; have B2 := Lib.hid hb2; clear hb2))
        go_ret2
        exact ⟨rII_eq rfl rfl, (by repeat (first | (with_reducible exact Below.refl _ _) | (refine Below.then ?_ (Hid.out (by with_reducible assumption)))))⟩
theorem rCost_is {a : Option Addr} {n c : Nat} {L : List Ta} {t x e : Int} {w : World} (hL : RdL w a n L) (h : costR L t = (x, e)) :
    Calls Try.prog 55 #[.slice a n c, .int .i64 t] w fun en w' => en = rII x e ∧ Below w.heap.size w w' := by
  have := rCost_any a n c L t w hL
  rw [h] at this; exact this
end Go.Proofs.Ytlhnhmimhpcoaaa
namespace Go.Proofs.Ytlhnhmimhpcoaaa
open Go.RowKit
set_option linter.unusedSimpArgs false
set_option linter.unusedVariables false
def buA (R : Rn) (i : Nat) : Int := (R.bu[i]?).getD 0
/-- does task i allow its events, and is its budget enough? -/
def mayB (R : Rn) (i : Nat) : Bool := allowGo (taAt R.L i).gap (taAt R.L i).jit (taAt R.L i).first (evA R i)
def lowB (R : Rn) (i : Nat) : Bool := decide (0 < buA R i) && decide (buA R i < costT (taAt R.L i))
def alwF (R : Rn) : Nat → Nat → Bool
  | 0, _ => decide (R.sg.length = 0)
  | f + 1, i => if mayB R i = true ∧ lowB R i = false then alwF R f (i + 1) else false
def alwR (R : Rn) : Bool × Int := if runB R = true then (alwF R R.L.length 0, 0) else (false, 1)
theorem may_is {R : Rn} (hr : RnOk R) (hv : ValidT R.L) {i : Nat} (hi : i < R.L.length) : allowR (taAt R.L i).first (taAt R.L i).gap (taAt R.L i).jit (evA R i) = (mayB R i, 0) := by
  have hev : i < R.ev.length := by rw [hr.ev]; exact hi
  have hel := hr.el (evA R i) (by unfold evA; rw [List.getElem?_eq_getElem hev]; exact List.getElem_mem hev)
  have h0 : listE (evA R i) = 0 := by
    unfold listE
    rw [if_neg, if_neg (by omega)]
    intro h
    rw [List.any_eq_true] at h
    obtain ⟨e, he, hf⟩ := h
    have := hel.2 e he
    simp only [farB, Bool.or_eq_true, Bool.not_eq_true'] at hf
    rcases hf with hf | hf
    · rw [show inB e.1 0 1000000 = true by rw [inB_iff]; exact this.1] at hf; cases hf
    · rw [show inB e.2 0 1000000 = true by rw [inB_iff]; exact this.2] at hf; cases hf
  unfold allowR mayB
  rw [if_pos (hv.vp _ (ta_mem hi)), if_pos h0]
theorem cost_is {R : Rn} (hvl : validL R.L = true) {i : Nat} (hi : i < R.L.length) : costR R.L i = (costT (taAt R.L i), 0) := by
  unfold costR
  rw [hvl, show inT R.L (i : Int) = true by rw [inT_iff]; omega]; rfl
set_option maxRecDepth 100000 in
set_option maxHeartbeats 4000000 in
theorem Allowed_any (H : RunH) (R : Rn) (w : World) (hR : ReadRun w H R) : Calls Try.prog 20 #[runV H R.fr R.sl] w fun e w' => e = rBP (alwR R) ∧ Below w.heap.size w w' := by
  have HV := Lib.hid (fun w1 (hb : Below w.heap.size w w1) => Valid_run H R w1 (hR.ext hb))
  unfold alwR
  obtain ⟨B, hB⟩ : ∃ B, runB R = B := ⟨_, rfl⟩
  rw [hB] at HV ⊢
  cases B
  · obtain ⟨fr, hfr⟩ : ∃ x, R.fr = x := ⟨_, rfl⟩
    obtain ⟨sl_, hsl⟩ : ∃ x, R.sl = x := ⟨_, rfl⟩
    rw [hfr, hsl] at HV ⊢
    obtain ⟨tA, tN, tC, eA, eN, eC, bA, bN, bC, sA, sN, sC⟩ := H
    unfold runV at HV ⊢
    simp only [] at HV ⊢
    clear hR hB hfr hsl
    go_enter Try.func20, Try.ntmps20
    go_wp2_with (go_at_call 22; (with_reducible refine (HV.out _ (by (repeat' (first | (with_reducible exact Below.refl _ _) | (with_reducible assumption) | (with_reducible refine Below.alloc ?_ ?_ _) | (with_reducible refine Below.drew ?_) | (with_reducible refine Below.draws ?_ _) | (with_reducible refine Below.setCell ?_ ?_ _) | (refine Below.then ?_ (by with_reducible assumption)) | go_size)))).mono ?_); rintro e w1 ⟨rfl, hb1⟩; have B1 : Hid (Below w.heap.size w w1) := Lib.hid (Below.trans (by (repeat' (first | (with_reducible exact Below.refl _ _) | (with_reducible assumption) | (with_reducible refine Below.alloc ?_ ?_ _) | (with_reducible refine Below.drew ?_) | (with_reducible refine Below.draws ?_ _) | (with_reducible refine Below.setCell ?_ ?_ _) | (refine Below.then ?_ (by with_reducible assumption)) | go_size))) (hb1.mono (by simp))); have z1 : w.heap.size < w1.heap.size := Nat.lt_of_lt_of_le (by simp) hb1.size; have c1_0 := (hb1.cell (p := ⟨w.heap.size, 0, none⟩) (by simp)).trans (by simp [go_sem]; rfl); have c1_1 := (hb1.cell (p := ⟨w.heap.size, 1, none⟩) (by simp)).trans (by simp [go_sem]; rfl); have c1_2 := (hb1.cell (p := ⟨w.heap.size, 2, none⟩) (by simp)).trans (by simp [go_sem]; rfl); have c1_3 := (hb1.cell (p := ⟨w.heap.size, 3, none⟩) (by simp)).trans (by simp [go_sem]; rfl); have c1_4 := (hb1.cell (p := ⟨w.heap.size, 4, none⟩) (by simp)).trans (by simp [go_sem]; rfl); have c1_5 := (hb1.cell (p := ⟨w.heap.size, 5, none⟩) (by simp)).trans (by simp [go_sem]; rfl); clear hb1)
    go_ret2
    exact ⟨rfl, B1.out⟩
  · rw [if_pos rfl]
    obtain ⟨hr, hvl, _⟩ := run_ok hB
    have hv := valid_of hvl
    obtain ⟨A, hA⟩ : ∃ A, alwF R R.L.length 0 = A := ⟨_, rfl⟩
    rw [hA]
    have HR := Lib.hid hR.rd; have HRN := Lib.hid hr; have HVL := Lib.hid hvl; have HVT := Lib.hid hv
    have hen := hR.rd.e.len
    have htn := hR.rd.t.length
    have hbn := hR.rd.b.length
    have hsn := hR.rd.s.length
    have hL5 := hr.r.len
    have hev := hr.ev
    have hbu := hr.bu
    obtain ⟨nL, hnL⟩ : ∃ x, R.L.length = x := ⟨_, rfl⟩
    have HNL := Lib.hid hnL
    have heN : H.eN = nL := by omega
    have htN : H.tN = nL := by omega
    have hbN : H.bN = nL := by omega
    have hn5 : nL ≤ 5 := by omega
    rw [hnL] at hA
    have HA0 : Hid (alwF R (nL - 0) 0 = A) := Lib.hid hA
    have hs40 := hr.sl
    have HSN := Lib.hid hsn
    obtain ⟨fr, hfr⟩ : ∃ x, R.fr = x := ⟨_, rfl⟩
    obtain ⟨sl_, hsl⟩ : ∃ x, R.sl = x := ⟨_, rfl⟩
    rw [hfr, hsl] at HV ⊢
    obtain ⟨tA, tN, tC, eA, eN, eC, bA, bN, bC, sA, sN, sC⟩ := H
    unfold runV at HV ⊢
    simp only [] at HV HR heN htN hbN HSN hsn ⊢
    subst heN; subst htN; subst hbN
    have hsN : sN ≤ 40 := by omega
    clear hR hB hfr hsl hnL hr hvl hv hA hen htn hbn hsn hL5 hev hbu hs40
    go_enter Try.func20, Try.ntmps20
    go_wp2_with (go_at_call 22; (with_reducible refine (HV.out _ (by (repeat' (first | (with_reducible exact Below.refl _ _) | (with_reducible assumption) | (with_reducible refine Below.alloc ?_ ?_ _) | (with_reducible refine Below.drew ?_) | (with_reducible refine Below.draws ?_ _) | (with_reducible refine Below.setCell ?_ ?_ _) | (refine Below.then ?_ (by with_reducible assumption)) | go_size)))).mono ?_); rintro e w1 ⟨rfl, hb1⟩; have B1 : Hid (Below w.heap.size w w1) := Lib.hid (Below.trans (by (repeat' (first | (with_reducible exact Below.refl _ _) | (with_reducible assumption) | (with_reducible refine Below.alloc ?_ ?_ _) | (with_reducible refine Below.drew ?_) | (with_reducible refine Below.draws ?_ _) | (with_reducible refine Below.setCell ?_ ?_ _) | (refine Below.then ?_ (by with_reducible assumption)) | go_size))) (hb1.mono (by simp))); have z1 : w.heap.size < w1.heap.size := Nat.lt_of_lt_of_le (by simp) hb1.size; have c1_0 := (hb1.cell (p := ⟨w.heap.size, 0, none⟩) (by simp)).trans (by simp [go_sem]; rfl); have c1_1 := (hb1.cell (p := ⟨w.heap.size, 1, none⟩) (by simp)).trans (by simp [go_sem]; rfl); have c1_2 := (hb1.cell (p := ⟨w.heap.size, 2, none⟩) (by simp)).trans (by simp [go_sem]; rfl); have c1_3 := (hb1.cell (p := ⟨w.heap.size, 3, none⟩) (by simp)).trans (by simp [go_sem]; rfl); have c1_4 := (hb1.cell (p := ⟨w.heap.size, 4, none⟩) (by simp)).trans (by simp [go_sem]; rfl); have c1_5 := (hb1.cell (p := ⟨w.heap.size, 5, none⟩) (by simp)).trans (by simp [go_sem]; rfl); clear hb1)
    go_loopw [17] (fun v wr => ∃ i : Nat, i ≤ bN ∧ v = .int .i64 i ∧ alwF R (bN - i) i = A ∧ Below w1.heap.size w1 wr) (fun v _ => bN - (intOf v).toNat)
    case atStart => exact ⟨0, Nat.zero_le _, rfl, HA0.out, Below.refl _ _⟩
    case round =>
      clear HA0
      obtain ⟨i, hi, rfl, hA, hB⟩ := hrel
      have HB := Lib.hid hB
      have d0 := (hB.cell (p := ⟨w.heap.size, 0, none⟩) z1).trans c1_0
      have d3 := (hB.cell (p := ⟨w.heap.size, 3, none⟩) z1).trans c1_3
      have d4 := (hB.cell (p := ⟨w.heap.size, 4, none⟩) z1).trans c1_4
      have d5 := (hB.cell (p := ⟨w.heap.size, 5, none⟩) z1).trans c1_5
      have zz := Nat.lt_of_lt_of_le z1 hB.size
      by_cases hin : i < bN
      · have hiL : i < R.L.length := by rw [HNL.out]; exact hin
        rw [show bN - i = (bN - (i + 1)) + 1 by omega, alwF] at hA
        have hBW := B1.out.trans (hB.mono B1.out.size)
        obtain ⟨vb, vo, ea, en, ec, rfl, hvb, hvc, hRd⟩ := HR.out.e.at_ i hin
        obtain ⟨u, tb, toff, pa, pn, pc, rfl, htb, hg, _, HK⟩ := HR.out.t.cells i hin
        have hu : taAt R.L i = u := taAt_of hg
        obtain ⟨bu, bb, bo, rfl, hbb, hbc, hbx⟩ := HR.out.b.idx i hin
        have hbu : buA R i = bu := by unfold buA; rw [hbx]; rfl
        have hmay := may_is HRN.out HVT.out hiL
        have hcost := cost_is HVL.out hiL
        rw [hu] at hmay hcost
        obtain ⟨MB, hMB⟩ : ∃ x, mayB R i = x := ⟨_, rfl⟩
        obtain ⟨ct, hct⟩ : ∃ x, costT u = x := ⟨_, rfl⟩
        rw [hMB] at hmay hA
        rw [hct] at hcost
        unfold lowB at hA
        rw [hbu, hu, hct] at hA
        have HAL := Lib.hid (fun (wz : World) (hz : Below w.heap.size w wz) => (by have := allowed_any u.first u.gap u.jit ea en ec wz (evA R i) (hRd.ext hz); rw [hmay] at this; exact this : Calls Try.prog 52 #[patV u.first u.gap u.jit, .slice ea en ec] wz fun e w' => e = rBP (MB, 0) ∧ Below wz.heap.size wz w'))
        have HCO := Lib.hid (fun (wz : World) (hz : Below w.heap.size w wz) => Cost_is (c := tC) (HR.out.t.ext hz) hcost)
        simp only [] at HAL HCO
        have hvc' := (hBW.cell (p := ⟨vb, vo + i, none⟩) hvb).trans hvc
        have hbc' := (hBW.cell (p := ⟨bb, bo + i, none⟩) hbb).trans hbc
        obtain ⟨_, _, q2, q3, q4, _, htz, _⟩ := HK.out wr hBW
        have hvz := Nat.lt_of_lt_of_le hvb hBW.size
        have hbz := Nat.lt_of_lt_of_le hbb hBW.size
        have HF : Hid (∀ wz, Below wr.heap.size wr wz → wz.cell? ⟨w.heap.size, 0, none⟩ = some (.slice (some ⟨tb, toff, none⟩) bN tC) ∧ wz.cell? ⟨w.heap.size, 4, none⟩ = some (.slice (some ⟨bb, bo, none⟩) bN bC) ∧ wz.cell? ⟨bb, bo + i, none⟩ = some (.int .i64 bu)) := Lib.hid (fun wz hz => ⟨keep_c hz d0, keep_c hz d4, keep_c hz hbc'⟩)
        have HBW := Lib.hid hBW
        clear hB hBW hRd hg hu hbx hbu hmay hcost hMB hct hvc hbc HK
        cases MB
        · obtain rfl : A = false := by rw [← hA]; exact if_neg (fun q => by cases q.1)
          clear hA
          go_wp2_with (first
          | (go_at_call 52; (with_reducible refine (HAL.out _ HBW.out).mono ?_); rintro e w2 ⟨rfl, hb2x⟩; have hb2 : Below wr.heap.size wr w2 := Below.then (Below.refl _ _) hb2x; have HB2 := Lib.hid hb2; obtain ⟨x0, x4, xb⟩ := HF.out _ hb2; clear hb2 hb2x)
          | (go_at_call 53; (with_reducible refine (HCO.out _ (HBW.out.trans (HB2.out.mono HBW.out.size))).mono ?_); rintro e w3 ⟨rfl, hb3⟩; have HB3 := Lib.hid (Below.then HB2.out hb3); obtain ⟨y0, y4, yb⟩ := HF.out _ (Below.then HB2.out hb3); clear hb3))
          go_ret2
          exact ⟨rfl, Below.trans B1.out ((Below.then HB.out HB3.out).mono B1.out.size)⟩
        · by_cases p1 : 0 < bu
          · have p1' : decide (0 < bu) = true := by simpa using p1
            by_cases p2 : bu < ct
            · have p2' : decide (bu < ct) = true := by simpa using p2
              obtain rfl : A = false := by rw [← hA]; exact if_neg (fun q => by have := q.2; rw [p1', p2'] at this; cases this)
              clear hA
              go_wp2_with (first
          | (go_at_call 52; (with_reducible refine (HAL.out _ HBW.out).mono ?_); rintro e w2 ⟨rfl, hb2x⟩; have hb2 : Below wr.heap.size wr w2 := Below.then (Below.refl _ _) hb2x; have HB2 := Lib.hid hb2; obtain ⟨x0, x4, xb⟩ := HF.out _ hb2; clear hb2 hb2x)
          | (go_at_call 53; (with_reducible refine (HCO.out _ (HBW.out.trans (HB2.out.mono HBW.out.size))).mono ?_); rintro e w3 ⟨rfl, hb3⟩; have HB3 := Lib.hid (Below.then HB2.out hb3); obtain ⟨y0, y4, yb⟩ := HF.out _ (Below.then HB2.out hb3); clear hb3))
              go_ret2
              exact ⟨rfl, Below.trans B1.out ((Below.then HB.out HB3.out).mono B1.out.size)⟩
            · have p2' : decide (bu < ct) = false := by simpa using p2
              rw [if_pos ⟨rfl, by rw [p1', p2']; rfl⟩] at hA
              have HA := Lib.hid hA
              clear hA
              go_wp2_with (first
          | (go_at_call 52; (with_reducible refine (HAL.out _ HBW.out).mono ?_); rintro e w2 ⟨rfl, hb2x⟩; have hb2 : Below wr.heap.size wr w2 := Below.then (Below.refl _ _) hb2x; have HB2 := Lib.hid hb2; obtain ⟨x0, x4, xb⟩ := HF.out _ hb2; clear hb2 hb2x)
          | (go_at_call 53; (with_reducible refine (HCO.out _ (HBW.out.trans (HB2.out.mono HBW.out.size))).mono ?_); rintro e w3 ⟨rfl, hb3⟩; have HB3 := Lib.hid (Below.then HB2.out hb3); obtain ⟨y0, y4, yb⟩ := HF.out _ (Below.then HB2.out hb3); clear hb3))
              go_roundw
              case rel => exact ⟨i + 1, hin, by go_num, HA.out, Below.then HB.out HB3.out⟩
              case measure => simp [intOf]; omega
          · have p1' : decide (0 < bu) = false := by simpa using p1
            rw [if_pos ⟨rfl, by rw [p1']; rfl⟩] at hA
            have HA := Lib.hid hA
            clear hA
            go_wp2_with (first
          | (go_at_call 52; (with_reducible refine (HAL.out _ HBW.out).mono ?_); rintro e w2 ⟨rfl, hb2x⟩; have hb2 : Below wr.heap.size wr w2 := Below.then (Below.refl _ _) hb2x; have HB2 := Lib.hid hb2; obtain ⟨x0, x4, xb⟩ := HF.out _ hb2; clear hb2 hb2x)
          | (go_at_call 53; (with_reducible refine (HCO.out _ (HBW.out.trans (HB2.out.mono HBW.out.size))).mono ?_); rintro e w3 ⟨rfl, hb3⟩; have HB3 := Lib.hid (Below.then HB2.out hb3); obtain ⟨y0, y4, yb⟩ := HF.out _ (Below.then HB2.out hb3); clear hb3))
            go_roundw
            case rel => exact ⟨i + 1, hin, by go_num, HA.out, Below.then HB.out HB3.out⟩
            case measure => simp [intOf]; omega
      · have hie : bN - i = 0 := by omega
        rw [hie, alwF, HSN.out] at hA
        clear hB
        by_cases q : sN = 0
        · have q' : ((sN : Int) == 0) = true := by simpa using q
          obtain rfl : A = true := by rw [← hA]; exact decide_eq_true q
          clear hA
          go_wp2
          go_ret2
          exact ⟨rfl, B1.out.trans (HB.out.mono B1.out.size)⟩
        · have q' : ((sN : Int) == 0) = false := by simpa using q
          obtain rfl : A = false := by rw [← hA]; exact decide_eq_false q
          clear hA
          go_wp2
          go_ret2
          exact ⟨rfl, B1.out.trans (HB.out.mono B1.out.size)⟩
end Go.Proofs.Ytlhnhmimhpcoaaa
namespace Go.Proofs.Ytlhnhmimhpcoaaa
open Go.RowKit
set_option linter.unusedSimpArgs false
set_option linter.unusedVariables false
theorem Steps.from_ {R : Rn} {P Q : Int → Ms → List Nat → Prop} (h : Steps R P Q) (hr : RnOk R) {k0 : Nat} {at0 : List Nat} (q0 : QR R ((k0 : Int) - 1) (plM R k0) at0) (h0 : Q ((k0 : Int) - 1) (plM R k0) at0) : ∀ d : Nat, ∃ at_, QR R (((k0 + d : Nat) : Int) - 1) (plM R (k0 + d)) at_ ∧ Q (((k0 + d : Nat) : Int) - 1) (plM R (k0 + d)) at_
  | 0 => ⟨at0, q0, h0⟩
  | d + 1 => by
    obtain ⟨at_, hq, hp⟩ := Steps.from_ h hr q0 h0 d
    have hm := plM_ok hr (k0 + d)
    obtain ⟨a1, q1, p1⟩ := h.arr hr hm hq hp
    obtain ⟨a2, q2, p2⟩ := h.tick hr (hm.arrA hr _) (arrA_settled hr hm _) q1 p1
    refine ⟨a2, ?_⟩
    rw [show (((k0 + (d + 1) : Nat) : Int) - 1) = ((k0 + d : Nat) : Int) by omega]
    exact ⟨q2, p2⟩
/-- what is over stays so -/
def StayI (R : Rn) (i j : Nat) (x E : Int) (s : Ms) (at_ : List Nat) : Prop := (∀ a, at_[i]? = some a → j < a) ∧ endF s.o i x = E
theorem StayI.of {R : Rn} {i j : Nat} {x E : Int} {s s' : Ms} {at_ : List Nat} (h : StayI R i j x E s at_) {l : List En} (ho : s'.o = s.o ++ l) (h5 : ∀ e ∈ l, e.w ≠ 5) : StayI R i j x E s' at_ :=
  ⟨h.1, by rw [ho, endF_app _ _ _ _ (fun e q r => h5 e q r.1)]; exact h.2⟩
theorem StayI.fin {R : Rn} {i j : Nat} {x E : Int} {s : Ms} {at_ : List Nat} (h : StayI R i j x E s at_) (hj : (ordE (evA R i))[j]? = some x) {k a : Nat} {T how : Int} (ha : at_[k]? = some a) (hx : (ordE (evA R k))[a]? = some (s.hd k)) : StayI R i j x E (fin1 T k how s) (at_.set k (a + 1)) := by
  refine ⟨fun b hb => ?_, ?_⟩
  · rcases set_atE hb with ⟨rfl, rfl⟩ | ⟨_, hb⟩
    · have := h.1 a ha; omega
    · exact h.1 b hb
  · have ho : (fin1 T k how s).o = s.o ++ [⟨T, k, 5, s.hd k, how⟩] := rfl
    rw [ho, endF_one]
    unfold endG
    rw [if_neg]
    · exact h.2
    · rintro ⟨_, h1, h2⟩
      simp only [] at h1 h2
      have : k = i := by omega
      subst this
      rw [h2] at hx
      have := ord_injE hx hj
      have := h.1 a ha
      omega
theorem stay_steps {R : Rn} (hr : RnOk R) {i j : Nat} {x E : Int} (hj : (ordE (evA R i))[j]? = some x) : Steps R (fun _ s at_ => StayI R i j x E s at_) (fun _ s at_ => StayI R i j x E s at_) := by
  refine ⟨?_, ?_, ?_, ?_, ?_, ?_, ?_, ?_⟩
  · intro t s at_ hm hq hp
    obtain ⟨l, h1, h2⟩ := relA_newE t R.ev 0 s
    exact hp.of h1 (fun e q => by rw [(h2 e q).2]; decide)
  · intro t s at_ k hm hq hi hn hp
    exact hp.of (l := [⟨t, k, 2, 0, 0⟩]) rfl (fun e q => by simp at q; subst q; simp)
  · intro t s at_ k a hm hq hi hn ha hs hin hp
    exact hp.fin hj ha (hq.event ha hn)
  · intro t s at_ hm hq hs hg hp
    exact hp.of (l := [⟨t, -1, 3, 0, 0⟩]) rfl (fun e q => by simp at q; subst q; simp)
  · intro t s at_ hm hq hs hg hn hp
    exact hp
  · intro t s at_ k a hm hq hs hg hch ha hfin hp
    have h1 : StayI R i j x E (wk1 R t k s) at_ := hp.of (l := [⟨t, k, 4, (s.ja k).p, s.hd k⟩]) rfl (fun e q => by simp at q; subst q; simp)
    exact h1.fin (s := wk1 R t k s) hj ha (hq.event ha hch.rd)
  · intro t s at_ k a hm hq hs hg hch ha hpl hbu hp
    exact hp.of (s' := wk1 R t k s) (l := [⟨t, k, 4, (s.ja k).p, s.hd k⟩]) rfl (fun e q => by simp at q; subst q; simp)
  · intro t s at_ k a hm hq hs hg hch ha hpl hbu hp
    have h1 : StayI R i j x E (wk1 R t k s) at_ := hp.of (l := [⟨t, k, 4, (s.ja k).p, s.hd k⟩]) rfl (fun e q => by simp at q; subst q; simp)
    exact h1.of (s' := wk2 R t k s) (l := [⟨t + 1, k, 6, s.hd k, 0⟩]) rfl (fun e q => by simp at q; subst q; simp)
theorem end_by {R : Rn} (hr : RnOk R) {i x u v : Nat} (hi : i < R.L.length) (hx : x < (evA R i).length) (hq : (plM R u).qa i = []) (hrel : relT (evA R i) x ≤ (u : Int) - 1) (huv : u ≤ v) : 0 ≤ endF (plM R v).o i x ∧ endF (plM R v).o i x ≤ u := by
  obtain ⟨at_, h1, h2⟩ := plM_ei hr u
  have h3 := idle_ends h1 h2 hi hq hx hrel
  have hil : i < at_.length := by rw [h1.len]; exact hi
  have ha := List.getElem?_eq_getElem hil
  obtain ⟨j, hj⟩ := List.getElem?_of_mem (ordE_mem (l := evA R i).2 ⟨show (0 : Int) ≤ (x : Int) by omega, by omega⟩)
  have hja : j < at_[i] := by
    rcases Nat.lt_or_ge j at_[i] with q | q
    · exact q
    · have := h2.new i _ j _ ha hj q
      omega
  obtain ⟨_, _, h4⟩ := (stay_steps hr (E := endF (plM R u).o i x) hj).from_ hr h1 ⟨fun a q => by rw [ha] at q; simp at q; omega, rfl⟩ (v - u)
  rw [show u + (v - u) = v by omega] at h4
  rw [h4.2]; exact h3
theorem sparse_jit {g j : Int} : ∀ (xs : List P2) (l : Int), sparse g j l xs = true → ∀ e ∈ xs, e.2 ≤ j
  | [], _, _, e, he => by simp at he
  | x :: xs, l, h, e, he => by
    unfold sparse at h
    split at h
    · cases h
    · rename_i hc
      rcases List.mem_cons.1 he with rfl | he
      · omega
      · exact sparse_jit xs _ h e he
theorem allow_sparse {g j : Int} : ∀ (xs : List P2) (l : Int), allowGo g j l xs = sparse g j l xs
  | [], _ => rfl
  | x :: xs, l => by unfold allowGo sparse; rw [allow_sparse xs]
/-- the response: a job is over within jitter and window of its arrival -/
theorem resp_by {R : Rn} (hr : RnOk R) (hf : Fair R) (hv : ValidT R.L) (hs : 0 ≤ R.sl ∧ R.sl < R.fr) {i : Nat} (hi : i < R.L.length) {W : Nat} (hW : 1 ≤ W) (hd : demN R.L i W ≤ leastN R.fr R.sl W) (hj : (taAt R.L i).jit + W ≤ (taAt R.L i).gap)
    {x v : Nat} {e : P2} (he : (evA R i)[x]? = some e) (hle : e.1 + (taAt R.L i).jit + W ≤ v) : 0 ≤ endF (plM R v).o i x ∧ endF (plM R v).o i x ≤ e.1 + (taAt R.L i).jit + W := by
  have hx := (List.getElem?_eq_some_iff.1 he).1
  have hev : i < R.ev.length := by rw [hr.ev]; exact hi
  have hel := (hr.el (evA R i) (by unfold evA; rw [List.getElem?_eq_getElem hev]; exact List.getElem_mem hev)).2 e (List.mem_of_getElem? he)
  have hjit := sparse_jit _ _ (hf.ev i hi) e (List.mem_of_getElem? he)
  have hrl := relT_of he
  obtain ⟨r, hr2⟩ := Int.eq_ofNat_of_zero_le (show 0 ≤ e.1 + e.2 by omega)
  obtain ⟨u, h1, h2, h3⟩ := idle_after hr hf hv hs hi hW hd hj r
  have := end_by hr hi hx (h3 i hi (Nat.le_refl _)) (by rw [hrl]; omega) (show u ≤ v by omega)
  exact ⟨this.1, by omega⟩
theorem fair_of {R : Rn} (h : runB R = true) (ha : alwR R = (true, 0)) : Fair R := by
  obtain ⟨hr, _⟩ := run_ok h
  unfold alwR at ha
  rw [if_pos h] at ha
  have h1 : alwF R R.L.length 0 = true := congrArg Prod.fst ha
  have key : ∀ f i, alwF R f i = true → R.sg.length = 0 ∧ ∀ k, i ≤ k → k < i + f → mayB R k = true ∧ lowB R k = false := by
    intro f
    induction f with
    | zero => intro i h; exact ⟨by simpa [alwF] using h, fun k h1 h2 => by omega⟩
    | succ f ih =>
      intro i h
      rw [alwF] at h
      split at h
      · rename_i hc
        obtain ⟨g1, g2⟩ := ih (i + 1) h
        refine ⟨g1, fun k h1 h2 => ?_⟩
        by_cases e : k = i
        · subst e; exact hc
        · exact g2 k (by omega) (by omega)
      · cases h
  obtain ⟨g1, g2⟩ := key _ _ h1
  refine ⟨List.eq_nil_of_length_eq_zero g1, fun i hi => ?_, fun i hi => ?_⟩
  · have := (g2 i (Nat.zero_le _) (by omega)).2
    unfold lowB buA at this
    have hb : 0 ≤ (R.bu[i]?).getD 0 := by
      cases q : R.bu[i]? with
      | none => simp
      | some b => exact (hr.b0 b (List.mem_of_getElem? q)).1
    by_cases q : 0 < (R.bu[i]?).getD 0
    · right
      rw [decide_eq_true q, Bool.true_and, decide_eq_false_iff_not] at this
      omega
    · left; omega
  · have := (g2 i (Nat.zero_le _) (by omega)).1
    unfold mayB at this
    rw [← allow_sparse]; exact this
/-- the law of the deadlines: nothing is late -/
theorem late_none {R : Rn} {X : Nat → List Int} {t : Int} (h : ∀ i k, i < R.L.length → k < (evA R i).length → dueA R i k < t + 1 → ¬ (xAt X i k < 0 ∨ dueA R i k < xAt X i k)) : lateAll R X R.L.length 0 (t + 1, -1, -1) = (t + 1, -1, -1) := by
  have hrow : ∀ f i k, i < R.L.length → k + f ≤ (evA R i).length → lateRow R X i f k (t + 1, -1, -1) = (t + 1, -1, -1) := by
    intro f
    induction f with
    | zero => intro i k _ _; rfl
    | succ f ih =>
      intro i k hi hk
      rw [lateRow]
      have e : lateS R X i k (t + 1, -1, -1) = (t + 1, -1, -1) := by
        unfold lateS
        rw [if_neg]
        rintro ⟨h1, h2⟩
        exact h i k hi (by omega) h1 h2
      rw [e]
      exact ih i (k + 1) hi (by omega)
  have hall : ∀ f i, i + f ≤ R.L.length → lateAll R X f i (t + 1, -1, -1) = (t + 1, -1, -1) := by
    intro f
    induction f with
    | zero => intro i _; rfl
    | succ f ih =>
      intro i hi
      rw [lateAll, hrow _ i 0 (by omega) (by omega)]
      exact ih (i + 1) (by omega)
  exact hall _ _ (by omega)
theorem meets_all {R : Rn} {t : Int} (h : runB R = true) (ht : 0 ≤ t ∧ t ≤ 2000) (ha : alwR R = (true, 0)) (hacc : accB R.L R.fr R.sl = true) : meetsR R t = (true, 0) := by
  obtain ⟨hr, hvl, hsup, _⟩ := run_ok h
  have hv := valid_of hvl
  have hf := fair_of h ha
  have hs := (supB_iff.1 hsup)
  have hs2 : 0 ≤ R.sl ∧ R.sl < R.fr := by omega
  have hin : (runB R && inB t 0 2000) = true := by rw [h, Bool.true_and, inB_iff]; exact ht
  have key : lateF R t = (t + 1, -1, -1) := by
    unfold lateF
    refine late_none (fun i k hi hk hdue => ?_)
    have hm := accB_iff.1 hacc i hi
    unfold meetB at hm
    rw [Bool.and_eq_true, decide_eq_true_eq, decide_eq_true_eq] at hm
    obtain ⟨W, hWe, hW1, hW2, hW3, _⟩ := (isWin R.L R.fr R.sl i).some_ (by omega)
    have he : (evA R i)[k]? = some ((evA R i)[k]) := List.getElem?_eq_getElem hk
    have hdl := hv.dl _ (ta_mem hi)
    have hdu : dueA R i k = ((evA R i)[k]).1 + (taAt R.L i).dl := by unfold dueA; rw [he]; rfl
    have hx : xAt (endX R t) i k = endF (plM R t.toNat).o i k := by
      unfold xAt endX
      rw [endsRow_get hk]; rfl
    have := resp_by hr hf hv hs2 hi hW1 hW3 (by omega) he (v := t.toNat) (by omega)
    rw [hx]
    omega
  unfold meetsR
  rw [if_pos hin, key]
  rfl
end Go.Proofs.Ytlhnhmimhpcoaaa
namespace Go.Proofs.Ytlhnhmimhpcoaaa
open Go.RowKit
set_option linter.unusedSimpArgs false
set_option linter.unusedVariables false
theorem ok_of_allow {g j : Int} (hg : 0 ≤ g) : ∀ (xs : List P2) (l : Int) (p : Option Int), (∀ x ∈ xs, (0 ≤ x.1 ∧ x.1 ≤ 1000000) ∧ (0 ≤ x.2 ∧ x.2 ≤ 1000000)) → allowGo g j l xs = true → (∀ q, p = some q → q ≤ l) → okFrom p xs = true
  | [], _, _, _, _, _ => by simp [okFrom]
  | x :: xs, l, p, hb, ha, hp => by
    rw [allowGo] at ha
    split at ha
    · cases ha
    · rename_i hn
      have hx := hb x (by simp)
      rw [okFrom]
      have hgt : gtP p x.1 = true := by
        cases p with
        | none => rfl
        | some q =>
          have := hp q rfl
          unfold gtP
          simp; omega
      rw [hgt, Bool.and_true, Bool.and_eq_true, Bool.and_eq_true, inB_iff, inB_iff]
      exact ⟨hx, ok_of_allow hg xs _ _ (fun y hy => hb y (by simp [hy])) ha (fun q hq => by simp at hq; omega)⟩
theorem allow_parts {f g j : Int} {xs : List P2} (h : allowR f g j xs = (true, 0)) : vpat f g j = true ∧ listE xs = 0 ∧ allowGo g j f xs = true := by
  unfold allowR at h
  split at h
  · rename_i h1
    split at h
    · rename_i h2
      exact ⟨h1, h2, congrArg Prod.fst h⟩
    · exact absurd (congrArg Prod.fst h) (by simp)
  · exact absurd (congrArg Prod.fst h) (by simp)
theorem ev_of_allow {f g j : Int} {xs : List P2} (h : allowR f g j xs = (true, 0)) : evB xs = true := by
  obtain ⟨h1, h2, h3⟩ := allow_parts h
  obtain ⟨hf, hl⟩ := listE_zero h2
  have hv := vpat_iff.1 h1
  unfold evB
  rw [Bool.and_eq_true, decide_eq_true_eq]
  refine ⟨ok_of_allow (by omega) xs f none (fun x hx => ?_) h3 (by simp), hl⟩
  rw [List.any_eq_false] at hf
  exact farB_false (by simpa using hf x hx)
section
variable {K : List Ta} {F S : Int} {ev : List (List P2)}
def tcR (K : List Ta) (F S : Int) (ev : List (List P2)) : Rn := ⟨K, F, S, ev, List.replicate K.length 0, []⟩
theorem tc_run (hK : validL K = true) (hs : supB F S = true) (hl : ev.length = K.length) (he : ∀ i : Nat, i < K.length → allowR (taAt K i).first (taAt K i).gap (taAt K i).jit ((ev[i]?).getD []) = (true, 0)) : Go.Proofs.Ytlhnhmimhpcoaaa.runB (tcR K F S ev) = true := by
  unfold Go.Proofs.Ytlhnhmimhpcoaaa.runB tcR
  simp only [hK, hs, hl, List.length_replicate, decide_true, Bool.true_and, List.length_nil, List.all_nil, Bool.and_true]
  rw [Bool.and_eq_true, Bool.and_eq_true, List.all_eq_true, List.all_eq_true]
  refine ⟨by simp, fun l hm => ?_, fun b hb => ?_⟩
  · obtain ⟨i, hi⟩ := List.getElem?_of_mem hm
    have hlt := (List.getElem?_eq_some_iff.1 hi).1
    have := he i (by omega)
    rw [hi] at this
    exact ev_of_allow this
  · have := (List.mem_replicate.1 hb).2
    subst this
    exact inB_iff.2 (by omega)
theorem tc_alw (hK : validL K = true) (hs : supB F S = true) (hl : ev.length = K.length) (he : ∀ i : Nat, i < K.length → allowR (taAt K i).first (taAt K i).gap (taAt K i).jit ((ev[i]?).getD []) = (true, 0)) : alwR (tcR K F S ev) = (true, 0) := by
  unfold alwR
  rw [tc_run hK hs hl he, if_pos rfl]
  have key : ∀ f i, i + f = K.length → alwF (tcR K F S ev) f i = true := by
    intro f
    induction f with
    | zero => intro i _; rfl
    | succ f ih =>
      intro i h
      rw [alwF, if_pos]
      · exact ih (i + 1) (by omega)
      · have hi : i < K.length := by omega
        refine ⟨?_, ?_⟩
        · unfold mayB evA
          exact (allow_parts (he i hi)).2.2
        · unfold lowB buA
          show (decide (0 < ((List.replicate K.length (0 : Int))[i]?).getD 0) && _) = false
          rw [List.getElem?_replicate, if_pos hi]
          rfl
  have := key K.length 0 (by omega)
  show (alwF (tcR K F S ev) K.length 0, (0 : Int)) = (true, 0)
  rw [this]
theorem tc_meets (hK : validL K = true) (hs : supB F S = true) (ha : accB K F S = true) (hl : ev.length = K.length) (he : ∀ i : Nat, i < K.length → allowR (taAt K i).first (taAt K i).gap (taAt K i).jit ((ev[i]?).getD []) = (true, 0)) {t : Int} (ht : 0 ≤ t ∧ t ≤ 2000) : meetsR (tcR K F S ev) t = (true, 0) :=
  meets_all (tc_run hK hs hl he) ht (tc_alw hK hs hl he) ha
end
end Go.Proofs.Ytlhnhmimhpcoaaa
