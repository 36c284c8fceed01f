/- The contract of the program's Meets. The conditions: the run reads as named. Blocking in a run, and when jobs are over in a run that nothing disturbs. No condition: plain lemmas. When jobs are over in a run that nothing disturbs. No condition: plain lemmas. Responses in a run that nothing disturbs. No condition: plain lemmas. Who works: nobody ahead is there. No condition: plain lemmas. The contracts of demand of response (a closure) and of its reference. The conditions: the tasks read as named and are valid. The contracts of blocking and demand of the reference. The conditions: the tasks read as named and are valid. The contracts of window, response, meets, accepted, right of response and window, meets, accepted, ready of its reference. The conditions: the tasks read as named and are valid, the supply too. The contracts of response, meets, accepted, right of response and of meets, accepted, ready of its reference. The conditions: the tasks read as named; valid where named. The contracts of Accept, Window, Slice, Cost, Demand of response and of its reference. The conditions: the tasks read as named. The contracts of Cost, of both sides. The conditions: the tasks read as named. Contracts of slices.IndexFunc and slices.ContainsFunc at events and at lists of events. The conditions: what is asked of the predicate's calls. Contracts of arrive.check and of its reference's listed. The conditions: the lists read as the lists named. Contracts of Allowed, of its reference, of pairs and of own. The conditions: the lists read as the lists named. The contracts of Allowed of both sides. The conditions: the run reads as named. No deadline is missed by accepted tasks. No condition: plain lemmas. The contract of the reference's Allowed. The conditions: the run reads as named. Plain facts: tasks that are easier, or fewer, demand no more. No condition: plain lemmas. Easier: the plain functions and the program's contract. The conditions: the tasks read as named. The contract of Easier of the program. The conditions: the tasks read as named. The walk of SchedShorter: it returns true. The conditions: the run and the tasks read as named. -/
import Derived.Test.YtlhnhmimhpcoaaaGreatMg13
import Derived.Test.YtlhnhmimhpcoaaaGreatMg9
import Derived.Test.YtlhnhmimhpcoaaaGreatMg5
import Derived.Test.YtlhnhmimhpcoaaaGreatMg6
import Derived.Test.YtlhnhmimhpcoaaaGreatMg1
import Derived.Shelf.GgClosure.Gives
import Derived.Laws.EntriesVeiled
import Derived.Test.YtlhnhmimhpcoaaaGreatMg12
import Derived.Test.YtlhnhmimhpcoaaaGreatMg7
import Derived.Deep.RegionHeld3
import Derived.Deep.Cut
namespace Go.Proofs.YtlhnhmimhpcoaaaGreat
open Go.RowKit
set_option linter.unusedSimpArgs false
set_option linter.unusedVariables false
theorem meets_late {R : Rn} {t x y z : Int} (h : lateR R t = (x, y, z)) : (meetsR R t).1 = (z == 0) ∧ (meetsR R t).2 = (if z = 1 then 1 else 0) := by
  unfold lateR at h
  unfold meetsR
  split at h
  · rename_i hc
    rw [if_pos hc]
    split at h
    · rename_i h0
      obtain rfl : 15 = z := congrArg (fun p => p.2.2) h
      refine ⟨?_, rfl⟩
      show decide ((lateF R t).2.1 < 0) = _
      rw [decide_eq_false (by omega)]; rfl
    · rename_i h0
      obtain rfl : 0 = z := congrArg (fun p => p.2.2) h
      refine ⟨?_, rfl⟩
      show decide ((lateF R t).2.1 < 0) = _
      rw [decide_eq_true (by omega)]; rfl
  · rename_i hc
    rw [if_neg hc]
    obtain rfl : 1 = z := congrArg (fun p => p.2.2) h
    exact ⟨rfl, rfl⟩
theorem Late_is {H : RunH} {R : Rn} {t x y z : Int} {w : World} (hR : ReadRun w H R) (h : lateR R t = (x, y, z)) : Calls Tryz.prog 32 #[runV H R.fr R.sl, .int .i64 t] w fun e w' => e = rIII x y z ∧ Below w.heap.size w w' := by
  have := Late_any H R t w hR
  rw [h] at this; exact this
theorem Meets_any (H : RunH) (R : Rn) (t : Int) (w : World) (hR : ReadRun w H R) : Calls Tryz.prog 14 #[runV H R.fr R.sl, .int .i64 t] w fun e w' => e = .returned (.tuple #[.bool (meetsR R t).1, .int .i64 (meetsR R t).2]) ∧ Below w.heap.size w w' := by
  obtain ⟨x, y, z, hL⟩ : ∃ x y z, lateR R t = (x, y, z) := ⟨_, _, _, rfl⟩
  obtain ⟨m1, m2⟩ := meets_late hL
  rw [m1, m2]
  have HL := Lib.hid (fun w1 (hb : Below w.heap.size w w1) => Late_is (hR.ext hb) hL)
  obtain ⟨fr, hfr⟩ : ∃ x, R.fr = x := ⟨_, rfl⟩
  obtain ⟨sl_, hsl⟩ : ∃ x, R.sl = x := ⟨_, rfl⟩
  rw [hfr, hsl] at HL ⊢
  obtain ⟨tA, tN, tC, eA, eN, eC, bA, bN, bC, sA, sN, sC⟩ := H
  unfold runV rIII at HL
  unfold runV
  simp only [] at HL ⊢
  clear hR hfr hsl hL m1 m2
  by_cases h1 : z = 1
  · subst h1
    go_enter Tryz.func14, Tryz.ntmps14
    go_wp2_with (go_at_call 32; (with_reducible refine (HL.out _ (by (repeat' (first | (with_reducible exact Below.refl _ _) | (with_reducible assumption) | (with_reducible refine Below.alloc ?_ ?_ _) | (with_reducible refine Below.drew ?_) | (with_reducible refine Below.draws ?_ _) | (with_reducible refine Below.setCell ?_ ?_ _) | (refine Below.then ?_ (by with_reducible assumption)) | go_size)))).mono ?_); rintro e w2 ⟨rfl, hb2⟩)
    go_ret2
    exact ⟨rfl, Below.trans (by (repeat' (first | (with_reducible exact Below.refl _ _) | (with_reducible assumption) | (with_reducible refine Below.alloc ?_ ?_ _) | (with_reducible refine Below.drew ?_) | (with_reducible refine Below.draws ?_ _) | (with_reducible refine Below.setCell ?_ ?_ _) | (refine Below.then ?_ (by with_reducible assumption)) | go_size))) (hb2.mono (by simp))⟩
  · have h1' : (z == 1) = false := by simpa using h1
    have e : (if z = 1 then (1 : Int) else 0) = 0 := if_neg h1
    rw [e]
    go_enter Tryz.func14, Tryz.ntmps14
    go_wp2_with (go_at_call 32; (with_reducible refine (HL.out _ (by (repeat' (first | (with_reducible exact Below.refl _ _) | (with_reducible assumption) | (with_reducible refine Below.alloc ?_ ?_ _) | (with_reducible refine Below.drew ?_) | (with_reducible refine Below.draws ?_ _) | (with_reducible refine Below.setCell ?_ ?_ _) | (refine Below.then ?_ (by with_reducible assumption)) | go_size)))).mono ?_); rintro e w2 ⟨rfl, hb2⟩)
    go_ret2
    exact ⟨rfl, Below.trans (by (repeat' (first | (with_reducible exact Below.refl _ _) | (with_reducible assumption) | (with_reducible refine Below.alloc ?_ ?_ _) | (with_reducible refine Below.drew ?_) | (with_reducible refine Below.draws ?_ _) | (with_reducible refine Below.setCell ?_ ?_ _) | (refine Below.then ?_ (by with_reducible assumption)) | go_size))) (hb2.mono (by simp))⟩
end Go.Proofs.YtlhnhmimhpcoaaaGreat
namespace Go.Proofs.YtlhnhmimhpcoaaaGreat
open Go.RowKit
set_option linter.unusedSimpArgs false
set_option linter.unusedVariables false
/-- sums -/
def sumL (f : Int → Int) : List Int → Int
  | [] => 0
  | k :: ks => f k + sumL f ks
theorem demL_sum {L : List Ta} {w : Int} : ∀ (ks : List Int) (n : Int), demL L w ks n = n + sumL (fun k => demT (taAt L k) w) ks
  | [], n => by simp [demL, sumL]
  | k :: ks, n => by
    have e : demL L w (k :: ks) n = demL L w ks (n + demT (taAt L k) w) := rfl
    rw [e, demL_sum ks, sumL]; omega
theorem sumL_le {f g : Int → Int} : ∀ (ks : List Int), (∀ k ∈ ks, f k ≤ g k) → sumL f ks ≤ sumL g ks
  | [], _ => Int.le_refl _
  | k :: ks, h => by
    have h1 := h k (by simp)
    have h2 := sumL_le ks (fun j hj => h j (by simp [hj]))
    rw [sumL, sumL]; omega
theorem sumL_add {f g : Int → Int} : ∀ (ks : List Int), sumL (fun k => f k + g k) ks = sumL f ks + sumL g ks
  | [] => rfl
  | k :: ks => by rw [sumL, sumL, sumL, sumL_add ks]; omega
theorem sumL_eq {f g : Int → Int} : ∀ (ks : List Int), (∀ k ∈ ks, f k = g k) → sumL f ks = sumL g ks
  | [], _ => rfl
  | k :: ks, h => by rw [sumL, sumL, h k (by simp), sumL_eq ks (fun j hj => h j (by simp [hj]))]
theorem sumL_app {f : Int → Int} : ∀ (ks js : List Int), sumL f (ks ++ js) = sumL f ks + sumL f js
  | [], js => by simp [sumL]
  | k :: ks, js => by rw [List.cons_append, sumL, sumL, sumL_app ks js]; omega
theorem sumL_upd {f g : Int → Int} {y d : Int} : ∀ (ks : List Int), ks.Nodup → y ∈ ks → g y = f y + d → (∀ k ∈ ks, k ≠ y → g k = f k) → sumL g ks = sumL f ks + d
  | [], _, h, _, _ => by simp at h
  | k :: ks, hn, hy, hg, hk => by
    rw [List.nodup_cons] at hn
    rw [sumL, sumL]
    by_cases e : k = y
    · subst e
      rw [hg, sumL_eq ks (fun j hj => hk j (by simp [hj]) (fun q => hn.1 (q ▸ hj)))]; omega
    · have hy' : y ∈ ks := by
        rcases List.mem_cons.1 hy with q | q
        · exact absurd q.symm e
        · exact q
      rw [hk k (by simp) e, sumL_upd ks hn.2 hy' hg (fun j hj hne => hk j (by simp [hj]) hne)]; omega
theorem sumL_zero {f : Int → Int} : ∀ (ks : List Int), (∀ k ∈ ks, 0 ≤ f k) → 0 ≤ sumL f ks ∧ (sumL f ks ≤ 0 → ∀ k ∈ ks, f k ≤ 0)
  | [], _ => ⟨Int.le_refl _, fun _ k hk => by simp at hk⟩
  | k :: ks, h => by
    have h1 := h k (by simp)
    obtain ⟨h2, h3⟩ := sumL_zero ks (fun j hj => h j (by simp [hj]))
    rw [sumL]
    refine ⟨by omega, fun h4 j hj => ?_⟩
    rcases List.mem_cons.1 hj with rfl | hj
    · omega
    · exact h3 (by omega) j hj
/-- the pieces that block -/
theorem blkP_has {L : List Ta} {t j : Int} : ∀ (ps : List P2) (k m : Nat) (p : P2), ps[m]? = some p → 0 ≤ p.2 → aheadB L t (ceilG L p.2) = false → (j, ((k + m : Nat) : Int)) ∈ blkP L t j k ps
  | [], _, _, _, h, _, _ => by simp at h
  | q :: ps, k, 0, p, h, h1, h2 => by
    simp at h; subst h
    rw [blkP, if_pos ⟨h1, h2⟩]; simp
  | q :: ps, k, m + 1, p, h, h1, h2 => by
    have := blkP_has (j := j) ps (k + 1) m p (by simpa using h) h1 h2
    rw [show k + 1 + m = k + (m + 1) by omega] at this
    rw [blkP]
    split
    · exact List.mem_cons_of_mem _ this
    · exact this
theorem blkFrom_has {L : List Ta} {t : Int} {y : Nat} {b : P2} (ha : aheadB L t y = true) (hb : b ∈ blkP L t y 0 (taAt L y).pcs) : ∀ (f j : Nat), j ≤ y → y < j + f → b ∈ blkFrom L t f j
  | 0, j, h1, h2 => by omega
  | f + 1, j, h1, h2 => by
    rw [blkFrom, List.mem_append]
    by_cases e : j = y
    · subst e; left; rw [if_pos ha]; exact hb
    · exact .inr (blkFrom_has ha hb f (j + 1) (by omega) (by omega))
theorem foldmax_ge {L : List Ta} {b : P2} : ∀ (bs : List P2) (m : Int), m ≤ bs.foldl (fun m b => max m (ticksAt L b)) m ∧ (b ∈ bs → ticksAt L b ≤ bs.foldl (fun m b => max m (ticksAt L b)) m)
  | [], m => ⟨Int.le_refl _, fun h => by simp at h⟩
  | c :: bs, m => by
    obtain ⟨h1, h2⟩ := foldmax_ge (L := L) (b := b) bs (max m (ticksAt L c))
    simp only [List.foldl_cons]
    refine ⟨by omega, fun h => ?_⟩
    rcases List.mem_cons.1 h with rfl | h
    · omega
    · exact h2 h
theorem blockN_ge {L : List Ta} {t : Int} {y p : Nat} (hy : y < L.length) (hp : p < (taAt L y).pcs.length) (ha : Ahead L t y) (hl : 0 ≤ lkA L y p) (hc : ¬ Ahead L t (ceilG L (lkA L y p))) : tkA L y p ≤ blockN L t := by
  have e : (taAt L y).pcs[p]? = some ((taAt L y).pcs[p]) := List.getElem?_eq_getElem hp
  have e2 : pcA L y p = (taAt L y).pcs[p] := by unfold pcA; rw [e]; rfl
  have h1 : ((y : Int), ((0 + p : Nat) : Int)) ∈ blkP L t y 0 (taAt L y).pcs := blkP_has _ 0 p _ e (by rw [← e2]; exact hl) (by rw [← e2]; exact aheadB_no.2 hc)
  have h2 := blkFrom_has (aheadB_iff.2 ha) h1 L.length 0 (Nat.zero_le _) (by omega)
  have h3 := (foldmax_ge (L := L) (b := ((y : Int), ((0 + p : Nat) : Int))) (blkFrom L t L.length 0) 0).2 h2
  have e3 : ticksAt L ((y : Int), ((0 + p : Nat) : Int)) = tkA L y p := by
    unfold ticksAt tkA pcA; simp
  rw [e3] at h3
  exact h3
/-- a job of a task behind i that is within a piece that blocks i -/
structure IsBk (L : List Ta) (s : Ms) (i y : Nat) : Prop where
  lt : y < L.length
  bh : cnt L i < cnt L y
  ins : insB L s y = true
  to_ : cnt L (toI L s y) ≤ cnt L i
section
variable {R : Rn} {s s' : Ms} {i y : Nat}
theorem IsBk.ticks (h : IsBk R.L s i y) (hm : MOk R s) (hi : i < R.L.length) : tkA R.L y (s.ja y).p ≤ blockN R.L i := by
  obtain ⟨h0, h1⟩ := insB_iff.1 h.ins
  have ht := (hm.to_ h.lt).1
  have e : toI R.L s y = ceilG R.L (lkA R.L y (s.ja y).p) := by unfold toI; rw [h.ins]; rfl
  refine blockN_ge h.lt (hm.pc y h.lt) ((cnt_ahead (by omega) (by omega) (by omega) (by have := h.lt; omega)).1 h.bh) h1 (fun q => ?_)
  rw [← e] at q
  have := (cnt_ahead (by omega) (by omega) ht.1 ht.2).2 q
  have := h.to_
  omega
theorem IsBk.one {z : Nat} (h : IsBk R.L s i y) (k : IsBk R.L s i z) (hm : MOk R s) : y = z := by
  by_cases e : y = z
  · exact e
  · have h1 := h.to_; have h2 := k.to_; have h3 := h.bh; have h4 := k.bh
    rcases hm.ce y z h.lt k.lt e h.ins k.ins with q | q <;> omega
theorem IsBk.of (h : IsBk R.L s' i y) (e : s'.ja y = s.ja y) : IsBk R.L s i y := ⟨h.lt, h.bh, by rw [← insB_eq e]; exact h.ins, by rw [← toI_eq e]; exact h.to_⟩
theorem IsBk.of2 (h : IsBk R.L s' i y) (e1 : (s'.ja y).p = (s.ja y).p) (e2 : (s'.ja y).t = (s.ja y).t) : IsBk R.L s i y := by
  have e : insB R.L s' y = insB R.L s y := by unfold insB; rw [e1, e2]
  have e3 : toI R.L s' y = toI R.L s y := by unfold toI; rw [e, e1]
  exact ⟨h.lt, h.bh, by rw [← e]; exact h.ins, by rw [← e3]; exact h.to_⟩
/-- while somebody not behind i is there, who works behind i blocks it -/
theorem Chosen.blk (h : Chosen R s y) (hm : MOk R s) {x : Nat} (hx : x < R.L.length) (hq : s.qa x ≠ []) (hc : cnt R.L x ≤ cnt R.L i) (hy : cnt R.L i < cnt R.L y) : IsBk R.L s i y := by
  have hk := h.le x hx hq
  have hto := (hm.to_ hx).2
  unfold keyI at hk
  have ho : ownI R.L s x ≤ 1 := by unfold ownI; split <;> omega
  have h1 : cnt R.L (toI R.L s y) ≤ cnt R.L i := by omega
  refine ⟨h.lt, hy, ?_, h1⟩
  cases hc : insB R.L s y
  · rw [toI_no hc] at h1; omega
  · rfl
theorem wkA_other {t : Int} (hm : MOk R s) (hy : y < R.L.length) {k : Nat} (hk : k ≠ y) : (wkA R t y s).ja k = s.ja k ∧ (wkA R t y s).qa k = s.qa k := by
  have hl : y < s.j.length := by rw [hm.jl]; exact hy
  have hql : y < s.q.length := by rw [hm.ql]; exact hy
  rw [wkA_cases]
  have h1 : (wk1 R t y s).ja k = s.ja k := by unfold wk1; rw [ja_set hl, if_neg hk]
  split
  · rw [fin_ja (by unfold wk1; simpa using hl), if_neg hk, fin_qa (by unfold wk1; exact hql), if_neg hk]
    exact ⟨h1, rfl⟩
  · split
    · exact ⟨by unfold wk2; rw [ja_set hl, if_neg hk], rfl⟩
    · exact ⟨h1, rfl⟩
theorem wkA_self {t : Int} (hm : MOk R s) (hy : y < R.L.length) :
    ((jbN R.L y (s.ja y)).p = (taAt R.L y).pcs.length ∧ (wkA R t y s).ja y = Jb.zero ∧ (wkA R t y s).qa y = (s.qa y).tail) ∨
    ((jbN R.L y (s.ja y)).p < (taAt R.L y).pcs.length ∧ (wkA R t y s).qa y = s.qa y ∧ ((wkA R t y s).ja y).p = (jbN R.L y (s.ja y)).p ∧ ((wkA R t y s).ja y).t = (jbN R.L y (s.ja y)).t ∧ ((wkA R t y s).ja y).d = (s.ja y).d + 1 ∧ (((wkA R t y s).ja y).s = (s.ja y).s ∨ (((s.ja y).d + 1 : Nat) : Int) = (R.bu[y]?).getD 0)) := by
  have hl : y < s.j.length := by rw [hm.jl]; exact hy
  have hql : y < s.q.length := by rw [hm.ql]; exact hy
  have hle : (jbN R.L y (s.ja y)).p ≤ (taAt R.L y).pcs.length := by
    have hpi := hm.pc y hy
    unfold jbN; split <;> simp only [] <;> omega
  have hs : (jbN R.L y (s.ja y)).s = (s.ja y).s := by unfold jbN; split <;> rfl
  rw [wkA_cases]
  split
  · rename_i e
    left
    rw [fin_ja (by unfold wk1; simpa using hl), if_pos rfl, fin_qa (by unfold wk1; exact hql), if_pos rfl]
    exact ⟨e, rfl, rfl⟩
  · rename_i e
    right
    refine ⟨by omega, ?_⟩
    split
    · rename_i e2
      refine ⟨rfl, ?_⟩
      unfold wk2
      rw [ja_set hl, if_pos rfl]
      rw [jbN_d] at e2
      exact ⟨rfl, rfl, jbN_d _ _ _, .inr e2⟩
    · refine ⟨rfl, ?_⟩
      unfold wk1
      rw [ja_set hl, if_pos rfl]
      exact ⟨rfl, rfl, jbN_d _ _ _, .inl hs⟩
/-- the budget of blocking -/
structure BkOk (L : List Ta) (s : Ms) (i : Nat) (b : Int) : Prop where
  pos : 0 ≤ b
  le : ∀ y, IsBk L s i y → tkA L y (s.ja y).p - (s.ja y).t ≤ b
theorem BkOk.start (hm : MOk R s) (hr : RnOk R) (hi : i < R.L.length) : BkOk R.L s i (blockN R.L i) :=
  ⟨(blockN_bd hr.r i).1, fun y h => by have := h.ticks hm hi; omega⟩
theorem BkOk.of {b : Int} (h : BkOk R.L s i b) (e : ∀ y, y < R.L.length → ((s'.ja y).p = (s.ja y).p ∧ (s'.ja y).t = (s.ja y).t) ∨ s'.ja y = Jb.zero) : BkOk R.L s' i b :=
  ⟨h.pos, fun y hy => by
    rcases e y hy.lt with ⟨e1, e2⟩ | e1
    · have := h.le y (hy.of2 e1 e2)
      rw [e1, e2]; exact this
    · have := hy.ins
      rw [ins_zero e1] at this; cases this⟩
/-- a tick of work, not behind i -/
theorem BkOk.fore {b : Int} {t : Int} (h : BkOk R.L s i b) (hm : MOk R s) (hy : y < R.L.length) (hc : cnt R.L y ≤ cnt R.L i) : BkOk R.L (wkA R t y s) i b :=
  ⟨h.pos, fun z hz => by
    have hne : z ≠ y := fun e => by have := hz.bh; rw [e] at this; omega
    have e := (wkA_other (t := t) hm hy hne).1
    have := h.le z (hz.of e)
    rw [e]; exact this⟩
/-- a tick of work behind i -/
theorem BkOk.back {b : Int} {t : Int} (h : BkOk R.L s i b) (hm : MOk R s) (hb : IsBk R.L s i y) : BkOk R.L (wkA R t y s) i (b - 1) := by
  have hy := hb.lt
  have h1 := h.le y hb
  have h2 := hm.tk y hy
  refine ⟨by omega, fun z hz => ?_⟩
  by_cases e : z = y
  · subst e
    rcases wkA_self (t := t) hm hy with ⟨_, e1, _⟩ | ⟨_, _, e1, e2, _⟩
    · have := hz.ins
      rw [ins_zero e1] at this; cases this
    · rw [e1, e2]
      have h3 := (insB_iff.1 hz.ins).1
      rw [e2] at h3
      unfold jbN at h3 ⊢
      split
      · rename_i q
        rw [if_pos q] at h3
        exact absurd h3 (Nat.lt_irrefl 0)
      · show tkA R.L z (s.ja z).p - (((s.ja z).t + 1 : Nat) : Int) ≤ b - 1
        omega
  · have e1 := (wkA_other (t := t) hm hy e).1
    exact absurd ((hz.of e1).one hb hm) e
end
/-- arrivals leave what has been done, or end jobs -/
theorem arr_ja {R : Rn} (hr : RnOk R) {t : Int} {s : Ms} (hm : MOk R s) (k : Nat) : (((arrA R t s).ja k).p = (s.ja k).p ∧ ((arrA R t s).ja k).t = (s.ja k).t) ∨ (arrA R t s).ja k = Jb.zero := by
  have hsig : ∀ (gs : List P2) {s : Ms}, MOk R s → (∀ g ∈ gs, 0 ≤ g.2 ∧ g.2 < R.L.length) → ((sigA t gs s).ja k).p = (s.ja k).p ∧ ((sigA t gs s).ja k).t = (s.ja k).t := by
    intro gs
    induction gs with
    | nil => exact fun _ _ => ⟨rfl, rfl⟩
    | cons g gs ih =>
      intro s hm hg
      obtain ⟨h1, h2⟩ := ih (hm.sigS t (hg g (by simp))) (fun x hx => hg x (by simp [hx]))
      rw [sigA, h1, h2]
      unfold sigS; split
      · unfold sig1
        have := hg g (by simp)
        rw [ja_set (by rw [hm.jl]; omega)]
        split
        · rename_i e; subst e; exact ⟨rfl, rfl⟩
        · exact ⟨rfl, rfl⟩
      · exact ⟨rfl, rfl⟩
  have hend : ∀ (f i : Nat) {s : Ms}, MOk R s → i + f = R.L.length → (endA R.L t f i s).ja k = s.ja k ∨ (endA R.L t f i s).ja k = Jb.zero := by
    intro f
    induction f with
    | zero => exact fun i s _ _ => .inl rfl
    | succ f ih =>
      intro i s hm e
      rw [endA]
      rcases ih (i + 1) (hm.endS hr t (by omega : i < R.L.length)) (by omega) with h | h
      · rw [h]
        unfold endS; split
        · rw [fin_ja (by rw [hm.jl]; omega)]
          split
          · exact .inr rfl
          · exact .inl rfl
        · exact .inl rfl
      · exact .inr h
  unfold arrA
  rcases hend R.L.length 0 (MOk.sigA t R.sg (hm.relA hr t) hr.sg) (by omega) with h | h
  · left
    rw [h]
    obtain ⟨h1, h2⟩ := hsig R.sg (hm.relA hr t) hr.sg
    rw [h1, h2, relA_ja hr hm]
    exact ⟨rfl, rfl⟩
  · exact .inr h
end Go.Proofs.YtlhnhmimhpcoaaaGreat
namespace Go.Proofs.YtlhnhmimhpcoaaaGreat
open Go.RowKit
set_option linter.unusedSimpArgs false
set_option linter.unusedVariables false
/-- events as far apart as the pattern says -/
def sparse (g j : Int) : Int → List P2 → Bool
  | _, [] => true
  | least, x :: xs => if x.1 < least ∨ j < x.2 then false else sparse g j (x.1 + g) xs
def cN (from_ til : Int) : List P2 → Int
  | [] => 0
  | x :: xs => (if from_ ≤ x.1 + x.2 ∧ x.1 + x.2 < til then 1 else 0) + cN from_ til xs
theorem cN_nonneg (from_ til : Int) : ∀ xs : List P2, 0 ≤ cN from_ til xs
  | [] => by simp [cN]
  | x :: xs => by have := cN_nonneg from_ til xs; rw [cN]; split <;> omega
theorem cN_bound {g j from_ til : Int} (hg : 1 ≤ g) : ∀ (xs : List P2) (l : Int), (∀ e ∈ xs, 0 ≤ e.2) → sparse g j l xs = true → 1 ≤ cN from_ til xs →
    l + (cN from_ til xs - 1) * g ≤ til - 1 ∧ from_ - j + (cN from_ til xs - 1) * g ≤ til - 1
  | [], _, _, _, h => by simp [cN] at h
  | x :: xs, l, hf, ha, h => by
    have b3 := hf x (by simp)
    unfold sparse at ha
    split at ha
    · simp at ha
    · rename_i h1
      have ih := cN_bound (from_ := from_) (til := til) hg xs (x.1 + g) (fun e he => hf e (by simp [he])) ha
      have hn := cN_nonneg from_ til xs
      rw [cN] at h ⊢
      by_cases hc : from_ ≤ x.1 + x.2 ∧ x.1 + x.2 < til
      · rw [if_pos hc] at h ⊢
        by_cases h0 : cN from_ til xs = 0
        · rw [h0]; constructor <;> simp <;> omega
        · have := ih (by omega)
          have e : (1 + cN from_ til xs - 1) * g = g + (cN from_ til xs - 1) * g := by
            rw [Int.sub_mul, Int.sub_mul, Int.add_mul]; omega
          rw [e]; omega
      · rw [if_neg hc] at h ⊢
        have := ih (by omega)
        simp only [Int.zero_add]
        omega
theorem cN_most {g j from_ win : Int} (hg : 1 ≤ g) (hj : 0 ≤ j) (hw : 0 ≤ win) (xs : List P2) (l : Int) (hf : ∀ e ∈ xs, 0 ≤ e.2) (ha : sparse g j l xs = true) : cN from_ (from_ + win) xs ≤ mostN g j win := by
  have hn := cN_nonneg from_ (from_ + win) xs
  by_cases h0 : cN from_ (from_ + win) xs = 0
  · rw [h0]; unfold mostN; split
    · omega
    · have := Int.ediv_nonneg (show 0 ≤ win - 1 + j by omega) (show 0 ≤ g by omega); omega
  · have hb := cN_bound hg xs l hf ha (show 1 ≤ cN from_ (from_ + win) xs by omega)
    by_cases hz : win = 0
    · exfalso
      subst hz
      have : ∀ ys : List P2, cN from_ (from_ + 0) ys = 0 := by
        intro ys
        induction ys with
        | nil => rfl
        | cons y ys ih => rw [cN, ih, if_neg (by omega)]; rfl
      exact h0 (this xs)
    · rw [mostN, if_neg hz]
      have := (Int.le_ediv_iff_mul_le (show 0 < g by omega)).2 (show (cN from_ (from_ + win) xs - 1) * g ≤ win - 1 + j by omega)
      omega
def cP (l : List P2) (t : Int) : Nat := l.countP (fun e => decide (e.1 + e.2 ≤ t))
theorem cN_cP {from_ til : Int} (h : from_ ≤ til) : ∀ l : List P2, cN from_ til l = (cP l (til - 1) : Int) - (cP l (from_ - 1) : Int)
  | [] => by simp [cN, cP]
  | x :: xs => by
    have ih := cN_cP h xs
    unfold cP at ih ⊢
    rw [cN, List.countP_cons, List.countP_cons, ih]
    by_cases h1 : x.1 + x.2 ≤ til - 1
    · by_cases h2 : x.1 + x.2 ≤ from_ - 1
      · rw [if_neg (by omega), if_pos (by simpa using h1), if_pos (by simpa using h2)]; omega
      · rw [if_pos (by omega), if_pos (by simpa using h1), if_neg (by simpa using h2)]; omega
    · rw [if_neg (by omega), if_neg (by simpa using h1), if_neg (by simp; omega)]; omega
theorem range_count (p : P2 → Bool) : ∀ l : List P2, (List.range l.length).countP (fun k => p ((l[k]?).getD default)) = l.countP p
  | [] => rfl
  | x :: xs => by
    rw [List.length_cons, List.range_succ_eq_map, List.countP_cons, List.countP_map, List.countP_cons, ← range_count p xs]
    congr 1
theorem outE_cP (l : List P2) (t : Int) : (outE l t).length = cP l t := by
  unfold outE
  rw [((ordE_perm l).filter _).length_eq, ← List.countP_eq_length_filter]
  unfold idxs cP
  rw [List.countP_map, ← range_count]
  congr 1
/-- the ticks of a job -/
theorem costP_app : ∀ (a b : List P2), costP (a ++ b) = costP a + costP b
  | [], b => by simp [costP]
  | x :: a, b => by rw [List.cons_append, costP, costP, costP_app a b]; omega
theorem costP_take {ps : List P2} {p : Nat} (h : p < ps.length) : costP (ps.take (p + 1)) = costP (ps.take p) + ((ps[p]?).getD default).1 := by
  rw [List.take_add_one, costP_app, List.getElem?_eq_getElem h]
  simp [costP]
theorem costP_split {ps : List P2} {p : Nat} (h : p < ps.length) : costP ps = costP (ps.take p) + ((ps[p]?).getD default).1 + costP (ps.drop (p + 1)) := by
  have h1 := costP_app (ps.take p) (ps.drop p)
  rw [List.take_append_drop] at h1
  have h2 := costP_drop (List.getElem?_eq_getElem h)
  rw [h1, h2, List.getElem?_eq_getElem h]
  simp; omega
/-- nobody has been told til end; the ticks done are those of the pieces -/
structure Qt (R : Rn) (s : Ms) : Prop where
  s_ : ∀ i, i < R.L.length → (s.ja i).s = false
  d : ∀ i, i < R.L.length → ((s.ja i).d : Int) = costP ((taAt R.L i).pcs.take (s.ja i).p) + (s.ja i).t
/-- a run that nothing disturbs -/
structure Fair (R : Rn) : Prop where
  sg : R.sg = []
  bu : ∀ i, i < R.L.length → (R.bu[i]?).getD 0 = 0 ∨ costT (taAt R.L i) ≤ (R.bu[i]?).getD 0
  ev : ∀ i, i < R.L.length → sparse (taAt R.L i).gap (taAt R.L i).jit (taAt R.L i).first (evA R i) = true
section
variable {R : Rn} {s : Ms}
theorem Qt.lt (h : Qt R s) (hm : MOk R s) (hr : RnOk R) {i : Nat} (hi : i < R.L.length) : ((s.ja i).d : Int) < costT (taAt R.L i) := by
  have h1 := h.d i hi
  have hp := hm.pc i hi
  have h2 := hm.tk i hi
  have h3 := costP_split hp
  have h4 := costP_bd ((taAt R.L i).pcs.drop ((s.ja i).p + 1)) (fun p q => (hr.r.piece _ (ta_mem hi) p (List.mem_of_mem_drop q)).1)
  unfold tkA pcA at h2
  unfold costT
  omega
theorem endA_quiet (t : Int) : ∀ (f i : Nat) (s : Ms), (∀ k, k < i + f → (s.ja k).s = false) → endA R.L t f i s = s
  | 0, _, _, _ => rfl
  | f + 1, i, s, h => by
    rw [endA]
    have e : endS R.L t i s = s := by
      unfold endS
      rw [if_neg]
      rintro ⟨_, h2, _⟩
      rw [h i (by omega)] at h2; cases h2
    rw [e]
    exact endA_quiet t f (i + 1) s (fun k hk => h k (by omega))
theorem arr_quiet (hr : RnOk R) (hm : MOk R s) (hf : Fair R) (h : Qt R s) (t : Int) : arrA R t s = relA t 0 R.ev s := by
  unfold arrA
  rw [hf.sg, sigA]
  exact endA_quiet t _ _ _ (fun k hk => by rw [relA_ja hr hm]; exact h.s_ k (by omega))
theorem Qt.rel (hr : RnOk R) (hm : MOk R s) (h : Qt R s) (t : Int) : Qt R (relA t 0 R.ev s) :=
  ⟨fun i hi => by rw [relA_ja hr hm]; exact h.s_ i hi, fun i hi => by rw [relA_ja hr hm]; exact h.d i hi⟩
/-- what a tick of work leaves of the job's ticks -/
theorem Qt.next (h : Qt R s) (hm : MOk R s) {y : Nat} (hy : y < R.L.length) : ((s.ja y).d : Int) + 1 = costP ((taAt R.L y).pcs.take (jbN R.L y (s.ja y)).p) + (jbN R.L y (s.ja y)).t := by
  have h1 := h.d y hy
  have hp := hm.pc y hy
  unfold jbN
  split
  · rename_i e
    have := costP_take hp
    unfold tkA pcA at e
    show _ = costP ((taAt R.L y).pcs.take ((s.ja y).p + 1)) + ((0 : Nat) : Int)
    omega
  · show _ = costP ((taAt R.L y).pcs.take (s.ja y).p) + (((s.ja y).t + 1 : Nat) : Int)
    omega
theorem jbN_tk (hm : MOk R s) (hr : RnOk R) {y : Nat} (hy : y < R.L.length) (hp : (jbN R.L y (s.ja y)).p < (taAt R.L y).pcs.length) : ((jbN R.L y (s.ja y)).t : Int) < tkA R.L y (jbN R.L y (s.ja y)).p := by
  have h2 := hm.tk y hy
  have h5 := (pc_lim hr.r hy hp).1.1
  unfold jbN at h5 hp ⊢
  split
  · rename_i hx
    rw [if_pos hx] at h5
    show ((0 : Nat) : Int) < _
    simp only [] at h5
    exact Int.lt_of_lt_of_le (by omega) h5
  · rename_i hx
    show (((s.ja y).t + 1 : Nat) : Int) < tkA R.L y (s.ja y).p
    omega
theorem Qt.work (h : Qt R s) (hr : RnOk R) (hm : MOk R s) (hf : Fair R) {y : Nat} (hy : y < R.L.length) (t : Int) : Qt R (wkA R t y s) := by
  have hnx := h.next hm hy
  have key : (wkA R t y s).ja y = Jb.zero ∨ ((((wkA R t y s).ja y).s = false) ∧ (((wkA R t y s).ja y).d : Int) = costP ((taAt R.L y).pcs.take ((wkA R t y s).ja y).p) + ((wkA R t y s).ja y).t) := by
    rcases wkA_self (t := t) hm hy with ⟨_, e, _⟩ | ⟨hp, _, e1, e2, e3, e4⟩
    · exact .inl e
    · right
      rw [e1, e2, e3]
      refine ⟨?_, by omega⟩
      rcases e4 with e4 | e4
      · rw [e4]; exact h.s_ y hy
      · exfalso
        have h2 := jbN_tk hm hr hy hp
        have h3 := costP_split hp
        have h4 := costP_bd ((taAt R.L y).pcs.drop ((jbN R.L y (s.ja y)).p + 1)) (fun p q => (hr.r.piece _ (ta_mem hy) p (List.mem_of_mem_drop q)).1)
        unfold tkA pcA at h2
        have hb := hf.bu y hy
        unfold costT at hb
        rw [← e4] at hb
        omega
  refine ⟨fun i hi => ?_, fun i hi => ?_⟩
  · by_cases e : i = y
    · subst e
      rcases key with k | k
      · rw [k]; rfl
      · exact k.1
    · rw [(wkA_other (t := t) hm hy e).1]; exact h.s_ i hi
  · by_cases e : i = y
    · subst e
      rcases key with k | k
      · rw [k]; show ((0 : Nat) : Int) = costP ((taAt R.L i).pcs.take 0) + ((0 : Nat) : Int); simp [costP]
      · exact k.2
    · rw [(wkA_other (t := t) hm hy e).1]; exact h.d i hi
theorem Qt.tick (h : Qt R s) (hr : RnOk R) (hm : MOk R s) (hf : Fair R) (t : Int) : Qt R (tckB R t s) := by
  unfold tckB
  split
  · exact ⟨h.s_, h.d⟩
  · split
    · rename_i hc
      exact h.work hr hm hf (chosen_of hm hc).lt t
    · exact h
theorem ms0_ja (n i : Nat) : (ms0 n).ja i = Jb.zero := by
  unfold Ms.ja ms0; simp only [List.getElem?_replicate]; split <;> rfl
theorem ms0_qa (n i : Nat) : (ms0 n).qa i = [] := by
  unfold Ms.qa ms0; simp only [List.getElem?_replicate]; split <;> rfl
theorem plM_qt (hr : RnOk R) (hf : Fair R) : ∀ k, Qt R (plM R k)
  | 0 => ⟨fun i _ => by show ((ms0 R.L.length).ja i).s = false; rw [ms0_ja]; rfl, fun i _ => by
    show (((ms0 R.L.length).ja i).d : Int) = costP ((taAt R.L i).pcs.take ((ms0 R.L.length).ja i).p) + ((ms0 R.L.length).ja i).t
    rw [ms0_ja]; show ((0 : Nat) : Int) = costP ((taAt R.L i).pcs.take 0) + ((0 : Nat) : Int); simp [costP]⟩
  | k + 1 => by
    have h := plM_qt hr hf k
    have hm := plM_ok hr k
    rw [plM, tckA, arr_quiet hr hm hf h]
    exact (h.rel hr hm _).tick hr (hm.relA hr _) hf _
/-- the work that is left of a task -/
def leftI (L : List Ta) (s : Ms) (k : Int) : Int := ((s.qa k.toNat).length : Int) * costT (taAt L k) - ((s.ja k.toNat).d : Int)
def rcA (R : Rn) (k t : Int) : Int := ((outE (evA R k.toNat) t).length : Int)
/-- nothing is there of i and those ahead -/
def Idle (R : Rn) (i : Nat) (s : Ms) : Prop := ∀ x, x < R.L.length → cnt R.L x ≤ cnt R.L i → s.qa x = []
def accL (L : List Ta) (i : Nat) : List Int := aheadL L i ++ [(i : Int)]
theorem accL_mem {L : List Ta} {i : Nat} (hi : i < L.length) {x : Nat} : (x : Int) ∈ accL L i ↔ x < L.length ∧ cnt L x ≤ cnt L i := by
  unfold accL
  rw [List.mem_append, aheadL_mem, aheadB_iff]
  constructor
  · rintro (⟨⟨_, h1⟩, h2⟩ | h)
    · exact ⟨by omega, Nat.le_of_lt ((cnt_ahead (by omega) h1 (by omega) (by omega)).2 h2)⟩
    · have e : x = i := by simp at h; omega
      subst e; exact ⟨hi, Nat.le_refl _⟩
  · rintro ⟨h1, h2⟩
    by_cases e : x = i
    · right; simp [e]
    · left
      refine ⟨⟨by omega, by omega⟩, (cnt_ahead (by omega) (by omega) (by omega) (by omega)).1 ?_⟩
      rcases Nat.lt_or_ge (cnt L x) (cnt L i) with h | h
      · exact h
      · have := cnt_inj (L := L) (x := (x : Int)) (y := (i : Int)) (by omega) (by omega) (by omega) (by omega) (by omega)
        omega
theorem accL_int {L : List Ta} {i : Nat} (hi : i < L.length) {k : Int} (h : k ∈ accL L i) : ∃ x : Nat, k = (x : Int) ∧ x < L.length ∧ cnt L x ≤ cnt L i := by
  have h0 : 0 ≤ k := by
    unfold accL at h
    rw [List.mem_append, aheadL_mem] at h
    rcases h with h | h
    · omega
    · simp at h; omega
  obtain ⟨x, rfl⟩ := Int.eq_ofNat_of_zero_le h0
  exact ⟨x, rfl, (accL_mem hi).1 h⟩
theorem accL_nodup {L : List Ta} {i : Nat} : (accL L i).Nodup := by
  unfold accL
  rw [List.nodup_append]
  refine ⟨(idxs_nodup _).filter _, by simp, ?_⟩
  intro a ha b hb e
  subst e
  simp at hb
  subst hb
  have := (aheadL_mem.1 ha).2
  exact ahead_irr _ (aheadB_iff.1 this)
theorem leftI_rel (hr : RnOk R) (hm : MOk R s) (t : Int) (x : Nat) : leftI R.L (relA t 0 R.ev s) (x : Int) = leftI R.L s (x : Int) + (rcA R x t - rcA R x (t - 1)) * costT (taAt R.L x) := by
  obtain ⟨_, _, h3⟩ := relA_spec t R.ev 0 s (by rw [hm.ql, hr.ev]; omega)
  unfold leftI rcA
  rw [Int.toNat_natCast, h3 x, if_pos (Nat.zero_le _), Nat.sub_zero, relA_ja hr hm, outE_step (evA R x) t]
  unfold evA
  rw [List.length_append, List.length_append]
  simp only [Int.natCast_add, Int.add_mul, Int.sub_mul]
  omega
theorem leftI_other {t : Int} (hm : MOk R s) {y x : Nat} (hy : y < R.L.length) (h : x ≠ y) : leftI R.L (wkA R t y s) (x : Int) = leftI R.L s (x : Int) := by
  obtain ⟨h1, h2⟩ := wkA_other (t := t) hm hy h
  unfold leftI
  rw [Int.toNat_natCast, h1, h2]
theorem leftI_self {t : Int} (hm : MOk R s) (h : Qt R s) {y : Nat} (hy : y < R.L.length) (hq : s.qa y ≠ []) : leftI R.L (wkA R t y s) (y : Int) = leftI R.L s (y : Int) + (-1) := by
  have hnx := h.next hm hy
  unfold leftI
  rw [Int.toNat_natCast]
  rcases wkA_self (t := t) hm hy with ⟨e0, e1, e2⟩ | ⟨hp, e1, _, _, e3, _⟩
  · rw [e1, e2, List.length_tail]
    have hl : 1 ≤ (s.qa y).length := by
      rcases Nat.eq_zero_or_pos (s.qa y).length with q | q
      · exact absurd (List.eq_nil_of_length_eq_zero q) hq
      · exact q
    have ht : (jbN R.L y (s.ja y)).t = 0 := by
      have hp := hm.pc y hy
      unfold jbN at e0 ⊢
      split
      · rfl
      · rename_i q
        rw [if_neg q] at e0
        simp only [] at e0
        omega
    rw [e0, List.take_length, ht] at hnx
    have e4 : costP (taAt R.L y).pcs = costT (taAt R.L y) := rfl
    rw [e4] at hnx
    have e5 : (((s.qa y).length - 1 : Nat) : Int) = ((s.qa y).length : Int) - 1 := by omega
    rw [e5, Int.sub_mul]
    show _ - ((0 : Nat) : Int) = _
    omega
  · rw [e1, e3]; omega
theorem leftI_pos (hr : RnOk R) (hm : MOk R s) (h : Qt R s) {x : Nat} (hx : x < R.L.length) : 0 ≤ leftI R.L s (x : Int) ∧ (leftI R.L s (x : Int) ≤ 0 → s.qa x = []) := by
  have h1 := h.lt hm hr hx
  unfold leftI
  rw [Int.toNat_natCast]
  rcases Nat.eq_zero_or_pos (s.qa x).length with q | q
  · have hq := List.eq_nil_of_length_eq_zero q
    have := hm.rd x hx hq
    rw [this, q]
    exact ⟨by simp [Jb.zero], fun _ => hq⟩
  · have h2 := Int.mul_le_mul_of_nonneg_right (show (1 : Int) ≤ ((s.qa x).length : Int) by omega) (show 0 ≤ costT (taAt R.L x) by omega)
    rw [Int.one_mul] at h2
    exact ⟨by omega, fun h => by omega⟩
theorem diffS_mod {F S w : Int} (hF : 0 < F) (t : Nat) : diffS F S w t = diffS F S w ((t : Int) % F).toNat := by
  have h0 := Int.emod_nonneg (t : Int) (show F ≠ 0 by omega)
  have e := Int.emod_add_mul_ediv (t : Int) F
  unfold diffS
  rw [Int.toNat_of_nonneg h0]
  have e1 : (t : Int) = (t : Int) % F + ((t : Int) / F) * F := by rw [Int.mul_comm]; omega
  have h1 := aheadS_period (S := S) hF ((t : Int) % F + w) ((t : Int) / F)
  have h2 := aheadS_period (S := S) hF ((t : Int) % F) ((t : Int) / F)
  have e2 : (t : Int) % F + w + (t : Int) / F * F = (t : Int) + w := by omega
  rw [e2] at h1
  rw [← e1] at h2
  omega
end
end Go.Proofs.YtlhnhmimhpcoaaaGreat
namespace Go.Proofs.YtlhnhmimhpcoaaaGreat
open Go.RowKit
set_option linter.unusedSimpArgs false
set_option linter.unusedVariables false
theorem sumL_zeros : ∀ ks : List Int, sumL (fun _ => 0) ks = 0
  | [] => rfl
  | k :: ks => by rw [sumL, sumL_zeros ks]; rfl
section
variable {R : Rn} {i : Nat}
theorem idle_left {s : Ms} (hm : MOk R s) (h0 : Idle R i s) (hi : i < R.L.length) : sumL (leftI R.L s) (accL R.L i) = 0 := by
  rw [sumL_eq (g := fun _ => 0) _ (fun k hk => ?_), sumL_zeros]
  obtain ⟨x, rfl, hx, hc⟩ := accL_int hi hk
  have hq := h0 x hx hc
  have hj := hm.rd x hx hq
  unfold leftI
  rw [Int.toNat_natCast, hq, hj]
  simp [Jb.zero]
theorem idle_tick {t : Int} {s : Ms} (hm : MOk R s) (h0 : Idle R i s) : Idle R i (tckB R t s) := by
  intro x hx hc
  have hq := h0 x hx hc
  unfold tckB
  split
  · exact hq
  · split
    · rename_i hcm
      have hch := chosen_of hm hcm
      have hne : x ≠ (chM R.L s).toNat := fun e => hch.rd (by rw [← e]; exact hq)
      rw [(wkA_other (t := t) hm hch.lt hne).2]; exact hq
    · exact hq
/-- what a tick does with what is left, while somebody not behind i is there -/
theorem cyc_tick (hr : RnOk R) (hs : 0 ≤ R.sl ∧ R.sl < R.fr) (hi : i < R.L.length) {t : Nat} {s : Ms} (hm : MOk R s) (hq : Qt R s) {x : Nat} (hx : x < R.L.length) (hxq : s.qa x ≠ []) (hxc : cnt R.L x ≤ cnt R.L i) {b : Int} (hb : BkOk R.L s i b) :
    ∃ b', BkOk R.L (tckB R t s) i b' ∧ sumL (leftI R.L (tckB R t s)) (accL R.L i) + b' + aheadS R.fr R.sl ((t : Int) + 1) = sumL (leftI R.L s) (accL R.L i) + b + aheadS R.fr R.sl t := by
  have hst := aheadS_step hs.1 hs.2 t
  unfold tckB
  by_cases hg : (t : Int) % R.fr < R.sl
  · rw [if_pos hg]
    rw [if_neg (by omega)] at hst
    refine ⟨b, hb.of (fun y _ => .inl ⟨rfl, rfl⟩), ?_⟩
    have : sumL (leftI R.L (s.wr ⟨(t : Int), -1, 3, 0, 0⟩)) (accL R.L i) = sumL (leftI R.L s) (accL R.L i) := sumL_eq _ (fun k _ => rfl)
    rw [this, hst]; omega
  · rw [if_neg hg]
    rw [if_pos (by omega)] at hst
    obtain ⟨h1, h2, h3, h4⟩ := chM_spec R.L s
    have hc := (h3 x hx hxq).1
    rw [if_pos hc]
    have hch := chosen_of hm hc
    obtain ⟨y, hy⟩ : ∃ y, (chM R.L s).toNat = y := ⟨_, rfl⟩
    rw [hy] at hch ⊢
    by_cases hya : cnt R.L y ≤ cnt R.L i
    · refine ⟨b, hb.fore hm hch.lt hya, ?_⟩
      have hmem : (y : Int) ∈ accL R.L i := (accL_mem hi).2 ⟨hch.lt, hya⟩
      have := sumL_upd (f := leftI R.L s) (g := leftI R.L (wkA R t y s)) (y := (y : Int)) (d := -1) _ accL_nodup hmem (leftI_self hm hq hch.lt hch.rd) (fun k hk hne => by
        obtain ⟨z, rfl, _, _⟩ := accL_int hi hk
        exact leftI_other hm hch.lt (by omega))
      rw [this, hst]; omega
    · have hbk := hch.blk hm hx hxq hxc (by omega)
      refine ⟨b - 1, hb.back hm hbk, ?_⟩
      have : sumL (leftI R.L (wkA R t y s)) (accL R.L i) = sumL (leftI R.L s) (accL R.L i) := sumL_eq _ (fun k hk => by
        obtain ⟨z, rfl, _, hz⟩ := accL_int hi hk
        exact leftI_other hm hch.lt (fun e => hya (by rw [← e]; exact hz)))
      rw [this, hst]; omega
theorem cyc (hr : RnOk R) (hf : Fair R) (hs : 0 ≤ R.sl ∧ R.sl < R.fr) (hi : i < R.L.length) {t0 : Nat} (h0 : Idle R i (plM R t0)) : ∀ m : Nat, (∀ u, t0 < u → u ≤ t0 + m → ¬ Idle R i (plM R u)) →
    ∃ b, BkOk R.L (plM R (t0 + m)) i b ∧ sumL (leftI R.L (plM R (t0 + m))) (accL R.L i) + b + (aheadS R.fr R.sl ((t0 : Int) + m) - aheadS R.fr R.sl t0) = blockN R.L i + sumL (fun k => (rcA R k ((t0 : Int) + m - 1) - rcA R k ((t0 : Int) - 1)) * costT (taAt R.L k)) (accL R.L i)
  | 0, _ => by
    refine ⟨blockN R.L i, BkOk.start (plM_ok hr _) hr hi, ?_⟩
    rw [Nat.add_zero, idle_left (plM_ok hr _) h0 hi, sumL_eq (f := fun k => (rcA R k ((t0 : Int) + (0 : Nat) - 1) - rcA R k ((t0 : Int) - 1)) * costT (taAt R.L k)) (g := fun _ => 0) _ (fun k _ => by simp), sumL_zeros]
    simp
  | m + 1, hno => by
    obtain ⟨b, h1, h2⟩ := cyc hr hf hs hi h0 m (fun u a c => hno u a (by omega))
    have hm := plM_ok hr (t0 + m)
    have hq := plM_qt hr hf (t0 + m)
    have ha := arr_quiet hr hm hf hq ((t0 + m : Nat) : Int)
    have hm1 := hm.relA hr ((t0 + m : Nat) : Int)
    have hq1 := hq.rel hr hm ((t0 + m : Nat) : Int)
    have hpl : plM R (t0 + (m + 1)) = tckB R ((t0 + m : Nat) : Int) (relA ((t0 + m : Nat) : Int) 0 R.ev (plM R (t0 + m))) := by
      rw [show t0 + (m + 1) = t0 + m + 1 by omega, plM, tckA, ha]
    have hn := hno (t0 + (m + 1)) (by omega) (by omega)
    rw [hpl] at hn ⊢
    obtain ⟨s1, hs1⟩ : ∃ s1, relA ((t0 + m : Nat) : Int) 0 R.ev (plM R (t0 + m)) = s1 := ⟨_, rfl⟩
    have hb1 : BkOk R.L s1 i b := by rw [← hs1]; exact h1.of (fun y _ => .inl (by rw [relA_ja hr hm]; exact ⟨rfl, rfl⟩))
    have hleft : sumL (leftI R.L s1) (accL R.L i) = sumL (leftI R.L (plM R (t0 + m))) (accL R.L i) + sumL (fun k => (rcA R k ((t0 + m : Nat) : Int) - rcA R k (((t0 + m : Nat) : Int) - 1)) * costT (taAt R.L k)) (accL R.L i) := by
      rw [← sumL_add]
      refine sumL_eq _ (fun k hk => ?_)
      obtain ⟨x, rfl, _, _⟩ := accL_int hi hk
      rw [← hs1]; exact leftI_rel hr hm _ x
    rw [hs1] at hm1 hq1 hn ⊢
    have hex : ∃ x, x < R.L.length ∧ cnt R.L x ≤ cnt R.L i ∧ s1.qa x ≠ [] := by
      apply Classical.byContradiction
      intro hne
      exact hn (idle_tick hm1 (fun x hx hc => Classical.byContradiction fun q => hne ⟨x, hx, hc, q⟩))
    obtain ⟨x, hx, hc, hxq⟩ := hex
    obtain ⟨b', h3, h4⟩ := cyc_tick hr hs hi (t := t0 + m) hm1 hq1 hx hxq hc hb1
    refine ⟨b', h3, ?_⟩
    have hsum : sumL (fun k => (rcA R k ((t0 : Int) + ((m + 1 : Nat) : Int) - 1) - rcA R k ((t0 : Int) - 1)) * costT (taAt R.L k)) (accL R.L i) = sumL (fun k => (rcA R k ((t0 + m : Nat) : Int) - rcA R k (((t0 + m : Nat) : Int) - 1)) * costT (taAt R.L k)) (accL R.L i) + sumL (fun k => (rcA R k ((t0 : Int) + m - 1) - rcA R k ((t0 : Int) - 1)) * costT (taAt R.L k)) (accL R.L i) := by
      rw [← sumL_add]
      refine sumL_eq _ (fun k _ => ?_)
      rw [show (t0 : Int) + ((m + 1 : Nat) : Int) - 1 = ((t0 + m : Nat) : Int) by omega, show (t0 : Int) + m - 1 = ((t0 + m : Nat) : Int) - 1 by omega, ← Int.add_mul]
      congr 1; omega
    rw [hsum]
    rw [show (t0 : Int) + ((m + 1 : Nat) : Int) = ((t0 + m : Nat) : Int) + 1 by omega]
    rw [show (t0 : Int) + (m : Int) = ((t0 + m : Nat) : Int) by omega] at h2
    rw [show (t0 : Int) + (m : Int) - 1 = ((t0 + m : Nat) : Int) - 1 by omega]
    omega
theorem rc_le (hr : RnOk R) (hf : Fair R) (hv : ValidT R.L) {x : Nat} (hx : x < R.L.length) (t0 W : Nat) : rcA R x ((t0 : Int) + W - 1) - rcA R x ((t0 : Int) - 1) ≤ mostN (taAt R.L x).gap (taAt R.L x).jit W := by
  have hev : x < R.ev.length := by rw [hr.ev]; exact hx
  have hel := (hr.el (evA R x) (by unfold evA; rw [List.getElem?_eq_getElem hev]; exact List.getElem_mem hev)).2
  have hm := ta_mem hx
  have h1 := cN_most (from_ := (t0 : Int)) (win := (W : Int)) (hv.gap _ hm).1 (hv.jit _ hm).1 (by omega) (evA R x) _ (fun e he => (hel e he).2.1) (hf.ev x hx)
  rw [cN_cP (by omega)] at h1
  unfold rcA
  rw [Int.toNat_natCast, outE_cP, outE_cP]
  exact h1
/-- from a moment without work of i and those ahead, there is another one within the window -/
theorem idle_next (hr : RnOk R) (hf : Fair R) (hv : ValidT R.L) (hs : 0 ≤ R.sl ∧ R.sl < R.fr) (hi : i < R.L.length) {W : Nat} (hW : 1 ≤ W) (hd : demN R.L i W ≤ leastN R.fr R.sl W) (hj : (taAt R.L i).jit + W ≤ (taAt R.L i).gap) {t0 : Nat} (h0 : Idle R i (plM R t0)) :
    ∃ u, t0 < u ∧ u ≤ t0 + W ∧ Idle R i (plM R u) := by
  apply Classical.byContradiction
  intro hne
  have hno : ∀ u, t0 < u → u ≤ t0 + W → ¬ Idle R i (plM R u) := fun u h1 h2 h3 => hne ⟨u, h1, h2, h3⟩
  obtain ⟨b, h1, h2⟩ := cyc hr hf hs hi h0 W hno
  have hb := h1.pos
  have hF : 0 < R.fr := by omega
  have hr0 := Int.emod_nonneg (t0 : Int) (show R.fr ≠ 0 by omega)
  have hr1 := Int.emod_lt_of_pos (t0 : Int) hF
  have hsup : leastN R.fr R.sl W ≤ aheadS R.fr R.sl ((t0 : Int) + W) - aheadS R.fr R.sl t0 := by
    have h3 := (isLeast hs.1 hs.2 W).le ((t0 : Int) % R.fr).toNat (by omega)
    rw [← diffS_mod hF] at h3
    exact h3
  have hown : mostN (taAt R.L i).gap (taAt R.L i).jit W = 1 := by
    have hm := ta_mem hi
    have g1 := (hv.gap _ hm).1
    have g2 := (hv.jit _ hm).1
    unfold mostN
    rw [if_neg (by omega), Int.ediv_eq_zero_of_lt (by omega) (by omega)]
    rfl
  have hcost : ∀ x, x < R.L.length → 0 ≤ costT (taAt R.L x) := fun x hx => by have := (costT_bd hr.r (ta_mem hx)).1; omega
  have hdem : sumL (fun k => (rcA R k ((t0 : Int) + W - 1) - rcA R k ((t0 : Int) - 1)) * costT (taAt R.L k)) (accL R.L i) + blockN R.L i ≤ demN R.L i W := by
    have hle := sumL_le (f := fun k => (rcA R k ((t0 : Int) + W - 1) - rcA R k ((t0 : Int) - 1)) * costT (taAt R.L k)) (g := fun k => demT (taAt R.L k) W) (accL R.L i) (fun k hk => by
      obtain ⟨x, rfl, hx, _⟩ := accL_int hi hk
      exact Int.mul_le_mul_of_nonneg_right (rc_le hr hf hv hx t0 W) (hcost x hx))
    have e : sumL (fun k => demT (taAt R.L k) W) (accL R.L i) = sumL (fun k => demT (taAt R.L k) W) (aheadL R.L i) + costT (taAt R.L i) := by
      unfold accL
      rw [sumL_app]
      have : demT (taAt R.L (i : Int)) W = costT (taAt R.L i) := by unfold demT; rw [hown, Int.one_mul]
      simp only [sumL, this]; omega
    unfold demN
    rw [demL_sum]
    unfold ownN
    omega
  have hpos : ∀ k ∈ accL R.L i, 0 ≤ leftI R.L (plM R (t0 + W)) k := fun k hk => by
    obtain ⟨x, rfl, hx, _⟩ := accL_int hi hk
    exact (leftI_pos hr (plM_ok hr _) (plM_qt hr hf _) hx).1
  have hz := (sumL_zero _ hpos).2 (by omega)
  refine hno (t0 + W) (by omega) (Nat.le_refl _) (fun x hx hc => ?_)
  exact (leftI_pos hr (plM_ok hr _) (plM_qt hr hf _) hx).2 (hz _ ((accL_mem hi).2 ⟨hx, hc⟩))
theorem idle_after (hr : RnOk R) (hf : Fair R) (hv : ValidT R.L) (hs : 0 ≤ R.sl ∧ R.sl < R.fr) (hi : i < R.L.length) {W : Nat} (hW : 1 ≤ W) (hd : demN R.L i W ≤ leastN R.fr R.sl W) (hj : (taAt R.L i).jit + W ≤ (taAt R.L i).gap) (r : Nat) : ∃ u, r < u ∧ u ≤ r + W ∧ Idle R i (plM R u) := by
  have key : ∀ (d t0 : Nat), r - t0 ≤ d → t0 ≤ r → Idle R i (plM R t0) → ∃ u, r < u ∧ u ≤ r + W ∧ Idle R i (plM R u) := by
    intro d
    induction d with
    | zero =>
      intro t0 h1 h2 h0
      obtain ⟨u, g1, g2, g3⟩ := idle_next hr hf hv hs hi hW hd hj h0
      exact ⟨u, by omega, by omega, g3⟩
    | succ d ih =>
      intro t0 h1 h2 h0
      obtain ⟨u, g1, g2, g3⟩ := idle_next hr hf hv hs hi hW hd hj h0
      by_cases hu : r < u
      · exact ⟨u, hu, by omega, g3⟩
      · exact ih u (by omega) (by omega) g3
  exact key r 0 (by omega) (Nat.zero_le _) (fun x _ _ => by show (ms0 R.L.length).qa x = []; exact ms0_qa _ _)
end
end Go.Proofs.YtlhnhmimhpcoaaaGreat
namespace Go.Proofs.YtlhnhmimhpcoaaaGreat
open Go.RowKit
set_option linter.unusedSimpArgs false
set_option linter.unusedVariables false
/-- the task whose rank a piece has -/
def raisA (L : List Ta) (y p : Nat) : Int := if 0 ≤ lkA L y p then ceilG L (lkA L y p) else y
/-- task x is ahead of the work of piece p of task y -/
def AheadW (L : List Ta) (x y p : Nat) : Prop := x < L.length ∧ cnt L x < cnt L y ∧ cnt L x < cnt L (raisA L y p)
structure RkI (R : Rn) (s : Ms) : Prop where
  h : ∀ e ∈ s.o, e.w = 4 → ∀ y p : Nat, e.k = (y : Int) → e.a = (p : Int) → ∀ x k : Nat, AheadW R.L x y p → k < (evA R x).length → relT (evA R x) k ≤ e.m → 0 ≤ endF s.o x k ∧ endF s.o x k ≤ e.m
theorem RkI.of {R : Rn} {s s' : Ms} (h : RkI R s) {l : List En} (ho : s'.o = s.o ++ l) (h5 : ∀ e ∈ l, e.w ≠ 5 ∧ e.w ≠ 4) : RkI R s' := by
  have he : ∀ i x, endF s'.o i x = endF s.o i x := fun i x => by rw [ho]; exact endF_app _ _ _ _ (fun e q r => (h5 e q).1 r.1)
  refine ⟨fun e q w4 y p hy hp x k ha hk hr => ?_⟩
  rw [he]
  rw [ho, List.mem_append] at q
  rcases q with q | q
  · exact h.h e q w4 y p hy hp x k ha hk hr
  · exact absurd w4 (h5 e q).2
theorem RkI.fin {R : Rn} {T : Int} {s : Ms} {at_ : List Nat} (h : RkI R s) (hE : EI R T s at_) {i a : Nat} {how : Int} (hi : i < R.L.length) (ha : at_[i]? = some a) (hx : (ordE (evA R i))[a]? = some (s.hd i)) : RkI R (fin1 T i how s) := by
  have ho : (fin1 T i how s).o = s.o ++ [⟨T, i, 5, s.hd i, how⟩] := rfl
  refine ⟨fun e q w4 y p hy hp x k hA hk hr => ?_⟩
  rw [ho, List.mem_append] at q
  rcases q with q | q
  · have h0 := h.h e q w4 y p hy hp x k hA hk hr
    have e1 : endF (fin1 T i how s).o x k = endF s.o x k := by
      rw [ho, endF_one]
      unfold endG
      rw [if_neg]
      rintro ⟨_, h1, h2⟩
      simp only [] at h1 h2
      have : i = x := by omega
      subst this
      have := hE.new i a a _ ha hx (Nat.le_refl _)
      rw [h2] at this
      omega
    rw [e1]; exact h0
  · simp at q; subst q; simp at w4
theorem ahead_idle {R : Rn} {s : Ms} {y : Nat} (hm : MOk R s) (hch : Chosen R s y) {x : Nat} (hA : AheadW R.L x y (s.ja y).p) : s.qa x = [] := by
  obtain ⟨hx, h1, h2⟩ := hA
  by_cases hq : s.qa x = []
  · exact hq
  · exfalso
    have hk := hch.le x hx hq
    have hto := (hm.to_ hx).2
    unfold keyI at hk
    have ho : ownI R.L s x ≤ 1 := by unfold ownI; split <;> omega
    have hle : cnt R.L (toI R.L s y) ≤ cnt R.L x := by omega
    cases hc : insB R.L s y
    · rw [toI_no hc] at hle; omega
    · have hl := (insB_iff.1 hc).2
      have e : toI R.L s y = raisA R.L y (s.ja y).p := by
        unfold toI raisA
        rw [hc, if_pos hl]; rfl
      rw [e] at hle; omega
theorem idle_ends {R : Rn} {t T : Int} {s : Ms} {at_ : List Nat} (hq : QR R t s at_) (hE : EI R T s at_) {x k : Nat} (hx : x < R.L.length) (h0 : s.qa x = []) (hk : k < (evA R x).length) (hr : relT (evA R x) k ≤ t) : 0 ≤ endF s.o x k ∧ endF s.o x k ≤ T := by
  have hil : x < at_.length := by rw [hq.len]; exact hx
  have ha := List.getElem?_eq_getElem hil
  obtain ⟨j, hj⟩ := List.getElem?_of_mem (ordE_mem (l := evA R x).2 ⟨show (0 : Int) ≤ (k : Int) by omega, by omega⟩)
  obtain ⟨g1, g2⟩ := hq.q x _ ha
  rw [h0] at g1
  have h2 := congrArg List.length g1
  rw [List.length_drop] at h2
  simp only [List.length_nil] at h2
  have hlt := ((outE_facts (evA R x) t).2 j _ hj).1 hr
  exact hE.old x _ j _ ha hj (by omega)
theorem RkI.work {R : Rn} {t : Int} {s : Ms} {at_ : List Nat} {i a : Nat} (h : RkI R s) (hE : EI R t s at_) (hm : MOk R s) (hq : QR R t s at_) (hch : Chosen R s i) (ha : at_[i]? = some a) : RkI R (wk1 R t i s) := by
  have ho : (wk1 R t i s).o = s.o ++ [⟨t, i, 4, (s.ja i).p, s.hd i⟩] := rfl
  refine ⟨fun e q w4 y p hy hp x k hA hk hr => ?_⟩
  have e1 : endF (wk1 R t i s).o x k = endF s.o x k := by rw [ho]; exact endF_app _ _ _ _ (fun e q r => by simp at q; subst q; simp at r)
  rw [e1]
  rw [ho, List.mem_append] at q
  rcases q with q | q
  · exact h.h e q w4 y p hy hp x k hA hk hr
  · simp at q; subst q
    simp only [] at hy hp hr ⊢
    obtain rfl : i = y := by omega
    obtain rfl : (s.ja i).p = p := by omega
    exact idle_ends hq hE hA.1 (ahead_idle hm hch hA) hk hr
theorem rk_steps {R : Rn} (hr : RnOk R) : Steps R (fun t s at_ => EI R t s at_ ∧ RkI R s) (fun t s at_ => EI R (t + 1) s at_ ∧ RkI R s) := by
  have hE := ends_steps hr
  refine ⟨?_, ?_, ?_, ?_, ?_, ?_, ?_, ?_⟩
  · intro t s at_ hm hq hp
    obtain ⟨l, h1, h2⟩ := relA_newE t R.ev 0 s
    exact ⟨hE.rel t s at_ hm hq hp.1, hp.2.of h1 (fun e q => by rw [(h2 e q).2]; decide)⟩
  · intro t s at_ i hm hq hi hn hp
    exact ⟨hE.sig t s at_ i hm hq hi hn hp.1, hp.2.of (l := [⟨t, i, 2, 0, 0⟩]) rfl (fun e q => by simp at q; subst q; simp)⟩
  · intro t s at_ i a hm hq hi hn ha hs hin hp
    exact ⟨hE.fin t s at_ i a hm hq hi hn ha hs hin hp.1, hp.2.fin hp.1 hi ha (hq.event ha hn)⟩
  · intro t s at_ hm hq hs hg hp
    exact ⟨hE.gc t s at_ hm hq hs hg hp.1, hp.2.of (l := [⟨t, -1, 3, 0, 0⟩]) rfl (fun e q => by simp at q; subst q; simp)⟩
  · intro t s at_ hm hq hs hg hn hp
    exact ⟨hE.idle t s at_ hm hq hs hg hn hp.1, hp.2⟩
  · intro t s at_ i a hm hq hs hg hch ha hfin hp
    refine ⟨hE.w0 t s at_ i a hm hq hs hg hch ha hfin hp.1, ?_⟩
    have h1 := hp.1.work hm hq hch ha
    exact (hp.2.work hp.1 hm hq hch ha).fin (s := wk1 R t i s) h1 hch.lt ha (hq.event ha hch.rd)
  · intro t s at_ i a hm hq hs hg hch ha hpl hbu hp
    exact ⟨hE.w1 t s at_ i a hm hq hs hg hch ha hpl hbu hp.1, hp.2.work hp.1 hm hq hch ha⟩
  · intro t s at_ i a hm hq hs hg hch ha hpl hbu hp
    refine ⟨hE.w2 t s at_ i a hm hq hs hg hch ha hpl hbu hp.1, ?_⟩
    exact (hp.2.work hp.1 hm hq hch ha).of (s' := wk2 R t i s) (l := [⟨t + 1, i, 6, s.hd i, 0⟩]) rfl (fun e q => by simp at q; subst q; simp)
theorem plM_rk {R : Rn} (hr : RnOk R) (k : Nat) : RkI R (plM R k) := by
  obtain ⟨at_, _, h1, h2⟩ := (rk_steps hr).run hr ⟨EI.zero hr, ⟨fun e q => by simp [ms0] at q⟩⟩ k
  exact h2
/-- those ahead of both, as the law takes them from the ranks -/
theorem ranks_before {L : List Ta} {i : Nat} {x : Int} (hx : (rankL L)[i]? = some x) {y r : Int} (hy0 : 0 ≤ y ∧ y < L.length) (hr0 : 0 ≤ r ∧ r < L.length) (h : ∀ j, j ≤ i → (rankL L)[j]? ≠ some r ∧ (rankL L)[j]? ≠ some y) : cnt L x < cnt L y ∧ cnt L x < cnt L r := by
  have e := rank_cnt hx
  have ey := rank_at hy0.1 hy0.2
  have er := rank_at hr0.1 hr0.2
  constructor
  · rcases Nat.lt_or_ge (cnt L x) (cnt L y) with q | q
    · exact q
    · exact absurd ey (h _ (by omega)).2
  · rcases Nat.lt_or_ge (cnt L x) (cnt L r) with q | q
    · exact q
    · exact absurd er (h _ (by omega)).1
end Go.Proofs.YtlhnhmimhpcoaaaGreat
namespace Go.Proofs.YtlhnhmimhpcoaaaGreat
open Go.RowKit
set_option linter.unusedSimpArgs false
set_option linter.unusedVariables false
/-- the place of x -/
theorem indexR_any (a : Option Addr) (n c p : Nat) (xs : List Int) (x : Int) (w : World) (hR : Rd w a n 1 (xs.map enc1)) (hx : xs[p]? = some x) (hn : xs.Nodup) :
    Calls Tryz.prog 136 #[.slice a n c, .int .i64 x] w fun e w' => e = .returned (.int .i64 (p : Nat)) ∧ w = w' := by
  have hs := hR.small
  have hpl := (List.getElem?_eq_some_iff.1 hx).1
  rw [hR.length] at hpl
  have HR := Lib.hid hR
  have HU : Hid (∀ k y, xs[k]? = some y → y = x → k = p) := Lib.hid (fun k y hk e => by
    obtain ⟨h1, e1⟩ := List.getElem?_eq_some_iff.1 hk
    obtain ⟨h2, e2⟩ := List.getElem?_eq_some_iff.1 hx
    exact (List.getElem_inj hn).1 (by rw [e1, e2, e]))
  have HX := Lib.hid hx
  clear hR hn hx
  go_enter Tryz.func136, Tryz.ntmps136
  go_wp2
  go_loop [8] (fun i => ∃ k : Nat, k ≤ p ∧ i = .int .i64 k) (fun i => n - (intOf i).toNat)
  case atStart => exact ⟨0, Nat.zero_le _, rfl⟩
  case round =>
    obtain ⟨k, hk, rfl⟩ := hrel
    have hlt : k < n := by omega
    obtain ⟨y, b, off, rfl, hb, hc, hy⟩ := HR.out.idx k hlt
    by_cases hxy : y = x
    · obtain rfl := HU.out k y hy hxy
      subst hxy
      clear hy
      go_wp2
      go_ret
      exact ⟨rfl, rfl⟩
    · have hxy' : (x == y) = false := by simpa using fun q => hxy (q.symm)
      have hkp : k ≠ p := by
        rintro rfl
        rw [HX.out] at hy
        exact hxy (by simpa using hy.symm)
      clear hy
      go_wp2
      go_round
      case rel => exact ⟨k + 1, by omega, by go_num⟩
      case measure => simp [intOf]; omega
theorem bcost_is {t : Ta} {pa : Option Addr} {pn pc : Nat} {x : Int} {w : World} (hp : Rd w pa pn 2 (t.pcs.map enc2)) (hv : ∀ q ∈ t.pcs, 1 ≤ q.1 ∧ q.1 ≤ 200) (hn : pn ≤ 8) (h : costT t = x) :
    Calls Tryz.prog 67 #[.agg #[.int .i64 t.pri, .int .i64 t.dl, .int .i64 t.first, .int .i64 t.gap, .int .i64 t.jit, .slice pa pn pc]] w fun e w' => e = .returned (.int .i64 x) ∧ Below w.heap.size w w' := by
  subst h; exact cost_any _ _ _ _ _ pa pn pc t.pcs w hp hv hn
theorem rcost_is {t : Ta} {pa : Option Addr} {pn pc : Nat} {x : Int} {w : World} (hp : Rd w pa pn 2 (t.pcs.map enc2)) (hv : ∀ q ∈ t.pcs, 1 ≤ q.1 ∧ q.1 ≤ 200) (hn : pn ≤ 8) (h : costT t = x) :
    Calls Tryz.prog 72 #[.agg #[.int .i64 t.pri, .int .i64 t.dl, .int .i64 t.first, .int .i64 t.gap, .int .i64 t.jit, .slice pa pn pc]] w fun e w' => e = .returned (.int .i64 x) ∧ Below w.heap.size w w' := by
  subst h; exact rcost_any _ _ _ _ _ pa pn pc t.pcs w hp hv hn
theorem Blocking_is {a : Option Addr} {n c : Nat} {L : List Ta} {t x e : Int} {w : World} (hL : RdL w a n L) (h : blkgR L t = (x, e)) :
    Calls Tryz.prog 135 #[.slice a n c, .int .i64 t] w fun en w' => en = rII x e ∧ Below w.heap.size w w' := by
  have := Blocking_any a n c L t w hL
  rw [h] at this; exact this
/-- what the closure of demand has captured -/
structure DemC (L : List Ta) (q : Nat) (a : Option Addr) (n c o h b : Nat) (w : World) : Prop where
  own : w.cell? ⟨o, 0, none⟩ = some (.int .i64 (ownN L q))
  box : w.cell? ⟨b, 0, none⟩ = some (.slice a n c)
  ho : o < w.heap.size
  hb : b < w.heap.size
  hh : h < w.heap.size
  ahead : ∃ (a2 : Option Addr) (c2 : Nat), w.cell? ⟨h, 0, none⟩ = some (.slice a2 (cnt L q) c2) ∧ Rd w a2 (cnt L q) 1 (((rankL L).take (cnt L q)).map enc1)
  rd : RdL w a n L
theorem DemC.ext {L : List Ta} {q : Nat} {a : Option Addr} {n c o h b : Nat} {w w' : World} (hc : DemC L q a n c o h b w) (hb : Below w.heap.size w w') : DemC L q a n c o h b w' := by
  obtain ⟨a2, c2, h1, h2⟩ := hc.ahead
  exact ⟨(hb.cell (p := ⟨o, 0, none⟩) hc.ho).trans hc.own, (hb.cell (p := ⟨b, 0, none⟩) hc.hb).trans hc.box, Nat.lt_of_lt_of_le hc.ho hb.size, Nat.lt_of_lt_of_le hc.hb hb.size, Nat.lt_of_lt_of_le hc.hh hb.size,
    ⟨a2, c2, (hb.cell (p := ⟨h, 0, none⟩) hc.hh).trans h1, h2.ext hb⟩, hc.rd.ext hb⟩
theorem owns_capR {w : World} {B e k n c : Nat} {a : Option Addr} {xs : List Value} (h : w.ownsRow B e k (.slice a n c) n xs) : n ≤ c := by
  rcases h.2 with ⟨hv, h8⟩ | ⟨g, cap, cur, hv, _, _, hle, _⟩
  · omega
  · simp at hv
    obtain ⟨_, rfl⟩ := hv
    omega
/-- a task's cells, in every later world -/
theorem RdL.cells {w : World} {a : Option Addr} {n : Nat} {L : List Ta} (h : RdL w a n L) (k : Nat) (hk : k < n) : ∃ (t : Ta) (b off : Nat) (pa : Option Addr) (pn pc : Nat), a = some ⟨b, off, none⟩ ∧ b < w.heap.size ∧ L[k]? = some t ∧ t.pcs.length = pn ∧ Hid (∀ wx : World, Below w.heap.size w wx →
    wx.cell? ⟨b, off + k * 6, none⟩ = some (.int .i64 t.pri) ∧ wx.cell? ⟨b, off + k * 6 + 1, none⟩ = some (.int .i64 t.dl) ∧ wx.cell? ⟨b, off + k * 6 + 2, none⟩ = some (.int .i64 t.first) ∧ wx.cell? ⟨b, off + k * 6 + 3, none⟩ = some (.int .i64 t.gap) ∧
    wx.cell? ⟨b, off + k * 6 + 4, none⟩ = some (.int .i64 t.jit) ∧ wx.cell? ⟨b, off + k * 6 + 5, none⟩ = some (.slice pa pn pc) ∧ b < wx.heap.size ∧ Rd wx pa pn 2 (t.pcs.map enc2)) := by
  obtain ⟨t, b, off, pa, pn, pc, rfl, hb, c0, c1, c2, c3, c4, c5, hp, _, hg, _⟩ := h.at_ k hk
  exact ⟨t, b, off, pa, pn, pc, rfl, hb, hg, hp.length, fun wx h => ⟨(h.cell (p := ⟨b, off + k * 6, none⟩) hb).trans c0, (h.cell (p := ⟨b, off + k * 6 + 1, none⟩) hb).trans c1, (h.cell (p := ⟨b, off + k * 6 + 2, none⟩) hb).trans c2, (h.cell (p := ⟨b, off + k * 6 + 3, none⟩) hb).trans c3, (h.cell (p := ⟨b, off + k * 6 + 4, none⟩) hb).trans c4, (h.cell (p := ⟨b, off + k * 6 + 5, none⟩) hb).trans c5, Nat.lt_of_lt_of_le hb h.size, hp.ext h⟩⟩
theorem Rd.take1 {w : World} {a : Option Addr} {n k : Nat} {xs : List Int} (h : Rd w a n 1 (xs.map enc1)) (hk : k ≤ n) : Rd w a k 1 ((xs.take k).map enc1) := by
  have hl := h.length
  refine ⟨by simp; omega, Nat.le_trans hk h.small, fun h0 => ?_⟩
  obtain ⟨b, off, rfl, hb, hc⟩ := h.at_ (by omega)
  refine ⟨b, off, rfl, hb, fun i hi j hj => ?_⟩
  have hi' : i < xs.length := by simp at hi; omega
  have := hc i (by simpa using hi') j hj
  rw [this]
  simp
set_option maxRecDepth 10000 in
set_option maxHeartbeats 2000000 in
theorem demand_any (a : Option Addr) (n c q : Nat) (L : List Ta) (w : World) (hL : RdL w a n L) (hv : ValidT L) (hq : q < n) :
    Calls Tryz.prog 129 #[.slice a n c, .int .i64 (q : Nat)] w fun e w' => ∃ o h b, e = .returned (.func (.func 137) #[] #[.pointer (some ⟨o, 0, none⟩), .pointer (some ⟨h, 0, none⟩), .pointer (some ⟨b, 0, none⟩)]) ∧ DemC L q a n c o h b w' ∧ Below w.heap.size w w' := by
  have hll := hL.length
  have hs := hL.small
  have hn5 := hv.r.len
  rw [hll] at hn5
  obtain ⟨u, b, off, pa, pn, pc, rfl, hb, hg, hpl, HK⟩ := hL.cells q hq
  have hpn := hv.r.pcs u (List.mem_of_getElem? hg)
  rw [hpl] at hpn
  have HPV : Hid (∀ p ∈ u.pcs, 1 ≤ p.1 ∧ p.1 ≤ 200) := Lib.hid (fun p hp => (hv.r.piece u (List.mem_of_getElem? hg) p hp).1)
  have HRK : Hid (ranksR L = (rankL L, 0)) := Lib.hid (by rw [ranksR, hv.rb]; rfl)
  have HBK : Hid (blkgR L q = (blockN L q, 0)) := Lib.hid (by rw [blkgR, isTk_iff.2 ⟨hv.rb, by omega, by omega⟩]; rfl)
  have HPL : Hid ((rankL L)[cnt L q]? = some (q : Int)) := Lib.hid (rank_at (by omega) (by omega))
  have hcq : cnt L q < n := by have := cnt_lt (L := L) (x := q) (by omega) (by omega); omega
  have HND := Lib.hid (rank_nodup L)
  have HRL : Hid ((rankL L).length = n) := Lib.hid (by rw [rank_len, hll])
  have hbk := blockN_bd hv.r q
  have hct := costT_bd hv.r (List.mem_of_getElem? hg)
  have HOW : Hid (ownN L q = costT u + blockN L q) := Lib.hid (by rw [ownN, taAt_of hg])
  have HV := Lib.hid hv
  have HR := Lib.hid hL
  obtain ⟨bn, hbn⟩ : ∃ x, blockN L q = x := ⟨_, rfl⟩
  obtain ⟨cq, hcqe⟩ : ∃ x, cnt L q = x := ⟨_, rfl⟩
  obtain ⟨ct, hcte⟩ : ∃ x, costT u = x := ⟨_, rfl⟩
  obtain ⟨rk, hrke⟩ : ∃ x, rankL L = x := ⟨_, rfl⟩
  have HCT := Lib.hid hcte
  have HCQ := Lib.hid hcqe
  have HRE := Lib.hid hrke
  rw [hbn] at HBK hbk HOW
  rw [hcqe] at HPL hcq
  rw [hcte] at hct HOW
  rw [hrke] at HRK HPL HND HRL
  clear hL hv hll hg hbn hcqe hcte hrke hb hpl
  go_enter Tryz.func129, Tryz.ntmps129
  go_wp2_with (first
    | (go_at_call 40; (with_reducible refine (Ranks_is (HR.out.ext (by (repeat' (first | (with_reducible exact Below.refl _ _) | (with_reducible assumption) | (with_reducible refine Below.alloc ?_ ?_ _) | (with_reducible refine Below.drew ?_) | (with_reducible refine Below.draws ?_ _) | (with_reducible refine Below.setCell ?_ ?_ _) | (refine Below.then ?_ (by with_reducible assumption)) | go_size)))) HRK.out).mono ?_); rintro e w1 ⟨a1, n1, c1, rfl, ho1, hb1⟩; have R1 := Lib.hid (ownsI_rd ho1); have hca1 := owns_capR ho1; have hn1 : rk.length = n1 := (ownsI_rd ho1).length; have x0 := (hb1.cell (p := ⟨w.heap.size, 0, none⟩) (by simp)).trans (show _ = some (.slice (some ⟨b, off, none⟩) n c) by simp [go_sem]); have hz1 := hb1.size; have W1 : Hid (Below w.heap.size w w1) := Lib.hid (Below.then (Below.alloc (Below.refl _ _) (Nat.le_refl _) _) hb1); clear ho1 hb1; simp only [World.size_alloc] at hz1)
    | (go_at_call 135; (with_reducible refine (Blocking_is (HR.out.ext (by repeat (first | (with_reducible exact Below.refl _ _) | (refine Below.then ?_ (Hid.out (by with_reducible assumption)))))) HBK.out).mono ?_); rintro e w2 ⟨rfl, hb2⟩; have x1 := (hb2.cell (p := ⟨w.heap.size, 0, none⟩) (by simp only []; omega)).trans x0; have B2 := Lib.hid hb2; have hz2 := hb2.size; have hs3 : w.heap.size < w2.heap.size := (by omega); have hcc : cq ≤ c1 := (by have := HRL.out; omega); obtain ⟨k0, k1, k2, k3, k4, k5, hbw2, hpp⟩ := HK.out w2 (Below.then W1.out hb2); have HPP := Lib.hid hpp; clear hb2 hpp)
    | (go_at_call 136; (with_reducible refine (indexR_any _ _ _ _ _ _ _ (R1.out.ext B2.out) HPL.out HND.out).mono ?_); rintro e w3 ⟨rfl, rfl⟩)
    | (go_at_call 67; (with_reducible refine (bcost_is (HPP.out.ext (Below.alloc (Below.refl _ _) (Nat.le_refl _) _)) HPV.out hpn.2 HCT.out).mono ?_); rintro e w4 ⟨rfl, hb4⟩; have B4 := Lib.hid hb4; have y9 := (hb4.cell (p := ⟨w2.heap.size, 0, none⟩) (by simp)).trans (show _ = some (.slice a1 cq c1) by simp [go_sem]); have y0 := (hb4.cell (p := ⟨w.heap.size, 0, none⟩) (by simp; omega)).trans (show _ = some (.slice (some ⟨b, off, none⟩) n c) by simp [go_sem, *]); have hz4 := hb4.size; simp only [World.size_alloc] at hz4; clear hb4))
  go_ret
  have hW : Below w.heap.size w w4 := Below.then (Below.alloc (Below.then W1.out B2.out) (by omega) _) B4.out
  have hX : Below w4.heap.size w4 (w4.alloc (.cells #[.int .i64 (ct + bn)] 3)) := Below.alloc (Below.refl _ _) (Nat.le_refl _) _
  refine ⟨_, _, _, rfl, ⟨by rw [HOW.out]; simp [go_sem], (hX.cell (p := ⟨w.heap.size, 0, none⟩) (by simp only []; omega)).trans y0, by simp, by simp; omega, by simp; omega, ⟨a1, c1, ?_, ?_⟩, HR.out.ext (hW.trans (hX.mono (by omega)))⟩, hW.trans (hX.mono (by omega))⟩
  · rw [HCQ.out]; exact (hX.cell (p := ⟨w2.heap.size, 0, none⟩) (by simp only []; omega)).trans y9
  · rw [HCQ.out, HRE.out]
    have hB : Below w1.heap.size w1 w4 := Below.then (Below.alloc B2.out B2.out.size _) B4.out
    exact ((R1.out.ext hB).ext hX).take1 (by have := HRL.out; omega)
theorem most_is {f g j v x : Int} {w : World} (hv : vpat f g j = true) (h0 : 0 ≤ v ∧ v ≤ 1000000) (h : mostN g j v = x) : Calls Tryz.prog 138 #[.agg #[.int .i64 f, .int .i64 g, .int .i64 j], .int .i64 v] w fun e w' => e = rII x 0 ∧ Below w.heap.size w w' := by
  have := most_any f g j v w
  rw [show mostR f g j v = (x, 0) by rw [mostR, hv, inB_iff.2 h0, h]; rfl] at this
  exact this
theorem demL_cons {L : List Ta} {w : Int} {k : Int} {ks : List Int} {n : Int} : demL L w (k :: ks) n = demL L w ks (n + demT (taAt L k) w) := rfl
set_option maxRecDepth 10000 in
set_option maxHeartbeats 2000000 in
theorem demf_any (a : Option Addr) (n c q o h b : Nat) (L : List Ta) (v : Int) (w : World) (hv : ValidT L) (hq : q < n) (hc : DemC L q a n c o h b w) (h0 : 0 ≤ v ∧ v ≤ 1000000) :
    Calls Tryz.prog 137 #[.int .i64 v, .pointer (some ⟨o, 0, none⟩), .pointer (some ⟨h, 0, none⟩), .pointer (some ⟨b, 0, none⟩)] w fun e w' => e = .returned (.int .i64 (demN L q v)) ∧ Below w.heap.size w w' := by
  have hll := hc.rd.length
  have hn5 := hv.r.len
  have hs := hc.rd.small
  rw [hll] at hn5
  have hown := ownN_bd hv.r (i := q) (by omega) (by omega)
  obtain ⟨R, hR⟩ : ∃ R, demN L q v = R := ⟨_, rfl⟩
  have hcl := cnt_lt (L := L) (x := q) (by omega) (by omega)
  obtain ⟨a2, c2, hh0, hrd⟩ := hc.ahead
  obtain ⟨ks, hks⟩ : ∃ ks, (rankL L).take (cnt L q) = ks := ⟨_, rfl⟩
  obtain ⟨m, hm⟩ : ∃ m, cnt L q = m := ⟨_, rfl⟩
  obtain ⟨ow, how⟩ : ∃ x, ownN L q = x := ⟨_, rfl⟩
  have HA : Hid (demL L v (ks.drop 0) ow = R) := Lib.hid (by rw [← hR, ← hks, ← how]; exact demN_take (by omega) (by omega))
  have hown2 := hc.own
  rw [how] at hown hown2
  rw [hks, hm] at hrd
  rw [hm] at hh0
  have HKM : Hid (∀ k ∈ ks, 0 ≤ k ∧ k < n) := Lib.hid (fun k hk => by
    rw [← hks] at hk
    have := rank_mem.1 (List.mem_of_mem_take hk)
    rw [hll] at this; exact this)
  have HBD : Hid (∀ (j : Nat) (x : Int), x ≤ demL L v (ks.drop j) x ∧ demL L v (ks.drop j) x ≤ x + 8080008000) := Lib.hid (fun j x => by
    have h1 := demL_bd hv h0 (ks.drop j) x (fun k hk => by
      have := List.mem_of_mem_drop hk
      rw [← hks] at this
      exact rank_mem.1 (List.mem_of_mem_take this))
    have h2 : (ks.drop j).length ≤ 5 := by
      rw [List.length_drop, ← hks, List.length_take, rank_len, hll]; omega
    have h3 : (1616001600 : Int) * ((ks.drop j).length : Int) ≤ 1616001600 * 5 := Int.mul_le_mul_of_nonneg_left (by omega) (by omega)
    omega)
  have hRB : R ≤ 8080009800 := by have := (HBD.out 0 ow).2; rw [HA.out] at this; omega
  have hbb := hc.box
  have hls := hrd.small
  have hlo := hc.ho
  have hlb := hc.hb
  have HRD := Lib.hid hrd
  have HL := Lib.hid hc.rd
  have HLN := Lib.hid hrd.length
  have HV := Lib.hid hv
  rw [hR]
  clear hv hc hll hR hcl hks hm how hrd
  go_enter Tryz.func137, Tryz.ntmps137
  go_wp2
  go_loopw [6, 14] (fun u i wr => ∃ (k : Nat) (s : Int), k ≤ m ∧ u = .int .i64 s ∧ i = .int .i64 k ∧ 0 ≤ s ∧ demL L v (ks.drop k) s = R ∧ Below w.heap.size w wr) (fun _ i _ => m - (intOf i).toNat)
  case atStart => exact ⟨0, ow, Nat.zero_le _, rfl, rfl, by omega, HA.out, Below.refl _ _⟩
  case round =>
    clear HA
    obtain ⟨k, s, hk, rfl, rfl, hs0, he, hB⟩ := hrel
    have HE := Lib.hid he; have HB := Lib.hid hB
    have d0 := (hB.cell (p := ⟨b, 0, none⟩) hlb).trans hbb
    have hbr : b < wr.heap.size := Nat.lt_of_lt_of_le hlb hB.size
    clear he hB
    by_cases hlt : k < m
    · obtain ⟨x, b1, o1, rfl, hb1, hc1, hx1⟩ := (HRD.out.ext HB.out).idx k hlt
      obtain ⟨hx0, hxn⟩ := HKM.out x (List.mem_of_getElem? hx1)
      obtain ⟨j, rfl⟩ := Int.eq_ofNat_of_zero_le hx0
      obtain ⟨u, b2, off, pa, pn, pc, rfl, hb2, hg, hpl, HK⟩ := HL.out.cells j (by omega)
      have hum := List.mem_of_getElem? hg
      have hpn := HV.out.r.pcs u hum
      rw [hpl] at hpn
      have HPV : Hid (∀ p ∈ u.pcs, 1 ≤ p.1 ∧ p.1 ≤ 200) := Lib.hid (fun p hp => (HV.out.r.piece u hum p hp).1)
      have HVP := Lib.hid (HV.out.vp u hum)
      obtain ⟨mo, hmo⟩ : ∃ x, mostN u.gap u.jit v = x := ⟨_, rfl⟩
      obtain ⟨ct, hct⟩ : ∃ x, costT u = x := ⟨_, rfl⟩
      have hmb := mostN_bd (HV.out.gap u hum).1 (HV.out.jit u hum) h0
      have hcb := costT_bd HV.out.r hum
      have hdb := demT_bd HV.out hum h0
      have hd2 : demT u v = mo * ct := by rw [demT, hmo, hct]
      rw [hd2] at hdb
      rw [hmo] at hmb
      rw [hct] at hcb
      have HMO := Lib.hid hmo
      have HCT := Lib.hid hct
      have hE := HE.out
      have hkd : ks.drop k = (j : Int) :: ks.drop (k + 1) := by obtain ⟨h1, h2⟩ := List.getElem?_eq_some_iff.1 hx1; rw [List.drop_eq_getElem_cons h1, h2]
      rw [hkd, demL_cons, taAt_of hg, hd2] at hE
      have HE2 := Lib.hid hE
      have hsb := (HBD.out (k + 1) (s + mo * ct)).1
      rw [hE] at hsb
      obtain ⟨k0, k1, k2, k3, k4, k5, hbw2, hpp⟩ := HK.out wr HB.out
      clear hE hkd hx1 hg hum hd2 hpl hmo hct hpp
      go_wp2_with (first
        | (go_at_call 138; (with_reducible refine (most_is HVP.out h0 HMO.out).mono ?_); rintro e w3 ⟨rfl, hb3⟩; have B3 := Lib.hid hb3; have z0 := (hb3.cell (p := ⟨b, 0, none⟩) hbr).trans d0; obtain ⟨j0, j1, j2, j3, j4, j5, hbw3, hpp3⟩ := HK.out w3 (Below.then HB.out hb3); have HPP := Lib.hid hpp3; clear hb3 hpp3)
        | (go_at_call 67; (with_reducible refine (bcost_is HPP.out HPV.out hpn.2 HCT.out).mono ?_); rintro e w4 ⟨rfl, hb4⟩; have B4 := Lib.hid hb4; clear hb4))
      go_roundw
      case rel => exact ⟨k + 1, s + mo * ct, by omega, by go_num, by go_num, by omega, HE2.out, (by repeat (first | (with_reducible exact Below.refl _ _) | (refine Below.then ?_ (Hid.out (by with_reducible assumption)))))⟩
      case measure => simp [intOf]; omega
    · have hE := HE.out
      rw [List.drop_of_length_le (by have := HLN.out; omega)] at hE
      obtain rfl : s = R := hE
      go_wp2
      go_ret
      exact ⟨rfl, HB.out⟩
end Go.Proofs.YtlhnhmimhpcoaaaGreat
namespace Go.Proofs.YtlhnhmimhpcoaaaGreat
open Go.RowKit
set_option linter.unusedSimpArgs false
set_option linter.unusedVariables false
theorem maxB_app (L : List Ta) (m : Int) (a b : List P2) : maxB L m (a ++ b) = maxB L (maxB L m a) b := by unfold maxB; rw [List.foldl_append]
theorem aheadF_drop {L : List Ta} {n q j : Nat} (hj : j < n) : (((idxs n).drop j).filter (fun x => aheadB L x q)) = (if aheadB L j q = true then (j : Int) :: ((idxs n).drop (j + 1)).filter (fun x => aheadB L x q) else ((idxs n).drop (j + 1)).filter (fun x => aheadB L x q)) := by
  rw [idxs_drop hj, List.filter_cons]
end Go.Proofs.YtlhnhmimhpcoaaaGreat
namespace Go.Proofs.YtlhnhmimhpcoaaaGreat
open Go.RowKit
set_option linter.unusedSimpArgs false
set_option linter.unusedVariables false
theorem demf_is {a : Option Addr} {n c q o h b : Nat} {L : List Ta} {v x : Int} {w : World} (hv : ValidT L) (hq : q < n) (hc : DemC L q a n c o h b w) (h0 : 0 ≤ v ∧ v ≤ 1000000) (hx : demN L q v = x) :
    Calls Tryz.prog 137 #[.int .i64 v, .pointer (some ⟨o, 0, none⟩), .pointer (some ⟨h, 0, none⟩), .pointer (some ⟨b, 0, none⟩)] w fun e w' => e = .returned (.int .i64 x) ∧ Below w.heap.size w w' := by subst hx; exact demf_any a n c q o h b L v w hv hq hc h0
def winI (x : Int) : Int := if x = 0 then -1 else x
set_option maxRecDepth 10000 in
set_option maxHeartbeats 2000000 in
theorem window_any' (a : Option Addr) (n c q : Nat) (L : List Ta) (F S : Int) (w : World) (hL : RdL w a n L) (hv : ValidT L) (hS : supB F S = true) (hq : q < n) :
    Calls Tryz.prog 123 #[.slice a n c, .agg #[.int .i64 F, .int .i64 S], .int .i64 (q : Nat)] w fun e w' => e = .returned (.int .i64 (winI (winN L F S q))) ∧ Below w.heap.size w w' := by
  obtain ⟨R, hR⟩ : ∃ R, winN L F S q = R := ⟨_, rfl⟩
  have HA : Hid (winFrom L F S q (2001 - 1) 1 = R) := Lib.hid hR
  rw [hR]
  have HV := Lib.hid hv
  have HS := Lib.hid hS
  have HR := Lib.hid hL
  clear hL hv hR hS
  go_enter Tryz.func123, Tryz.ntmps123
  go_wp2_with (go_at_call 129; (with_reducible refine (demand_any _ _ _ q L _ (HR.out.ext (Below.alloc (Below.refl _ _) (Nat.le_refl _) _)) HV.out hq).mono ?_); rintro e w1 ⟨o, h, b, rfl, hc, hb1⟩; have HC := Lib.hid hc; have B1 := Lib.hid hb1; have c0 := (hb1.cell (p := ⟨w.heap.size, 0, none⟩) (by simp)).trans (show _ = some (.int .i64 F) by simp [go_sem]); have c1 := (hb1.cell (p := ⟨w.heap.size, 1, none⟩) (by simp)).trans (show _ = some (.int .i64 S) by simp [go_sem]); have hz1 := hb1.size; clear hb1 hc)
  simp only [World.size_alloc] at hz1
  go_loopw [8] (fun i wr => ∃ k : Nat, 1 ≤ k ∧ k ≤ 2001 ∧ i = .int .i64 k ∧ winFrom L F S q (2001 - k) k = R ∧ Below w1.heap.size w1 wr) (fun i _ => 2001 - (intOf i).toNat)
  case atStart => exact ⟨1, Nat.le_refl _, by omega, rfl, HA.out, Below.refl _ _⟩
  case round =>
    clear HA
    obtain ⟨k, hk1, hk, rfl, he, hB⟩ := hrel
    have HE := Lib.hid he; have HB := Lib.hid hB
    have d0 := (hB.cell (p := ⟨w.heap.size, 0, none⟩) (by simp only []; omega)).trans c0
    have d1 := (hB.cell (p := ⟨w.heap.size, 1, none⟩) (by simp only []; omega)).trans c1
    clear he hB
    by_cases hlt : k ≤ 2000
    · have hlt' : (k : Int) ≤ 2000 := by omega
      obtain ⟨x, hx⟩ : ∃ x, demN L q k = x := ⟨_, rfl⟩
      obtain ⟨y, hy⟩ : ∃ y, leastN F S k = y := ⟨_, rfl⟩
      have HX := Lib.hid hx
      have HY : Hid (lstR F S k = (y, 0)) := Lib.hid (by rw [lstR_ok HS.out (by omega), hy])
      have hE := HE.out
      rw [show 2001 - k = (2001 - (k + 1)) + 1 by omega, winFrom_step, hx, hy] at hE
      clear hx hy
      by_cases hxy : x ≤ y
      · rw [if_pos hxy] at hE
        subst hE
        go_wp2_with (first
          | (go_at_call 130; (with_reducible refine (Least_is HY.out).mono ?_); rintro e w3 ⟨rfl, hb3⟩; have B3 := Lib.hid hb3; clear hb3)
          | (go_at_call 137; (with_reducible refine (demf_is HV.out hq ((HC.out.ext HB.out).ext B3.out) ⟨by omega, by omega⟩ HX.out).mono ?_); rintro e w4 ⟨rfl, hb4⟩; have B4 := Lib.hid hb4; clear hb4))
        go_ret
        exact ⟨ret_int (by rw [winI, if_neg (by omega)]), Below.then (Below.then (Below.alloc (Below.refl _ _) (Nat.le_refl _) _) B1.out) (Below.then (Below.then HB.out B3.out) B4.out)⟩
      · have hxy' : decide (x ≤ y) = false := by simpa using hxy
        rw [if_neg hxy] at hE
        have HE2 := Lib.hid hE
        clear hE
        go_wp2_with (first
          | (go_at_call 130; (with_reducible refine (Least_is HY.out).mono ?_); rintro e w3 ⟨rfl, hb3⟩; have B3 := Lib.hid hb3; clear hb3)
          | (go_at_call 137; (with_reducible refine (demf_is HV.out hq ((HC.out.ext HB.out).ext B3.out) ⟨by omega, by omega⟩ HX.out).mono ?_); rintro e w4 ⟨rfl, hb4⟩; have B4 := Lib.hid hb4; clear hb4))
        go_roundw
        case rel => exact ⟨k + 1, by omega, by omega, by go_num, HE2.out, Below.then (Below.then HB.out B3.out) B4.out⟩
        case measure => simp [intOf]; omega
    · have hlt' : decide ((k : Int) ≤ 2000) = false := by simp; omega
      have hlt'' : decide (k ≤ 2000) = false := by simp; omega
      have hE := HE.out
      rw [show 2001 - k = 0 by omega, winFrom] at hE
      subst hE
      go_wp2
      go_ret
      exact ⟨rfl, Below.then (Below.then (Below.alloc (Below.refl _ _) (Nat.le_refl _) _) B1.out) HB.out⟩
theorem window_is {a : Option Addr} {n c q : Nat} {L : List Ta} {F S x : Int} {w : World} (hL : RdL w a n L) (hv : ValidT L) (hS : supB F S = true) (hq : q < n) (h : winI (winN L F S q) = x) :
    Calls Tryz.prog 123 #[.slice a n c, .agg #[.int .i64 F, .int .i64 S], .int .i64 (q : Nat)] w fun e w' => e = .returned (.int .i64 x) ∧ Below w.heap.size w w' := by subst h; exact window_any' a n c q L F S w hL hv hS hq
end Go.Proofs.YtlhnhmimhpcoaaaGreat
namespace Go.Proofs.YtlhnhmimhpcoaaaGreat
open Go.RowKit
set_option linter.unusedSimpArgs false
set_option linter.unusedVariables false
/-- the response, -1 without one -/
def respN (L : List Ta) (F S : Int) (q : Nat) : Int := if winN L F S q = 0 then -1 else (taAt L q).jit + winN L F S q
theorem resp_any (a : Option Addr) (n c q : Nat) (L : List Ta) (F S : Int) (w : World) (hL : RdL w a n L) (hv : ValidT L) (hS : supB F S = true) (hq : q < n) :
    Calls Tryz.prog 106 #[.slice a n c, .agg #[.int .i64 F, .int .i64 S], .int .i64 (q : Nat)] w fun e w' => e = .returned (.int .i64 (respN L F S q)) ∧ Below w.heap.size w w' := by
  have hb := winN_bd L F S q
  obtain ⟨x, hx⟩ : ∃ x, winN L F S q = x := ⟨_, rfl⟩
  unfold respN
  rw [hx] at hb ⊢
  obtain ⟨u, b, off, pa, pn, pc, rfl, hbw, hg, hpl, HK⟩ := hL.cells q hq
  have hj := hv.jit u (List.mem_of_getElem? hg)
  rw [taAt_of hg]
  have HX : Hid (winI (winN L F S q) = winI x) := Lib.hid (by rw [hx])
  have HV := Lib.hid hv
  have HS := Lib.hid hS
  have HR := Lib.hid hL
  clear hL hv hS hx hg hpl
  by_cases h0 : x = 0
  · subst h0
    rw [if_pos rfl]
    go_enter Tryz.func106, Tryz.ntmps106
    go_wp2_with (go_at_call 123; (with_reducible refine (window_is (HR.out.ext (Below.alloc (Below.refl _ _) (Nat.le_refl _) _)) HV.out HS.out hq HX.out).mono ?_); rintro e w1 ⟨rfl, hb1⟩; have B1 := Lib.hid hb1; clear hb1)
    go_ret
    exact ⟨rfl, Below.then (Below.alloc (Below.refl _ _) (Nat.le_refl _) _) B1.out⟩
  · rw [if_neg h0]
    have e : winI x = x := by rw [winI, if_neg h0]
    rw [e] at HX
    have hx0 : decide (x < 0) = false := by simp; omega
    go_enter Tryz.func106, Tryz.ntmps106
    go_wp2_with (go_at_call 123; (with_reducible refine (window_is (HR.out.ext (Below.alloc (Below.refl _ _) (Nat.le_refl _) _)) HV.out HS.out hq HX.out).mono ?_); rintro e w1 ⟨rfl, hb1⟩; have B1 := Lib.hid hb1; obtain ⟨j0, j1, j2, j3, j4, j5, hbw1, hpp1⟩ := HK.out w1 (Below.then (Below.alloc (Below.refl _ _) (Nat.le_refl _) _) hb1); clear hb1 hpp1)
    go_ret
    exact ⟨rfl, Below.then (Below.alloc (Below.refl _ _) (Nat.le_refl _) _) B1.out⟩
theorem resp_is {a : Option Addr} {n c q : Nat} {L : List Ta} {F S x : Int} {w : World} (hL : RdL w a n L) (hv : ValidT L) (hS : supB F S = true) (hq : q < n) (h : respN L F S q = x) :
    Calls Tryz.prog 106 #[.slice a n c, .agg #[.int .i64 F, .int .i64 S], .int .i64 (q : Nat)] w fun e w' => e = .returned (.int .i64 x) ∧ Below w.heap.size w w' := by subst h; exact resp_any a n c q L F S w hL hv hS hq
theorem meets_any (a : Option Addr) (n c q : Nat) (L : List Ta) (F S : Int) (w : World) (hL : RdL w a n L) (hv : ValidT L) (hS : supB F S = true) (hq : q < n) :
    Calls Tryz.prog 73 #[.slice a n c, .agg #[.int .i64 F, .int .i64 S], .int .i64 (q : Nat)] w fun e w' => e = .returned (.bool (meetB L F S q)) ∧ Below w.heap.size w w' := by
  have hb := winN_bd L F S q
  obtain ⟨R, hR⟩ : ∃ R, meetB L F S q = R := ⟨_, rfl⟩
  obtain ⟨r, hr⟩ : ∃ r, respN L F S q = r := ⟨_, rfl⟩
  obtain ⟨u, b, off, pa, pn, pc, rfl, hbw, hg, hpl, HK⟩ := hL.cells q hq
  have hj := hv.jit u (List.mem_of_getElem? hg)
  have hrm : (r < 0 ∧ R = false) ∨ (0 ≤ r ∧ decide (r ≤ u.dl) = R) := by
    unfold respN at hr
    unfold meetB at hR
    rw [taAt_of hg] at hr hR
    split at hr
    · rename_i h0
      rw [h0] at hR
      left
      exact ⟨by omega, by rw [← hR]; rfl⟩
    · rename_i h0
      right
      refine ⟨by omega, ?_⟩
      rw [← hR, decide_eq_true (show 0 < winN L F S q by omega), Bool.true_and, ← hr]
  have HX := Lib.hid hr
  have HV := Lib.hid hv
  have HS := Lib.hid hS
  have HR := Lib.hid hL
  rw [hR]
  clear hL hv hS hr hg hpl hR hb
  rcases hrm with ⟨h0, rfl⟩ | ⟨h0, h1⟩
  · have h0' : decide (0 ≤ r) = false := by simp; omega
    go_enter Tryz.func73, Tryz.ntmps73
    go_wp2_with (go_at_call 106; (with_reducible refine (resp_is (HR.out.ext (Below.alloc (Below.refl _ _) (Nat.le_refl _) _)) HV.out HS.out hq HX.out).mono ?_); rintro e w1 ⟨rfl, hb1⟩; have B1 := Lib.hid hb1; obtain ⟨j0, j1, j2, j3, j4, j5, hbw1, hpp1⟩ := HK.out w1 (Below.then (Below.alloc (Below.refl _ _) (Nat.le_refl _) _) hb1); clear hb1 hpp1)
    go_ret
    exact ⟨rfl, Below.then (Below.alloc (Below.refl _ _) (Nat.le_refl _) _) B1.out⟩
  · go_enter Tryz.func73, Tryz.ntmps73
    go_wp2_with (go_at_call 106; (with_reducible refine (resp_is (HR.out.ext (Below.alloc (Below.refl _ _) (Nat.le_refl _) _)) HV.out HS.out hq HX.out).mono ?_); rintro e w1 ⟨rfl, hb1⟩; have B1 := Lib.hid hb1; obtain ⟨j0, j1, j2, j3, j4, j5, hbw1, hpp1⟩ := HK.out w1 (Below.then (Below.alloc (Below.refl _ _) (Nat.le_refl _) _) hb1); clear hb1 hpp1)
    go_ret
    exact ⟨rfl, Below.then (Below.alloc (Below.refl _ _) (Nat.le_refl _) _) B1.out⟩
theorem meets_is {a : Option Addr} {n c q : Nat} {L : List Ta} {F S : Int} {x : Bool} {w : World} (hL : RdL w a n L) (hv : ValidT L) (hS : supB F S = true) (hq : q < n) (h : meetB L F S q = x) :
    Calls Tryz.prog 73 #[.slice a n c, .agg #[.int .i64 F, .int .i64 S], .int .i64 (q : Nat)] w fun e w' => e = .returned (.bool x) ∧ Below w.heap.size w w' := by subst h; exact meets_any a n c q L F S w hL hv hS hq
set_option maxHeartbeats 1000000 in
theorem acc_any (a : Option Addr) (n c : Nat) (L : List Ta) (F S : Int) (w : World) (hL : RdL w a n L) (hv : ValidT L) (hS : supB F S = true) :
    Calls Tryz.prog 31 #[.slice a n c, .agg #[.int .i64 F, .int .i64 S]] w fun e w' => e = .returned (.bool (accB L F S)) ∧ Below w.heap.size w w' := by
  have hll := hL.length
  have hs := hL.small
  obtain ⟨R, hR⟩ : ∃ R, accB L F S = R := ⟨_, rfl⟩
  have HA : Hid (accFrom L F S (n - 0) 0 = R) := Lib.hid (by rw [← hR, accB, hll]; rfl)
  have HV := Lib.hid hv
  have HS := Lib.hid hS
  have HR := Lib.hid hL
  obtain ⟨w1, hw1⟩ : ∃ w1, w1 = w.alloc (.cells #[.int .i64 F, .int .i64 S] 24) := ⟨_, rfl⟩
  have c0 : w1.cell? ⟨w.heap.size, 0, none⟩ = some (.int .i64 F) := by rw [hw1]; simp [go_sem]
  have c1 : w1.cell? ⟨w.heap.size, 1, none⟩ = some (.int .i64 S) := by rw [hw1]; simp [go_sem]
  have hz1 : w.heap.size < w1.heap.size := by rw [hw1]; simp
  have B1 : Hid (Below w.heap.size w w1) := Lib.hid (by rw [hw1]; exact Below.alloc (Below.refl _ _) (Nat.le_refl _) _)
  rw [hR]
  clear hL hv hll hR hS
  go_enter Tryz.func31, Tryz.ntmps31
  go_wp2
  rw [← hw1]
  clear hw1
  go_loopw [8] (fun i wr => ∃ k : Nat, k ≤ n ∧ i = .int .i64 k ∧ accFrom L F S (n - k) k = R ∧ Below w1.heap.size w1 wr) (fun i _ => n - (intOf i).toNat)
  case atStart => exact ⟨0, Nat.zero_le _, rfl, HA.out, Below.refl _ _⟩
  case round =>
    clear HA
    obtain ⟨k, hk, rfl, he, hB⟩ := hrel
    have HE := Lib.hid he; have HB := Lib.hid hB
    have d0 := (hB.cell (p := ⟨w.heap.size, 0, none⟩) (by simp only []; omega)).trans c0
    have d1 := (hB.cell (p := ⟨w.heap.size, 1, none⟩) (by simp only []; omega)).trans c1
    clear he hB
    by_cases hlt : k < n
    · obtain ⟨m, hm⟩ : ∃ m, meetB L F S k = m := ⟨_, rfl⟩
      have HM := Lib.hid hm
      have hE := HE.out
      rw [show n - k = (n - (k + 1)) + 1 by omega, accFrom, hm] at hE
      clear hm
      cases m
      · obtain rfl : R = false := by rw [← hE]; rfl
        go_wp2_with (go_at_call 73; (with_reducible refine (meets_is ((HR.out.ext B1.out).ext HB.out) HV.out HS.out hlt HM.out).mono ?_); rintro e w3 ⟨rfl, hb3⟩; have B3 := Lib.hid hb3; clear hb3)
        go_ret
        exact ⟨rfl, (by repeat (first | (with_reducible exact Below.refl _ _) | (refine Below.then ?_ (Hid.out (by with_reducible assumption)))))⟩
      · have HE2 : Hid (accFrom L F S (n - (k + 1)) (k + 1) = R) := Lib.hid (by simpa using hE)
        clear hE
        go_wp2_with (go_at_call 73; (with_reducible refine (meets_is ((HR.out.ext B1.out).ext HB.out) HV.out HS.out hlt HM.out).mono ?_); rintro e w3 ⟨rfl, hb3⟩; have B3 := Lib.hid hb3; clear hb3)
        go_roundw
        case rel => exact ⟨k + 1, by omega, by go_num, HE2.out, Below.then HB.out B3.out⟩
        case measure => simp [intOf]; omega
    · have hE := HE.out
      rw [show n - k = 0 by omega, accFrom] at hE
      subst hE
      go_wp2
      go_ret
      exact ⟨rfl, (by repeat (first | (with_reducible exact Below.refl _ _) | (refine Below.then ?_ (Hid.out (by with_reducible assumption)))))⟩
theorem acc_is {a : Option Addr} {n c : Nat} {L : List Ta} {F S : Int} {x : Bool} {w : World} (hL : RdL w a n L) (hv : ValidT L) (hS : supB F S = true) (h : accB L F S = x) :
    Calls Tryz.prog 31 #[.slice a n c, .agg #[.int .i64 F, .int .i64 S]] w fun e w' => e = .returned (.bool x) ∧ Below w.heap.size w w' := by subst h; exact acc_any a n c L F S w hL hv hS
/-- right: tasks and supply are valid -/
def okB (L : List Ta) (F S : Int) : Bool := validL L && supB F S
theorem right25_any (a : Option Addr) (n c : Nat) (L : List Ta) (F S : Int) (w : World) (hL : RdL w a n L) :
    Calls Tryz.prog 30 #[.slice a n c, .agg #[.int .i64 F, .int .i64 S]] w fun e w' => e = .returned (.bool (okB L F S)) ∧ Below w.heap.size w w' := by
  have HR := Lib.hid hL
  unfold okB
  cases hv : validL L
  · have HV := Lib.hid hv
    clear hL hv
    go_enter Tryz.func30, Tryz.ntmps30
    go_wp2_with (go_at_call 33; (with_reducible refine (valid_is (HR.out.ext (Below.alloc (Below.refl _ _) (Nat.le_refl _) _)) HV.out).mono ?_); rintro e w1 ⟨rfl, hb1⟩; have B1 := Lib.hid hb1; clear hb1)
    go_ret
    exact ⟨rfl, Below.then (Below.alloc (Below.refl _ _) (Nat.le_refl _) _) B1.out⟩
  · have HV := Lib.hid hv
    obtain ⟨x, hx⟩ : ∃ x, supB F S = x := ⟨_, rfl⟩
    have HS := Lib.hid hx
    rw [hx]
    clear hL hv hx
    go_enter Tryz.func30, Tryz.ntmps30
    go_wp2_with (first
      | (go_at_call 33; (with_reducible refine (valid_is (HR.out.ext (Below.alloc (Below.refl _ _) (Nat.le_refl _) _)) HV.out).mono ?_); rintro e w1 ⟨rfl, hb1⟩; have B1 := Lib.hid hb1; have c0 := (hb1.cell (p := ⟨w.heap.size, 0, none⟩) (by simp)).trans (show _ = some (.int .i64 F) by simp [go_sem]); have c1 := (hb1.cell (p := ⟨w.heap.size, 1, none⟩) (by simp)).trans (show _ = some (.int .i64 S) by simp [go_sem]); clear hb1)
      | (go_at_call 57; (with_reducible refine (supV_is HS.out).mono ?_); rintro e w2 ⟨rfl, hb2⟩; have B2 := Lib.hid hb2; clear hb2))
    go_ret
    exact ⟨rfl, Below.then (Below.then (Below.alloc (Below.refl _ _) (Nat.le_refl _) _) B1.out) B2.out⟩
theorem right25_is {a : Option Addr} {n c : Nat} {L : List Ta} {F S : Int} {x : Bool} {w : World} (hL : RdL w a n L) (h : okB L F S = x) :
    Calls Tryz.prog 30 #[.slice a n c, .agg #[.int .i64 F, .int .i64 S]] w fun e w' => e = .returned (.bool x) ∧ Below w.heap.size w w' := by subst h; exact right25_any a n c L F S w hL
end Go.Proofs.YtlhnhmimhpcoaaaGreat
namespace Go.Proofs.YtlhnhmimhpcoaaaGreat
open Go.RowKit
set_option linter.unusedSimpArgs false
set_option linter.unusedVariables false
theorem ok_of {L : List Ta} {F S : Int} (h : okB L F S = true) : ValidT L ∧ supB F S = true := by
  unfold okB at h; rw [Bool.and_eq_true] at h; exact ⟨valid_of h.1, h.2⟩
def accE (L : List Ta) (F S : Int) : Int := if okB L F S then (if accB L F S then 0 else 15) else 1
def inT (L : List Ta) (t : Int) : Bool := inB t 0 ((L.length : Int) - 1)
def winR (L : List Ta) (F S t : Int) : Int × Int := if okB L F S && inT L t then (if winN L F S t = 0 then (0, 3) else (winN L F S t, 0)) else (0, 1)
def sliceGo (L : List Ta) (F : Int) : Nat → Int × Int
  | 0 => (0, 15)
  | k + 1 => if accB L F k then ((k : Int), 0) else sliceGo L F k
def sliceR (L : List Ta) (F : Int) : Int × Int := if validL L && inB F 1 60 then sliceGo L F F.toNat else (0, 1)
def costR (L : List Ta) (t : Int) : Int × Int := if validL L && inT L t then (costT (taAt L t), 0) else (0, 1)
def demR (L : List Ta) (t v : Int) : Int × Int := if validL L && inT L t && inB v 0 1000000 then (demN L t v, 0) else (0, 1)
theorem inT_iff {L : List Ta} {t : Int} : inT L t = true ↔ 0 ≤ t ∧ t < L.length := by unfold inT; rw [inB_iff]; omega
theorem Accept_any (a : Option Addr) (n c : Nat) (L : List Ta) (F S : Int) (w : World) (hL : RdL w a n L) :
    Calls Tryz.prog 13 #[.slice a n c, .agg #[.int .i64 F, .int .i64 S]] w fun e w' => e = .returned (.int .i64 (accE L F S)) ∧ Below w.heap.size w w' := by
  have HR := Lib.hid hL
  unfold accE
  cases ho : okB L F S
  · have HO := Lib.hid ho
    clear hL ho
    go_enter Tryz.func13, Tryz.ntmps13
    go_wp2_with (go_at_call 30; (with_reducible refine (right25_is (HR.out.ext (Below.alloc (Below.refl _ _) (Nat.le_refl _) _)) HO.out).mono ?_); rintro e w1 ⟨rfl, hb1⟩; have B1 := Lib.hid hb1; have c0 := (hb1.cell (p := ⟨w.heap.size, 0, none⟩) (by simp)).trans (show _ = some (.int .i64 F) by simp [go_sem]); have c1 := (hb1.cell (p := ⟨w.heap.size, 1, none⟩) (by simp)).trans (show _ = some (.int .i64 S) by simp [go_sem]); clear hb1)
    go_ret
    exact ⟨rfl, (Below.then (Below.alloc (Below.refl _ _) (Nat.le_refl _) _) B1.out)⟩
  · have HO := Lib.hid ho
    obtain ⟨hv, hs⟩ := ok_of ho
    have HV := Lib.hid hv
    have HS := Lib.hid hs
    obtain ⟨x, hx⟩ : ∃ x, accB L F S = x := ⟨_, rfl⟩
    have HA := Lib.hid hx
    rw [if_pos rfl, hx]
    clear hL ho hv hs hx
    cases x
    all_goals
      go_enter Tryz.func13, Tryz.ntmps13
      go_wp2_with (first | (go_at_call 30; (with_reducible refine (right25_is (HR.out.ext (Below.alloc (Below.refl _ _) (Nat.le_refl _) _)) HO.out).mono ?_); rintro e w1 ⟨rfl, hb1⟩; have B1 := Lib.hid hb1; have c0 := (hb1.cell (p := ⟨w.heap.size, 0, none⟩) (by simp)).trans (show _ = some (.int .i64 F) by simp [go_sem]); have c1 := (hb1.cell (p := ⟨w.heap.size, 1, none⟩) (by simp)).trans (show _ = some (.int .i64 S) by simp [go_sem]); clear hb1) | (go_at_call 31; (with_reducible refine (acc_is ((HR.out.ext (Below.alloc (Below.refl _ _) (Nat.le_refl _) _)).ext B1.out) HV.out HS.out HA.out).mono ?_); rintro e w2 ⟨rfl, hb2⟩; have B2 := Lib.hid hb2; clear hb2))
      go_ret
      exact ⟨rfl, Below.then (Below.then (Below.alloc (Below.refl _ _) (Nat.le_refl _) _) B1.out) B2.out⟩
theorem Accept_is {a : Option Addr} {n c : Nat} {L : List Ta} {F S x : Int} {w : World} (hL : RdL w a n L) (h : accE L F S = x) :
    Calls Tryz.prog 13 #[.slice a n c, .agg #[.int .i64 F, .int .i64 S]] w fun e w' => e = .returned (.int .i64 x) ∧ Below w.heap.size w w' := by subst h; exact Accept_any a n c L F S w hL
set_option maxHeartbeats 1000000 in
theorem Cost_any (a : Option Addr) (n c : Nat) (L : List Ta) (t : Int) (w : World) (hL : RdL w a n L) :
    Calls Tryz.prog 26 #[.slice a n c, .int .i64 t] w fun e w' => e = rII (costR L t).1 (costR L t).2 ∧ Below w.heap.size w w' := by
  have hll := hL.length
  have hsm := hL.small
  have HR := Lib.hid hL
  unfold costR inT
  rw [hll]
  cases ho : validL L
  · have HO := Lib.hid ho
    rw [Bool.false_and]
    clear hL hll ho
    go_enter Tryz.func26, Tryz.ntmps26
    go_wp2_with (go_at_call 33; (with_reducible refine (valid_is HR.out HO.out).mono ?_); rintro e w1 ⟨rfl, hb1⟩; have B1 := Lib.hid hb1; clear hb1)
    go_ret2
    exact ⟨rII_eq rfl rfl, B1.out⟩
  · have HO := Lib.hid ho
    rw [Bool.true_and]
    by_cases h0 : t < 0
    · rw [if_neg (by rw [inB_iff]; omega)]
      clear hL hll ho
      go_enter Tryz.func26, Tryz.ntmps26
      go_wp2_with (go_at_call 33; (with_reducible refine (valid_is HR.out HO.out).mono ?_); rintro e w1 ⟨rfl, hb1⟩; have B1 := Lib.hid hb1; clear hb1)
      go_ret2
      exact ⟨rII_eq rfl rfl, B1.out⟩
    · have h0' : decide (t < 0) = false := by simpa using h0
      by_cases h1 : (n : Int) ≤ t
      · rw [if_neg (by rw [inB_iff]; omega)]
        clear hL hll ho
        go_enter Tryz.func26, Tryz.ntmps26
        go_wp2_with (go_at_call 33; (with_reducible refine (valid_is HR.out HO.out).mono ?_); rintro e w1 ⟨rfl, hb1⟩; have B1 := Lib.hid hb1; clear hb1)
        go_ret2
        exact ⟨rII_eq rfl rfl, B1.out⟩
      · rw [if_pos (by rw [inB_iff]; omega)]
        obtain ⟨q, rfl⟩ := Int.eq_ofNat_of_zero_le (Int.not_lt.1 h0)
        have hq : q < n := by omega
        have h1' : decide ((n : Int) ≤ (q : Int)) = false := by simpa using h1
        have h1'' : decide (n ≤ q) = false := by simp; omega
        have hv := valid_of ho
        obtain ⟨u, b, off, pa, pn, pc, rfl, hb, hg, hpl, HK⟩ := hL.cells q hq
        have hum := List.mem_of_getElem? hg
        have hpn := hv.r.pcs u hum
        rw [hpl] at hpn
        have HPV : Hid (∀ p ∈ u.pcs, 1 ≤ p.1 ∧ p.1 ≤ 200) := Lib.hid (fun p hp => (hv.r.piece u hum p hp).1)
        obtain ⟨ct, hct⟩ : ∃ x, costT u = x := ⟨_, rfl⟩
        have HCT := Lib.hid hct
        rw [taAt_of hg, hct]
        clear hL hll ho hv hum hg hpl hct
        go_enter Tryz.func26, Tryz.ntmps26
        go_wp2_with (first | (go_at_call 33; (with_reducible refine (valid_is HR.out HO.out).mono ?_); rintro e w1 ⟨rfl, hb1⟩; have B1 := Lib.hid hb1; obtain ⟨k0, k1, k2, k3, k4, k5, hbw, hpp⟩ := HK.out w1 hb1; have HPP := Lib.hid hpp; clear hpp; clear hb1) | (go_at_call 67; (with_reducible refine (bcost_is HPP.out HPV.out hpn.2 HCT.out).mono ?_); rintro e w2 ⟨rfl, hb2⟩; have B2 := Lib.hid hb2; clear hb2))
        go_ret2
        exact ⟨rII_eq rfl rfl, (by repeat (first | (with_reducible exact Below.refl _ _) | (refine Below.then ?_ (Hid.out (by with_reducible assumption)))))⟩
theorem Cost_is {a : Option Addr} {n c : Nat} {L : List Ta} {t x e : Int} {w : World} (hL : RdL w a n L) (h : costR L t = (x, e)) :
    Calls Tryz.prog 26 #[.slice a n c, .int .i64 t] w fun en w' => en = rII x e ∧ Below w.heap.size w w' := by
  have := Cost_any a n c L t w hL
  rw [h] at this; exact this
set_option maxHeartbeats 1000000 in
theorem rCost_any (a : Option Addr) (n c : Nat) (L : List Ta) (t : Int) (w : World) (hL : RdL w a n L) :
    Calls Tryz.prog 29 #[.slice a n c, .int .i64 t] w fun e w' => e = rII (costR L t).1 (costR L t).2 ∧ Below w.heap.size w w' := by
  have hll := hL.length
  have hsm := hL.small
  have HR := Lib.hid hL
  unfold costR inT
  rw [hll]
  cases ho : validL L
  · have HO := Lib.hid ho
    rw [Bool.false_and]
    clear hL hll ho
    go_enter Tryz.func29, Tryz.ntmps29
    go_wp2_with (go_at_call 68; (with_reducible refine (rValid_is HR.out HO.out).mono ?_); rintro e w1 ⟨rfl, hb1⟩; have B1 := Lib.hid hb1; clear hb1)
    go_ret2
    exact ⟨rII_eq rfl rfl, B1.out⟩
  · have HO := Lib.hid ho
    rw [Bool.true_and]
    by_cases h0 : t < 0
    · rw [if_neg (by rw [inB_iff]; omega)]
      clear hL hll ho
      go_enter Tryz.func29, Tryz.ntmps29
      go_wp2_with (go_at_call 68; (with_reducible refine (rValid_is HR.out HO.out).mono ?_); rintro e w1 ⟨rfl, hb1⟩; have B1 := Lib.hid hb1; clear hb1)
      go_ret2
      exact ⟨rII_eq rfl rfl, B1.out⟩
    · have h0' : decide (t < 0) = false := by simpa using h0
      by_cases h1 : (n : Int) ≤ t
      · rw [if_neg (by rw [inB_iff]; omega)]
        clear hL hll ho
        go_enter Tryz.func29, Tryz.ntmps29
        go_wp2_with (go_at_call 68; (with_reducible refine (rValid_is HR.out HO.out).mono ?_); rintro e w1 ⟨rfl, hb1⟩; have B1 := Lib.hid hb1; clear hb1)
        go_ret2
        exact ⟨rII_eq rfl rfl, B1.out⟩
      · rw [if_pos (by rw [inB_iff]; omega)]
        obtain ⟨q, rfl⟩ := Int.eq_ofNat_of_zero_le (Int.not_lt.1 h0)
        have hq : q < n := by omega
        have h1' : decide ((n : Int) ≤ (q : Int)) = false := by simpa using h1
        have h1'' : decide (n ≤ q) = false := by simp; omega
        have hv := valid_of ho
        obtain ⟨u, b, off, pa, pn, pc, rfl, hb, hg, hpl, HK⟩ := hL.cells q hq
        have hum := List.mem_of_getElem? hg
        have hpn := hv.r.pcs u hum
        rw [hpl] at hpn
        have HPV : Hid (∀ p ∈ u.pcs, 1 ≤ p.1 ∧ p.1 ≤ 200) := Lib.hid (fun p hp => (hv.r.piece u hum p hp).1)
        obtain ⟨ct, hct⟩ : ∃ x, costT u = x := ⟨_, rfl⟩
        have HCT := Lib.hid hct
        rw [taAt_of hg, hct]
        clear hL hll ho hv hum hg hpl hct
        go_enter Tryz.func29, Tryz.ntmps29
        go_wp2_with (first | (go_at_call 68; (with_reducible refine (rValid_is HR.out HO.out).mono ?_); rintro e w1 ⟨rfl, hb1⟩; have B1 := Lib.hid hb1; obtain ⟨k0, k1, k2, k3, k4, k5, hbw, hpp⟩ := HK.out w1 hb1; have HPP := Lib.hid hpp; clear hpp; clear hb1) | (go_at_call 72; (with_reducible refine (rcost_is HPP.out HPV.out hpn.2 HCT.out).mono ?_); rintro e w2 ⟨rfl, hb2⟩; have B2 := Lib.hid hb2; clear hb2))
        go_ret2
        exact ⟨rII_eq rfl rfl, (by repeat (first | (with_reducible exact Below.refl _ _) | (refine Below.then ?_ (Hid.out (by with_reducible assumption)))))⟩
theorem rCost_is {a : Option Addr} {n c : Nat} {L : List Ta} {t x e : Int} {w : World} (hL : RdL w a n L) (h : costR L t = (x, e)) :
    Calls Tryz.prog 29 #[.slice a n c, .int .i64 t] w fun en w' => en = rII x e ∧ Below w.heap.size w w' := by
  have := rCost_any a n c L t w hL
  rw [h] at this; exact this
end Go.Proofs.YtlhnhmimhpcoaaaGreat
namespace Go.Proofs.YtlhnhmimhpcoaaaGreat
open Go.RowKit
set_option linter.unusedSimpArgs false
set_option linter.unusedVariables false
end Go.Proofs.YtlhnhmimhpcoaaaGreat
namespace Go.Proofs.YtlhnhmimhpcoaaaGreat
open Go.RowKit
set_option linter.unusedSimpArgs false
set_option linter.unusedVariables false
/-- what is asked of a predicate handed over as a function value: it can be called, and in every later world it gives p -/
structure PredOn (g : Nat) (lb : Array Value) {α : Type} (val : α → Value) (p : α → Bool) (w : World) : Prop where
  eg : ∀ args w, (callFunc g args).run Tryz.prog w = .ok (.enter g args) w
  gives : ∀ (x : α) (w' : World), Below w.heap.size w w' → Calls Tryz.prog g (#[val x] ++ lb) w' fun e w'' => e = .returned (.bool (p x)) ∧ Below w'.heap.size w' w''
abbrev val2 (x : P2) : Value := .agg #[.int .i64 x.1, .int .i64 x.2]
theorem indexFunc2 (g : Nat) (lb : Array Value) (p : P2 → Bool) (a : Option Addr) (n c : Nat) (xs : List P2) (w : World) (hR : Rd w a n 2 (xs.map enc2)) (hf : PredOn g lb val2 p w) :
    Calls Tryz.prog 99 #[.slice a n c, .func (.func g) #[] lb] w fun e w' => e = .returned (.int .i64 (idxGo p 0 xs)) ∧ Below w.heap.size w w' := by
  have hl := hR.length
  have HL := Lib.hid hl; clear hl
  have hs := hR.small
  have HR := Lib.hid hR; clear hR
  have eg := hf.eg
  have HF := Lib.hid hf.gives; clear hf
  generalize hg : idxGo p 0 xs = R
  have HG := Lib.hid hg; clear hg
  go_enter Tryz.func99, Tryz.ntmps99
  go_wp2
  go_loopw [8] (fun i wr => ∃ k : Nat, k ≤ n ∧ i = .int .i64 k ∧ idxGo p k (xs.drop k) = R ∧ Below w.heap.size w wr) (fun i _ => n - (intOf i).toNat)
  case atStart => exact ⟨0, Nat.zero_le _, rfl, HG.out, Below.refl _ _⟩
  case round =>
    obtain ⟨k, hk, rfl, he, hB⟩ := hrel
    have HE := Lib.hid he; clear he
    by_cases hlt : k < n
    · obtain ⟨x, b, off, rfl, hb, h1, h2, HD⟩ := (HR.out.ext hB).next2 k hlt
      have hcall := HF.out x wr hB
      have HB := Lib.hid hB; clear hB
      have HE2 : Hid ((if p x = true then (k : Int) else idxGo p (k + 1) (xs.drop (k + 1))) = R) := by have := HE.out; rw [HD.out] at this; exact this
      cases hq : p x
      · rw [hq] at hcall HE2
        go_wp2_with (go_at_fn g; refine hcall.mono ?_; rintro e w1 ⟨rfl, hb1⟩)
        go_roundw
        case rel => exact ⟨k + 1, by omega, by go_num, by simpa using HE2.out, HB.out.trans (hb1.mono HB.out.size)⟩
        case measure => simp [intOf]; omega
      · rw [hq] at hcall HE2
        have : R = k := by simpa using HE2.out.symm
        subst this
        go_wp2_with (go_at_fn g; refine hcall.mono ?_; rintro e w1 ⟨rfl, hb1⟩)
        go_ret
        exact ⟨rfl, HB.out.trans (hb1.mono HB.out.size)⟩
    · have : R = -1 := by rw [← HE.out, drop_end HL.out (by omega)]; rfl
      subst this
      go_wp2
      go_ret
      exact ⟨rfl, hB⟩
theorem containsFunc2 (g : Nat) (lb : Array Value) (p : P2 → Bool) (a : Option Addr) (n c : Nat) (xs : List P2) (w : World) (hR : Rd w a n 2 (xs.map enc2)) (hf : PredOn g lb val2 p w) :
    Calls Tryz.prog 64 #[.slice a n c, .func (.func g) #[] lb] w fun e w' => e = .returned (.bool (xs.any p)) ∧ Below w.heap.size w w' := by
  have HR := Lib.hid hR; clear hR
  have HF := Lib.hid hf; clear hf
  go_enter Tryz.func64, Tryz.ntmps64
  go_wp2_with (go_at_call 99; refine (indexFunc2 _ _ _ _ _ _ _ _ HR.out HF.out).mono ?_; rintro e w1 ⟨rfl, hb1⟩)
  go_ret
  exact ⟨ret_bool (idxGo_any p xs 0), by (repeat' (first | (with_reducible exact Below.refl _ _) | (with_reducible assumption) | (with_reducible refine Below.alloc ?_ ?_ _) | (with_reducible refine Below.drew ?_) | (with_reducible refine Below.draws ?_ _) | (with_reducible refine Below.setCell ?_ ?_ _) | (refine Below.then ?_ (by with_reducible assumption)) | go_size))⟩
theorem indexFuncS (g : Nat) (lb : Array Value) {α : Type} (val : α → Value) (p : α → Bool) (a : Option Addr) (n c : Nat) (xs : List α) (w : World) (hR : Rd w a n 1 (xs.map fun x => [val x])) (hf : PredOn g lb val p w) :
    Calls Tryz.prog 97 #[.slice a n c, .func (.func g) #[] lb] w fun e w' => e = .returned (.int .i64 (idxGo p 0 xs)) ∧ Below w.heap.size w w' := by
  have hl := hR.length
  have HL := Lib.hid hl; clear hl
  have hs := hR.small
  have HR := Lib.hid hR; clear hR
  have eg := hf.eg
  have HF := Lib.hid hf.gives; clear hf
  generalize hg : idxGo p 0 xs = R
  have HG := Lib.hid hg; clear hg
  go_enter Tryz.func97, Tryz.ntmps97
  go_wp2
  go_loopw [8] (fun i wr => ∃ k : Nat, k ≤ n ∧ i = .int .i64 k ∧ idxGo p k (xs.drop k) = R ∧ Below w.heap.size w wr) (fun i _ => n - (intOf i).toNat)
  case atStart => exact ⟨0, Nat.zero_le _, rfl, HG.out, Below.refl _ _⟩
  case round =>
    obtain ⟨k, hk, rfl, he, hB⟩ := hrel
    have HE := Lib.hid he; clear he
    by_cases hlt : k < n
    · obtain ⟨x, b, off, rfl, hb, h1, HD⟩ := (HR.out.ext hB).nextV k hlt
      have hcall := HF.out x wr hB
      have HB := Lib.hid hB; clear hB
      have HE2 : Hid ((if p x = true then (k : Int) else idxGo p (k + 1) (xs.drop (k + 1))) = R) := by have := HE.out; rw [HD.out] at this; exact this
      cases hq : p x
      · rw [hq] at hcall HE2
        go_wp2_with (go_at_fn g; refine hcall.mono ?_; rintro e w1 ⟨rfl, hb1⟩)
        go_roundw
        case rel => exact ⟨k + 1, by omega, by go_num, by simpa using HE2.out, HB.out.trans (hb1.mono HB.out.size)⟩
        case measure => simp [intOf]; omega
      · rw [hq] at hcall HE2
        have : R = k := by simpa using HE2.out.symm
        subst this
        go_wp2_with (go_at_fn g; refine hcall.mono ?_; rintro e w1 ⟨rfl, hb1⟩)
        go_ret
        exact ⟨rfl, HB.out.trans (hb1.mono HB.out.size)⟩
    · have : R = -1 := by rw [← HE.out, drop_end HL.out (by omega)]; rfl
      subst this
      go_wp2
      go_ret
      exact ⟨rfl, hB⟩
theorem containsFuncS (g : Nat) (lb : Array Value) {α : Type} (val : α → Value) (p : α → Bool) (a : Option Addr) (n c : Nat) (xs : List α) (w : World) (hR : Rd w a n 1 (xs.map fun x => [val x])) (hf : PredOn g lb val p w) :
    Calls Tryz.prog 60 #[.slice a n c, .func (.func g) #[] lb] w fun e w' => e = .returned (.bool (xs.any p)) ∧ Below w.heap.size w w' := by
  have HR := Lib.hid hR; clear hR
  have HF := Lib.hid hf; clear hf
  go_enter Tryz.func60, Tryz.ntmps60
  go_wp2_with (go_at_call 97; refine (indexFuncS _ _ _ _ _ _ _ _ _ HR.out HF.out).mono ?_; rintro e w1 ⟨rfl, hb1⟩)
  go_ret
  exact ⟨ret_bool (idxGo_any p xs 0), by (repeat' (first | (with_reducible exact Below.refl _ _) | (with_reducible assumption) | (with_reducible refine Below.alloc ?_ ?_ _) | (with_reducible refine Below.drew ?_) | (with_reducible refine Below.draws ?_ _) | (with_reducible refine Below.setCell ?_ ?_ _) | (refine Below.then ?_ (by with_reducible assumption)) | go_size))⟩
end Go.Proofs.YtlhnhmimhpcoaaaGreat
namespace Go.Proofs.YtlhnhmimhpcoaaaGreat
open Go.RowKit
set_option linter.unusedSimpArgs false
set_option linter.unusedVariables false
/-- a list that lies in w -/
structure Hd (w : World) where
  a : Option Addr
  n : Nat
  c : Nat
  xs : List P2
  rd : Rd w a n 2 (xs.map enc2)
def Hd.val {w : World} (h : Hd w) : Value := .slice h.a h.n h.c
def farB (x : P2) : Bool := !inB x.1 0 1000000 || !inB x.2 0 1000000
theorem far_any (x : P2) (w : World) : Calls Tryz.prog 101 #[val2 x] w fun e w' => e = .returned (.bool (farB x)) ∧ Below w.heap.size w w' := by
  obtain ⟨x1, x2⟩ := x
  go_enter Tryz.func101, Tryz.ntmps101
  go_wp2_with (go_at_call 100; refine (within_any _ _ _ _).mono ?_; rintro e w1 ⟨rfl, rfl⟩)
  all_goals (go_ret; exact ⟨ret_bool (by simp [farB, *]), by (repeat' (first | (with_reducible exact Below.refl _ _) | (with_reducible assumption) | (with_reducible refine Below.alloc ?_ ?_ _) | (with_reducible refine Below.drew ?_) | (with_reducible refine Below.draws ?_ _) | (with_reducible refine Below.setCell ?_ ?_ _) | (refine Below.then ?_ (by with_reducible assumption)) | go_size))⟩)
theorem far_pred (w : World) : PredOn 101 #[] val2 farB w :=
  ⟨fun args w => by kernel_rfl, fun x w' _ => far_any x w'⟩
theorem long_any {w : World} (h : Hd w) (w' : World) : Calls Tryz.prog 102 #[h.val] w' fun e w'' => e = .returned (.bool (decide (40 < h.xs.length))) ∧ Below w'.heap.size w' w'' := by
  obtain ⟨a, n, c, xs, rd⟩ := h
  have hl := rd.length
  have hs := rd.small
  show Calls Tryz.prog 102 #[.slice a n c] w' fun e w'' => e = .returned (.bool (decide (40 < xs.length))) ∧ Below w'.heap.size w' w''
  rw [hl]
  clear hl rd
  go_enter Tryz.func102, Tryz.ntmps102
  go_wp2
  go_ret
  exact ⟨ret_bool (by rw [decide_eq_decide]; omega), Below.refl _ _⟩
theorem long_pred (w : World) : PredOn 102 #[] (Hd.val (w := w)) (fun h => decide (40 < h.xs.length)) w :=
  ⟨fun args w => by kernel_rfl, fun x w' _ => long_any x w'⟩
theorem farList_any {w : World} (h : Hd w) (w' : World) (hb : Below w.heap.size w w') (p : Nat) (hp : p < w.heap.size) (hc : w.cell? ⟨p, 0, none⟩ = some (.func (.func 101) #[] #[])) :
    Calls Tryz.prog 103 #[h.val, .pointer (some ⟨p, 0, none⟩)] w' fun e w'' => e = .returned (.bool (h.xs.any farB)) ∧ Below w'.heap.size w' w'' := by
  obtain ⟨a, n, c, xs, rd⟩ := h
  have hc' := (hb.cell (p := ⟨p, 0, none⟩) hp).trans hc
  have RD := Lib.hid (rd.ext hb)
  show Calls Tryz.prog 103 #[.slice a n c, .pointer (some ⟨p, 0, none⟩)] w' fun e w'' => e = .returned (.bool (xs.any farB)) ∧ Below w'.heap.size w' w''
  clear rd hb hc
  go_enter Tryz.func103, Tryz.ntmps103
  go_wp2_with (go_at_call 64; refine (containsFunc2 _ _ _ _ _ _ _ _ RD.out (far_pred _)).mono ?_; rintro e w1 ⟨rfl, hb1⟩)
  go_ret
  exact ⟨rfl, hb1⟩
theorem farList_pred (w : World) (p : Nat) (hp : p < w.heap.size) (hc : w.cell? ⟨p, 0, none⟩ = some (.func (.func 101) #[] #[])) : PredOn 103 #[.pointer (some ⟨p, 0, none⟩)] (Hd.val (w := w)) (fun h => h.xs.any farB) w :=
  ⟨fun args w => by kernel_rfl, fun x w' hb => farList_any x w' hb p hp hc⟩
def Hd.ext {w w' : World} (h : Hd w) (hb : Below w.heap.size w w') : Hd w' := ⟨h.a, h.n, h.c, h.xs, h.rd.ext hb⟩
/-- the error of lists -/
def checkE (ls : List (List P2)) : Int := if ls.any (fun l => l.any farB) then 1 else if ls.any (fun l => decide (40 < l.length)) then 2 else 0
theorem Hd.map_ext {w w' : World} (hb : Below w.heap.size w w') (hs : List (Hd w)) {a : Option Addr} {n : Nat} (h : Rd w a n 1 (hs.map fun h => [h.val])) : Rd w' a n 1 ((hs.map (·.ext hb)).map fun h => [h.val]) := by
  have e : (hs.map (·.ext hb)).map (fun h => [h.val]) = hs.map fun h => [h.val] := by rw [List.map_map]; rfl
  rw [e]; exact h.ext hb
theorem check_any (a : Option Addr) (n c : Nat) (w : World) (hs : List (Hd w)) (hR : Rd w a n 1 (hs.map fun h => [h.val])) :
    Calls Tryz.prog 66 #[.slice a n c] w fun e w' => e = .returned (.int .i64 (checkE (hs.map Hd.xs))) ∧ Below w.heap.size w w' := by
  obtain ⟨W, hW⟩ : ∃ W, W = w.alloc (.cells #[.func (.func 101) #[] #[]] 116) := ⟨_, rfl⟩
  have hbW : Below w.heap.size w W := by rw [hW]; (repeat' (first | (with_reducible exact Below.refl _ _) | (with_reducible assumption) | (with_reducible refine Below.alloc ?_ ?_ _) | (with_reducible refine Below.drew ?_) | (with_reducible refine Below.draws ?_ _) | (with_reducible refine Below.setCell ?_ ?_ _) | (refine Below.then ?_ (by with_reducible assumption)) | go_size))
  have hcW : W.cell? ⟨w.heap.size, 0, none⟩ = some (.func (.func 101) #[] #[]) := by rw [hW]; simp [go_sem]
  have hsW : w.heap.size < W.heap.size := by rw [hW]; simp
  have c1 := containsFuncS 103 #[.pointer (some ⟨w.heap.size, 0, none⟩)] Hd.val (fun h => h.xs.any farB) a n c (hs.map (·.ext hbW)) W (Hd.map_ext hbW hs hR) (farList_pred W w.heap.size hsW hcW)
  have c2 : ∀ w1, Below w.heap.size w w1 → Calls Tryz.prog 60 #[.slice a n c, .func (.func 102) #[] #[]] w1 fun e w' => e = .returned (.bool ((hs.map Hd.xs).any fun l => decide (40 < l.length))) ∧ Below w1.heap.size w1 w' := fun w1 hb => by
    have := containsFuncS 102 #[] Hd.val (fun h => decide (40 < h.xs.length)) a n c (hs.map (·.ext hb)) w1 (Hd.map_ext hb hs hR) (long_pred w1)
    rw [List.any_map] at this ⊢
    exact this
  have e1 : (hs.map (·.ext hbW)).any (fun h => h.xs.any farB) = (hs.map Hd.xs).any fun l => l.any farB := by rw [List.any_map, List.any_map]; rfl
  rw [e1] at c1
  unfold checkE
  generalize (hs.map Hd.xs).any (fun l => l.any farB) = b1 at *
  generalize (hs.map Hd.xs).any (fun l => decide (40 < l.length)) = b2 at *
  subst hW
  have C1 := Lib.hid c1; have C2 := Lib.hid c2; clear c1 c2 e1 hcW hR
  have HBW := Lib.hid hbW; clear hbW
  cases b1 <;> cases b2
  all_goals
    go_enter Tryz.func66, Tryz.ntmps66
    go_wp2_with (first | (go_at_call 60; (with_reducible refine C1.out.mono ?_); rintro e w1 ⟨rfl, hb1⟩; have HB1 := Lib.hid (HBW.out.trans (hb1.mono (Nat.le_of_lt hsW))); clear hb1) | (go_at_call 60; refine (C2.out _ HB1.out).mono ?_; rintro e w2 ⟨rfl, hb2⟩))
    go_ret
    first | exact ⟨rfl, HB1.out⟩ | exact ⟨rfl, Below.then HB1.out hb2⟩
def listE (l : List P2) : Int := if l.any farB then 1 else if 40 < l.length then 2 else 0
theorem check_one (a : Option Addr) (n c : Nat) (w : World) (xs : List P2) (hR : Rd w a n 2 (xs.map enc2)) :
    Calls Tryz.prog 66 #[.slice (some ⟨w.heap.size, 0, none⟩) 1 1] (w.alloc (.cells #[.slice a n c] 27)) fun e w' => e = .returned (.int .i64 (listE xs)) ∧ Below w.heap.size w w' := by
  have hbW : Below w.heap.size w (w.alloc (.cells #[.slice a n c] 27)) := by (repeat' (first | (with_reducible exact Below.refl _ _) | (with_reducible assumption) | (with_reducible refine Below.alloc ?_ ?_ _) | (with_reducible refine Below.drew ?_) | (with_reducible refine Below.draws ?_ _) | (with_reducible refine Below.setCell ?_ ?_ _) | (refine Below.then ?_ (by with_reducible assumption)) | go_size))
  refine (check_any (some ⟨w.heap.size, 0, none⟩) 1 1 (w.alloc (.cells #[.slice a n c] 27)) [⟨a, n, c, xs, hR.ext hbW⟩] ⟨rfl, by omega, fun _ => ⟨w.heap.size, 0, rfl, by simp, fun i hi j hj => ?_⟩⟩).mono ?_
  · obtain rfl : i = 0 := by simpa using hi
    obtain rfl : j = 0 := by omega
    simp [Hd.val]
  · rintro e w' ⟨rfl, hb⟩
    refine ⟨ret_int ?_, Below.then hbW hb⟩
    show checkE [xs] = listE xs
    unfold checkE listE
    simp only [List.any_cons, List.any_nil, Bool.or_false, decide_eq_true_eq]
theorem listed_any (a : Option Addr) (n c : Nat) (w : World) (xs : List P2) (hR : Rd w a n 2 (xs.map enc2)) :
    Calls Tryz.prog 71 #[.slice a n c] w fun e w' => e = .returned (.int .i64 (listE xs)) ∧ Below w.heap.size w w' := by
  have HL := Lib.hid hR.length
  have hs := hR.small
  have HR := Lib.hid hR; clear hR
  generalize hg : xs.any farB = R
  have HG := Lib.hid hg
  generalize hq : listE xs = E
  rw [listE, hg, HL.out] at hq
  have HQ := Lib.hid hq; clear hg hq
  go_enter Tryz.func71, Tryz.ntmps71
  go_wp2
  go_loopw [3] (fun i wr => ∃ k : Nat, k ≤ n ∧ i = .int .i64 k ∧ (xs.drop k).any farB = R ∧ Below w.heap.size w wr) (fun i _ => n - (intOf i).toNat)
  case atStart => exact ⟨0, Nat.zero_le _, rfl, HG.out, Below.refl _ _⟩
  case round =>
    obtain ⟨k, hk, rfl, he, hB⟩ := hrel
    have HE := Lib.hid he; clear he
    by_cases hlt : k < n
    · obtain ⟨⟨x1, x2⟩, b, off, rfl, hb, h1, h2, HD⟩ := (HR.out.ext hB).next2 k hlt
      simp only [] at h1 h2
      have HB := Lib.hid hB; clear hB
      have HE2 : Hid ((farB (x1, x2) || (xs.drop (k + 1)).any farB) = R) := by have := HE.out; rw [HD.out] at this; exact this
      go_wp2_with (go_at_call 105; refine (in_any _ _ _ _).mono ?_; rintro e w1 ⟨rfl, rfl⟩)
      all_goals first
        | (have hr : R = true := by rw [← HE2.out]; simp [farB, *]
           have hE : E = 1 := by rw [← HQ.out, hr]; rfl
           subst hE
           go_ret
           exact ⟨rfl, HB.out⟩)
        | exact ⟨⟨k + 1, by omega, by go_num, by have := HE2.out; simpa [farB, *] using this, HB.out⟩, by simp [intOf]; omega⟩
    · have : R = false := by rw [← HE.out, drop_end HL.out (by omega)]; rfl
      subst this
      by_cases h40 : 40 < n
      all_goals
        have : E = _ := HQ.out.symm
        simp only [h40, if_true, if_false, Bool.false_eq_true] at this
        subst this
        go_wp2
        go_ret
        exact ⟨rfl, hB⟩
end Go.Proofs.YtlhnhmimhpcoaaaGreat
namespace Go.Proofs.YtlhnhmimhpcoaaaGreat
open Go.RowKit
set_option linter.unusedSimpArgs false
set_option linter.unusedVariables false
def allowGo (g j : Int) : Int → List P2 → Bool
  | _, [] => true
  | least, x :: xs => if x.1 < least ∨ j < x.2 then false else allowGo g j (x.1 + g) xs
def allowR (f g j : Int) (xs : List P2) : Bool × Int := if vpat f g j then (if listE xs = 0 then (allowGo g j f xs, 0) else (false, listE xs)) else (false, 1)
theorem listE_zero {xs : List P2} (h : listE xs = 0) : xs.any farB = false ∧ xs.length ≤ 40 := by
  unfold listE at h
  split at h
  · omega
  · split at h
    · omega
    · rename_i h1 h2; exact ⟨by simpa using h1, by omega⟩
theorem farB_false {x : P2} (h : farB x = false) : (0 ≤ x.1 ∧ x.1 ≤ 1000000) ∧ (0 ≤ x.2 ∧ x.2 ≤ 1000000) := by
  simp only [farB, Bool.or_eq_false_iff, Bool.not_eq_false', inB_iff] at h; exact h
theorem allowed_any (f g j : Int) (a : Option Addr) (n c : Nat) (w : World) (xs : List P2) (hR : Rd w a n 2 (xs.map enc2)) :
    Calls Tryz.prog 25 #[patV f g j, .slice a n c] w fun e w' => e = rBP (allowR f g j xs) ∧ Below w.heap.size w w' := by
  have HL := Lib.hid hR.length
  have hs := hR.small
  have HR := Lib.hid hR; clear hR
  by_cases hv : vpat f g j = true
  · rw [allowR, if_pos hv]
    by_cases he : listE xs = 0
    · rw [if_pos he]
      obtain ⟨h1, h2⟩ := listE_zero he
      obtain ⟨k1, k2, k3⟩ := vpat_iff.1 hv
      generalize hq : allowGo g j f xs = R
      have HQ := Lib.hid hq
      have HF := Lib.hid h1
      clear hq h1 h2
      go_enter Tryz.func25, Tryz.ntmps25
      go_wp2_with (first | (go_at_call 65; refine (valid_any _ _ _ _).mono ?_; rintro e w1 ⟨rfl, hb1⟩; obtain ⟨hc1, hf1, hz1, hr1⟩ := bfacts hb1; (try simp only [World.size_alloc, World.size_setCell, World.size_drew, World.size_drewN] at hz1 hr1); (try have hw0 : w.heap.size < w1.heap.size := by omega); (try have hw1 : w.heap.size + 1 < w1.heap.size := by omega); (try have hw2 : w.heap.size + 1 + 1 < w1.heap.size := by omega)) | (go_at_call 66; refine (check_one _ _ _ _ _ ((HR.out.ext (show Below w.heap.size w (w.alloc _) by (repeat' (first | (with_reducible exact Below.refl _ _) | (with_reducible assumption) | (with_reducible refine Below.alloc ?_ ?_ _) | (with_reducible refine Below.drew ?_) | (with_reducible refine Below.draws ?_ _) | (with_reducible refine Below.setCell ?_ ?_ _) | (refine Below.then ?_ (by with_reducible assumption)) | go_size)))).ext hb1)).mono ?_; rintro e w1 ⟨rfl, hb1⟩; obtain ⟨hc1, hf1, hz1, hr1⟩ := bfacts hb1; (try simp only [World.size_alloc, World.size_setCell, World.size_drew, World.size_drewN] at hz1 hr1); (try have hw0 : w.heap.size < w1.heap.size := by omega); (try have hw1 : w.heap.size + 1 < w1.heap.size := by omega); (try have hw2 : w.heap.size + 1 + 1 < w1.heap.size := by omega)))
      go_loopw [7, 23] (fun q i wr => ∃ (k : Nat) (least : Int), k ≤ n ∧ i = .int .i64 k ∧ q = .int .i64 least ∧ allowGo g j least (xs.drop k) = R ∧ (xs.drop k).any farB = false ∧ wr.cell? ⟨w.heap.size, 1, none⟩ = some (.int .i64 g) ∧ wr.cell? ⟨w.heap.size, 2, none⟩ = some (.int .i64 j) ∧ w.heap.size < wr.heap.size ∧ Below w.heap.size w wr) (fun _ i _ => n - (intOf i).toNat)
      case atStart => exact ⟨0, f, Nat.zero_le _, rfl, rfl, HQ.out, HF.out, by simp [go_sem, *], by simp [go_sem, *], by omega, by (repeat' (first | (with_reducible exact Below.refl _ _) | (with_reducible assumption) | (with_reducible refine Below.alloc ?_ ?_ _) | (with_reducible refine Below.drew ?_) | (with_reducible refine Below.draws ?_ _) | (with_reducible refine Below.setCell ?_ ?_ _) | (refine Below.then ?_ (by with_reducible assumption)) | go_size))⟩
      case round =>
        obtain ⟨k, least, hk, rfl, rfl, he, hf, hc1, hc2, hz, hB⟩ := hrel
        have HE := Lib.hid he; have HF2 := Lib.hid hf; clear he hf
        by_cases hlt : k < n
        · obtain ⟨⟨x1, x2⟩, b, off, rfl, hb, h1, h2, HD⟩ := (HR.out.ext hB).next2 k hlt
          simp only [] at h1 h2
          have HB := Lib.hid hB; clear hB
          have hf3 : farB (x1, x2) = false ∧ (xs.drop (k + 1)).any farB = false := by have := HF2.out; rw [HD.out] at this; simpa using this
          obtain ⟨⟨b1, b2⟩, b3, b4⟩ := farB_false hf3.1
          simp only [] at b1 b2 b3 b4
          have HF3 := Lib.hid hf3.2; clear hf3
          have HE2 : Hid ((if x1 < least ∨ j < x2 then false else allowGo g j (x1 + g) (xs.drop (k + 1))) = R) := by have := HE.out; rw [HD.out] at this; exact this
          by_cases ht : x1 < least ∨ j < x2
          · have hr : R = false := by rw [← HE2.out, if_pos ht]
            subst hr
            by_cases ht1 : x1 < least
            · go_wp2
              go_ret2
              exact ⟨rfl, HB.out.trans (by (repeat' (first | (with_reducible exact Below.refl _ _) | (with_reducible assumption) | (with_reducible refine Below.alloc ?_ ?_ _) | (with_reducible refine Below.drew ?_) | (with_reducible refine Below.draws ?_ _) | (with_reducible refine Below.setCell ?_ ?_ _) | (refine Below.then ?_ (by with_reducible assumption)) | go_size)))⟩
            · have ht2 : j < x2 := by omega
              go_wp2
              go_ret2
              exact ⟨rfl, HB.out.trans (by (repeat' (first | (with_reducible exact Below.refl _ _) | (with_reducible assumption) | (with_reducible refine Below.alloc ?_ ?_ _) | (with_reducible refine Below.drew ?_) | (with_reducible refine Below.draws ?_ _) | (with_reducible refine Below.setCell ?_ ?_ _) | (refine Below.then ?_ (by with_reducible assumption)) | go_size)))⟩
          · have HE3 : Hid (allowGo g j (x1 + g) (xs.drop (k + 1)) = R) := by have := HE2.out; rwa [if_neg ht] at this
            have t1 : ¬ x1 < least := fun h => ht (.inl h)
            have t2 : ¬ j < x2 := fun h => ht (.inr h)
            clear ht
            go_wp2
            go_roundw
            case rel => exact ⟨k + 1, x1 + g, by omega, by go_num, rfl, HE3.out, HF3.out, by simp [go_sem, *], by simp [go_sem, *], by simp; omega, HB.out.trans (by (repeat' (first | (with_reducible exact Below.refl _ _) | (with_reducible assumption) | (with_reducible refine Below.alloc ?_ ?_ _) | (with_reducible refine Below.drew ?_) | (with_reducible refine Below.draws ?_ _) | (with_reducible refine Below.setCell ?_ ?_ _) | (refine Below.then ?_ (by with_reducible assumption)) | go_size)))⟩
            case measure => simp [intOf]; omega
        · have hr : R = true := by rw [← HE.out, drop_end HL.out (by omega)]; rfl
          subst hr
          go_wp2
          go_ret2
          exact ⟨rfl, hB⟩
    · rw [if_neg he]
      have he' : (listE xs != 0) = true := by simpa using he
      go_enter Tryz.func25, Tryz.ntmps25
      go_wp2_with (first | (go_at_call 65; refine (valid_any _ _ _ _).mono ?_; rintro e w1 ⟨rfl, hb1⟩; obtain ⟨hc1, hf1, hz1, hr1⟩ := bfacts hb1; (try simp only [World.size_alloc, World.size_setCell, World.size_drew, World.size_drewN] at hz1 hr1); (try have hw0 : w.heap.size < w1.heap.size := by omega); (try have hw1 : w.heap.size + 1 < w1.heap.size := by omega); (try have hw2 : w.heap.size + 1 + 1 < w1.heap.size := by omega)) | (go_at_call 66; refine (check_one _ _ _ _ _ ((HR.out.ext (show Below w.heap.size w (w.alloc _) by (repeat' (first | (with_reducible exact Below.refl _ _) | (with_reducible assumption) | (with_reducible refine Below.alloc ?_ ?_ _) | (with_reducible refine Below.drew ?_) | (with_reducible refine Below.draws ?_ _) | (with_reducible refine Below.setCell ?_ ?_ _) | (refine Below.then ?_ (by with_reducible assumption)) | go_size)))).ext hb1)).mono ?_; rintro e w1 ⟨rfl, hb1⟩; obtain ⟨hc1, hf1, hz1, hr1⟩ := bfacts hb1; (try simp only [World.size_alloc, World.size_setCell, World.size_drew, World.size_drewN] at hz1 hr1); (try have hw0 : w.heap.size < w1.heap.size := by omega); (try have hw1 : w.heap.size + 1 < w1.heap.size := by omega); (try have hw2 : w.heap.size + 1 + 1 < w1.heap.size := by omega)))
      go_ret2
      exact ⟨rfl, by (repeat' (first | (with_reducible exact Below.refl _ _) | (with_reducible assumption) | (with_reducible refine Below.alloc ?_ ?_ _) | (with_reducible refine Below.drew ?_) | (with_reducible refine Below.draws ?_ _) | (with_reducible refine Below.setCell ?_ ?_ _) | (refine Below.then ?_ (by with_reducible assumption)) | go_size))⟩
  · rw [allowR, if_neg hv]
    go_enter Tryz.func25, Tryz.ntmps25
    go_wp2_with (first | (go_at_call 65; refine (valid_any _ _ _ _).mono ?_; rintro e w1 ⟨rfl, hb1⟩; obtain ⟨hc1, hf1, hz1, hr1⟩ := bfacts hb1; (try simp only [World.size_alloc, World.size_setCell, World.size_drew, World.size_drewN] at hz1 hr1); (try have hw0 : w.heap.size < w1.heap.size := by omega); (try have hw1 : w.heap.size + 1 < w1.heap.size := by omega); (try have hw2 : w.heap.size + 1 + 1 < w1.heap.size := by omega)) | (go_at_call 66; refine (check_one _ _ _ _ _ ((HR.out.ext (show Below w.heap.size w (w.alloc _) by (repeat' (first | (with_reducible exact Below.refl _ _) | (with_reducible assumption) | (with_reducible refine Below.alloc ?_ ?_ _) | (with_reducible refine Below.drew ?_) | (with_reducible refine Below.draws ?_ _) | (with_reducible refine Below.setCell ?_ ?_ _) | (refine Below.then ?_ (by with_reducible assumption)) | go_size)))).ext hb1)).mono ?_; rintro e w1 ⟨rfl, hb1⟩; obtain ⟨hc1, hf1, hz1, hr1⟩ := bfacts hb1; (try simp only [World.size_alloc, World.size_setCell, World.size_drew, World.size_drewN] at hz1 hr1); (try have hw0 : w.heap.size < w1.heap.size := by omega); (try have hw1 : w.heap.size + 1 < w1.heap.size := by omega); (try have hw2 : w.heap.size + 1 + 1 < w1.heap.size := by omega)))
    go_ret2
    exact ⟨rfl, by (repeat' (first | (with_reducible exact Below.refl _ _) | (with_reducible assumption) | (with_reducible refine Below.alloc ?_ ?_ _) | (with_reducible refine Below.drew ?_) | (with_reducible refine Below.draws ?_ _) | (with_reducible refine Below.setCell ?_ ?_ _) | (refine Below.then ?_ (by with_reducible assumption)) | go_size))⟩
theorem rallowed_any (f g j : Int) (a : Option Addr) (n c : Nat) (w : World) (xs : List P2) (hR : Rd w a n 2 (xs.map enc2)) :
    Calls Tryz.prog 28 #[patV f g j, .slice a n c] w fun e w' => e = rBP (allowR f g j xs) ∧ Below w.heap.size w w' := by
  have HL := Lib.hid hR.length
  have hs := hR.small
  have HR := Lib.hid hR; clear hR
  by_cases hv : vpat f g j = true
  · rw [allowR, if_pos hv]
    by_cases he : listE xs = 0
    · rw [if_pos he]
      obtain ⟨h1, h2⟩ := listE_zero he
      obtain ⟨k1, k2, k3⟩ := vpat_iff.1 hv
      generalize hq : allowGo g j f xs = R
      have HQ := Lib.hid hq
      have HF := Lib.hid h1
      clear hq h1 h2
      go_enter Tryz.func28, Tryz.ntmps28
      go_wp2_with (first | (go_at_call 70; refine (rvalid_any _ _ _ _).mono ?_; rintro e w1 ⟨rfl, hb1⟩; obtain ⟨hc1, hf1, hz1, hr1⟩ := bfacts hb1; (try simp only [World.size_alloc, World.size_setCell, World.size_drew, World.size_drewN] at hz1 hr1); (try have hw0 : w.heap.size < w1.heap.size := by omega); (try have hw1 : w.heap.size + 1 < w1.heap.size := by omega); (try have hw2 : w.heap.size + 1 + 1 < w1.heap.size := by omega)) | (go_at_call 71; refine (listed_any _ _ _ _ _ ((HR.out.ext (show Below w.heap.size w (w.alloc _) by (repeat' (first | (with_reducible exact Below.refl _ _) | (with_reducible assumption) | (with_reducible refine Below.alloc ?_ ?_ _) | (with_reducible refine Below.drew ?_) | (with_reducible refine Below.draws ?_ _) | (with_reducible refine Below.setCell ?_ ?_ _) | (refine Below.then ?_ (by with_reducible assumption)) | go_size)))).ext hb1)).mono ?_; rintro e w1 ⟨rfl, hb1⟩; obtain ⟨hc1, hf1, hz1, hr1⟩ := bfacts hb1; (try simp only [World.size_alloc, World.size_setCell, World.size_drew, World.size_drewN] at hz1 hr1); (try have hw0 : w.heap.size < w1.heap.size := by omega); (try have hw1 : w.heap.size + 1 < w1.heap.size := by omega); (try have hw2 : w.heap.size + 1 + 1 < w1.heap.size := by omega)))
      go_loopw [7] (fun i wr => ∃ (k : Nat) (least : Int), k ≤ n ∧ i = .int .i64 k ∧ f ≤ least ∧ (k = 0 ∧ least = f ∨ 0 < k ∧ ∃ y : P2, least = y.1 + g ∧ (0 ≤ y.1 ∧ y.1 ≤ 1000000) ∧ xs.drop (k - 1) = y :: xs.drop k) ∧ allowGo g j least (xs.drop k) = R ∧ (xs.drop k).any farB = false ∧ wr.cell? ⟨w.heap.size, 0, none⟩ = some (.int .i64 f) ∧ wr.cell? ⟨w.heap.size, 1, none⟩ = some (.int .i64 g) ∧ wr.cell? ⟨w.heap.size, 2, none⟩ = some (.int .i64 j) ∧ w.heap.size < wr.heap.size ∧ Below w.heap.size w wr) (fun i _ => n - (intOf i).toNat)
      case atStart => exact ⟨0, f, Nat.zero_le _, rfl, Int.le_refl _, .inl ⟨rfl, rfl⟩, HQ.out, HF.out, by simp [go_sem, *], by simp [go_sem, *], by simp [go_sem, *], by omega, by (repeat' (first | (with_reducible exact Below.refl _ _) | (with_reducible assumption) | (with_reducible refine Below.alloc ?_ ?_ _) | (with_reducible refine Below.drew ?_) | (with_reducible refine Below.draws ?_ _) | (with_reducible refine Below.setCell ?_ ?_ _) | (refine Below.then ?_ (by with_reducible assumption)) | go_size))⟩
      case round =>
        obtain ⟨k, least, hk, rfl, hfl, hpr, he, hf, hc0, hc1, hc2, hz, hB⟩ := hrel
        have HE := Lib.hid he; have HF2 := Lib.hid hf; have HP := Lib.hid hpr; clear he hf hpr
        by_cases hlt : k < n
        · obtain ⟨⟨x1, x2⟩, b, off, rfl, hb, h1, h2, HD⟩ := (HR.out.ext hB).next2 k hlt
          simp only [] at h1 h2
          have hRr := Lib.hid (HR.out.ext hB)
          have HB := Lib.hid hB; clear hB
          have hf3 : farB (x1, x2) = false ∧ (xs.drop (k + 1)).any farB = false := by have := HF2.out; rw [HD.out] at this; simpa using this
          obtain ⟨⟨b1, b2⟩, b3, b4⟩ := farB_false hf3.1
          simp only [] at b1 b2 b3 b4
          have HF3 := Lib.hid hf3.2; clear hf3
          have HE2 : Hid ((if x1 < least ∨ j < x2 then false else allowGo g j (x1 + g) (xs.drop (k + 1))) = R) := by have := HE.out; rw [HD.out] at this; exact this
          have HN : Hid (0 < k + 1 ∧ ∃ y : P2, x1 + g = y.1 + g ∧ (0 ≤ y.1 ∧ y.1 ≤ 1000000) ∧ xs.drop (k + 1 - 1) = y :: xs.drop (k + 1)) := ⟨by omega, (x1, x2), rfl, ⟨b1, b2⟩, HD.out⟩
          rcases HP.out with ⟨rfl, rfl⟩ | ⟨hk0, ⟨y1, y2⟩, hly, ⟨hy1, hy2⟩, hdy⟩
          · simp only [Nat.zero_mul, Nat.add_zero] at h1 h2
            by_cases t1 : x1 < least
            · have hr : R = false := by rw [← HE2.out, if_pos (.inl t1)]
              subst hr
              clear HP HE2 HN
              go_wp2_with (refine wp_region_later_lit (by kernel_rfl) (by kernel_rfl) ?_; (repeat (go_big_quiet_step (fail))); refine wpQuiet_nil ?_; intro w1 hb1; obtain ⟨hc1, hf1, hz1, hr1⟩ := bfacts hb1; (try simp only [World.size_alloc, World.size_setCell, World.size_drew, World.size_drewN] at hz1 hr1); (try have hw0 : w.heap.size < w1.heap.size := by omega); (try have hw1 : w.heap.size + 1 < w1.heap.size := by omega); (try have hw2 : w.heap.size + 1 + 1 < w1.heap.size := by omega))
              go_ret2
              exact ⟨rfl, (by have hB' := HB.out; (repeat' (first | (with_reducible exact Below.refl _ _) | (with_reducible assumption) | (with_reducible refine Below.alloc ?_ ?_ _) | (with_reducible refine Below.drew ?_) | (with_reducible refine Below.draws ?_ _) | (with_reducible refine Below.setCell ?_ ?_ _) | (refine Below.then ?_ (by with_reducible assumption)) | go_size)))⟩
            · have d1 : decide (x1 < least) = false := by simpa using t1
              by_cases t2 : j < x2
              · have hr : R = false := by rw [← HE2.out, if_pos (.inr t2)]
                subst hr
                clear HP HE2 HN
                go_wp2_with (refine wp_region_later_lit (by kernel_rfl) (by kernel_rfl) ?_; (repeat (go_big_quiet_step (fail))); refine wpQuiet_nil ?_; intro w1 hb1; obtain ⟨hc1, hf1, hz1, hr1⟩ := bfacts hb1; (try simp only [World.size_alloc, World.size_setCell, World.size_drew, World.size_drewN] at hz1 hr1); (try have hw0 : w.heap.size < w1.heap.size := by omega); (try have hw1 : w.heap.size + 1 < w1.heap.size := by omega); (try have hw2 : w.heap.size + 1 + 1 < w1.heap.size := by omega))
                go_ret2
                exact ⟨rfl, (by have hB' := HB.out; (repeat' (first | (with_reducible exact Below.refl _ _) | (with_reducible assumption) | (with_reducible refine Below.alloc ?_ ?_ _) | (with_reducible refine Below.drew ?_) | (with_reducible refine Below.draws ?_ _) | (with_reducible refine Below.setCell ?_ ?_ _) | (refine Below.then ?_ (by with_reducible assumption)) | go_size)))⟩
              · have d2 : decide (j < x2) = false := by simpa using t2
                have HE3 : Hid (allowGo g j (x1 + g) (xs.drop (0 + 1)) = R) := by have := HE2.out; rwa [if_neg (by omega)] at this
                clear HE2
                go_wp2_with (refine wp_region_later_lit (by kernel_rfl) (by kernel_rfl) ?_; (repeat (go_big_quiet_step (fail))); refine wpQuiet_nil ?_; intro w1 hb1; obtain ⟨hc1, hf1, hz1, hr1⟩ := bfacts hb1; (try simp only [World.size_alloc, World.size_setCell, World.size_drew, World.size_drewN] at hz1 hr1); (try have hw0 : w.heap.size < w1.heap.size := by omega); (try have hw1 : w.heap.size + 1 < w1.heap.size := by omega); (try have hw2 : w.heap.size + 1 + 1 < w1.heap.size := by omega))
                go_roundw
                case rel => exact ⟨0 + 1, x1 + g, by omega, by go_num, by omega, .inr HN.out, HE3.out, HF3.out, by simp [go_sem, *], by simp [go_sem, *], by simp [go_sem, *], by omega, (by have hB' := HB.out; (repeat' (first | (with_reducible exact Below.refl _ _) | (with_reducible assumption) | (with_reducible refine Below.alloc ?_ ?_ _) | (with_reducible refine Below.drew ?_) | (with_reducible refine Below.draws ?_ _) | (with_reducible refine Below.setCell ?_ ?_ _) | (refine Below.then ?_ (by with_reducible assumption)) | go_size)))⟩
                case measure => simp [intOf]; omega
          · obtain ⟨⟨z1, z2⟩, b', off', hab, hb', g1, g2, HD'⟩ := hRr.out.next2 (k - 1) (by omega)
            obtain ⟨rfl, rfl⟩ : b = b' ∧ off = off' := by simpa using hab
            have hz1 : (y1, y2) = (z1, z2) ∧ True := by have := HD'.out; rw [hdy] at this; exact ⟨(List.cons.inj this).1, trivial⟩
            have hz2 : y1 = z1 := congrArg Prod.fst hz1.1
            subst hz2
            simp only [] at g1 g2 hly hy1 hy2
            clear hy1 hdy HD' hab
            have hkk : ((k : Int) - 1).toNat = k - 1 := by omega
            have hmax : max f (y1 + g) = y1 + g := by omega
            subst hly
            by_cases t1 : x1 < (y1 + g)
            · have hr : R = false := by rw [← HE2.out, if_pos (.inl t1)]
              subst hr
              clear HP HE2 HN
              go_wp2_with (refine wp_region_later_lit (by kernel_rfl) (by kernel_rfl) ?_; (repeat (go_big_quiet_step (fail))); refine wpQuiet_nil ?_; intro w1 hb1; obtain ⟨hc1, hf1, hz1, hr1⟩ := bfacts hb1; (try simp only [World.size_alloc, World.size_setCell, World.size_drew, World.size_drewN] at hz1 hr1); (try have hw0 : w.heap.size < w1.heap.size := by omega); (try have hw1 : w.heap.size + 1 < w1.heap.size := by omega); (try have hw2 : w.heap.size + 1 + 1 < w1.heap.size := by omega))
              go_ret2
              exact ⟨rfl, (by have hB' := HB.out; (repeat' (first | (with_reducible exact Below.refl _ _) | (with_reducible assumption) | (with_reducible refine Below.alloc ?_ ?_ _) | (with_reducible refine Below.drew ?_) | (with_reducible refine Below.draws ?_ _) | (with_reducible refine Below.setCell ?_ ?_ _) | (refine Below.then ?_ (by with_reducible assumption)) | go_size)))⟩
            · have d1 : decide (x1 < (y1 + g)) = false := by simpa using t1
              by_cases t2 : j < x2
              · have hr : R = false := by rw [← HE2.out, if_pos (.inr t2)]
                subst hr
                clear HP HE2 HN
                go_wp2_with (refine wp_region_later_lit (by kernel_rfl) (by kernel_rfl) ?_; (repeat (go_big_quiet_step (fail))); refine wpQuiet_nil ?_; intro w1 hb1; obtain ⟨hc1, hf1, hz1, hr1⟩ := bfacts hb1; (try simp only [World.size_alloc, World.size_setCell, World.size_drew, World.size_drewN] at hz1 hr1); (try have hw0 : w.heap.size < w1.heap.size := by omega); (try have hw1 : w.heap.size + 1 < w1.heap.size := by omega); (try have hw2 : w.heap.size + 1 + 1 < w1.heap.size := by omega))
                go_ret2
                exact ⟨rfl, (by have hB' := HB.out; (repeat' (first | (with_reducible exact Below.refl _ _) | (with_reducible assumption) | (with_reducible refine Below.alloc ?_ ?_ _) | (with_reducible refine Below.drew ?_) | (with_reducible refine Below.draws ?_ _) | (with_reducible refine Below.setCell ?_ ?_ _) | (refine Below.then ?_ (by with_reducible assumption)) | go_size)))⟩
              · have d2 : decide (j < x2) = false := by simpa using t2
                have HE3 : Hid (allowGo g j (x1 + g) (xs.drop (k + 1)) = R) := by have := HE2.out; rwa [if_neg (by omega)] at this
                clear HE2
                go_wp2_with (refine wp_region_later_lit (by kernel_rfl) (by kernel_rfl) ?_; (repeat (go_big_quiet_step (fail))); refine wpQuiet_nil ?_; intro w1 hb1; obtain ⟨hc1, hf1, hz1, hr1⟩ := bfacts hb1; (try simp only [World.size_alloc, World.size_setCell, World.size_drew, World.size_drewN] at hz1 hr1); (try have hw0 : w.heap.size < w1.heap.size := by omega); (try have hw1 : w.heap.size + 1 < w1.heap.size := by omega); (try have hw2 : w.heap.size + 1 + 1 < w1.heap.size := by omega))
                go_roundw
                case rel => exact ⟨k + 1, x1 + g, by omega, by go_num, by omega, .inr HN.out, HE3.out, HF3.out, by simp [go_sem, *], by simp [go_sem, *], by simp [go_sem, *], by omega, (by have hB' := HB.out; (repeat' (first | (with_reducible exact Below.refl _ _) | (with_reducible assumption) | (with_reducible refine Below.alloc ?_ ?_ _) | (with_reducible refine Below.drew ?_) | (with_reducible refine Below.draws ?_ _) | (with_reducible refine Below.setCell ?_ ?_ _) | (refine Below.then ?_ (by with_reducible assumption)) | go_size)))⟩
                case measure => simp [intOf]; omega
        · have hr : R = true := by rw [← HE.out, drop_end HL.out (by omega)]; rfl
          subst hr
          go_wp2
          go_ret2
          exact ⟨rfl, hB⟩
    · rw [if_neg he]
      have he' : (listE xs != 0) = true := by simpa using he
      go_enter Tryz.func28, Tryz.ntmps28
      go_wp2_with (first | (go_at_call 70; refine (rvalid_any _ _ _ _).mono ?_; rintro e w1 ⟨rfl, hb1⟩; obtain ⟨hc1, hf1, hz1, hr1⟩ := bfacts hb1; (try simp only [World.size_alloc, World.size_setCell, World.size_drew, World.size_drewN] at hz1 hr1); (try have hw0 : w.heap.size < w1.heap.size := by omega); (try have hw1 : w.heap.size + 1 < w1.heap.size := by omega); (try have hw2 : w.heap.size + 1 + 1 < w1.heap.size := by omega)) | (go_at_call 71; refine (listed_any _ _ _ _ _ ((HR.out.ext (show Below w.heap.size w (w.alloc _) by (repeat' (first | (with_reducible exact Below.refl _ _) | (with_reducible assumption) | (with_reducible refine Below.alloc ?_ ?_ _) | (with_reducible refine Below.drew ?_) | (with_reducible refine Below.draws ?_ _) | (with_reducible refine Below.setCell ?_ ?_ _) | (refine Below.then ?_ (by with_reducible assumption)) | go_size)))).ext hb1)).mono ?_; rintro e w1 ⟨rfl, hb1⟩; obtain ⟨hc1, hf1, hz1, hr1⟩ := bfacts hb1; (try simp only [World.size_alloc, World.size_setCell, World.size_drew, World.size_drewN] at hz1 hr1); (try have hw0 : w.heap.size < w1.heap.size := by omega); (try have hw1 : w.heap.size + 1 < w1.heap.size := by omega); (try have hw2 : w.heap.size + 1 + 1 < w1.heap.size := by omega)))
      go_ret2
      exact ⟨rfl, by (repeat' (first | (with_reducible exact Below.refl _ _) | (with_reducible assumption) | (with_reducible refine Below.alloc ?_ ?_ _) | (with_reducible refine Below.drew ?_) | (with_reducible refine Below.draws ?_ _) | (with_reducible refine Below.setCell ?_ ?_ _) | (refine Below.then ?_ (by with_reducible assumption)) | go_size))⟩
  · rw [allowR, if_neg hv]
    go_enter Tryz.func28, Tryz.ntmps28
    go_wp2_with (first | (go_at_call 70; refine (rvalid_any _ _ _ _).mono ?_; rintro e w1 ⟨rfl, hb1⟩; obtain ⟨hc1, hf1, hz1, hr1⟩ := bfacts hb1; (try simp only [World.size_alloc, World.size_setCell, World.size_drew, World.size_drewN] at hz1 hr1); (try have hw0 : w.heap.size < w1.heap.size := by omega); (try have hw1 : w.heap.size + 1 < w1.heap.size := by omega); (try have hw2 : w.heap.size + 1 + 1 < w1.heap.size := by omega)) | (go_at_call 71; refine (listed_any _ _ _ _ _ ((HR.out.ext (show Below w.heap.size w (w.alloc _) by (repeat' (first | (with_reducible exact Below.refl _ _) | (with_reducible assumption) | (with_reducible refine Below.alloc ?_ ?_ _) | (with_reducible refine Below.drew ?_) | (with_reducible refine Below.draws ?_ _) | (with_reducible refine Below.setCell ?_ ?_ _) | (refine Below.then ?_ (by with_reducible assumption)) | go_size)))).ext hb1)).mono ?_; rintro e w1 ⟨rfl, hb1⟩; obtain ⟨hc1, hf1, hz1, hr1⟩ := bfacts hb1; (try simp only [World.size_alloc, World.size_setCell, World.size_drew, World.size_drewN] at hz1 hr1); (try have hw0 : w.heap.size < w1.heap.size := by omega); (try have hw1 : w.heap.size + 1 < w1.heap.size := by omega); (try have hw2 : w.heap.size + 1 + 1 < w1.heap.size := by omega)))
    go_ret2
    exact ⟨rfl, by (repeat' (first | (with_reducible exact Below.refl _ _) | (with_reducible assumption) | (with_reducible refine Below.alloc ?_ ?_ _) | (with_reducible refine Below.drew ?_) | (with_reducible refine Below.draws ?_ _) | (with_reducible refine Below.setCell ?_ ?_ _) | (refine Below.then ?_ (by with_reducible assumption)) | go_size))⟩
end Go.Proofs.YtlhnhmimhpcoaaaGreat
namespace Go.Proofs.YtlhnhmimhpcoaaaGreat
open Go.RowKit
set_option linter.unusedSimpArgs false
set_option linter.unusedVariables false
def buA (R : Rn) (i : Nat) : Int := (R.bu[i]?).getD 0
/-- does task i allow its events, and is its budget enough? -/
def mayB (R : Rn) (i : Nat) : Bool := allowGo (taAt R.L i).gap (taAt R.L i).jit (taAt R.L i).first (evA R i)
def lowB (R : Rn) (i : Nat) : Bool := decide (0 < buA R i) && decide (buA R i < costT (taAt R.L i))
def alwF (R : Rn) : Nat → Nat → Bool
  | 0, _ => decide (R.sg.length = 0)
  | f + 1, i => if mayB R i = true ∧ lowB R i = false then alwF R f (i + 1) else false
def alwR (R : Rn) : Bool × Int := if runB R = true then (alwF R R.L.length 0, 0) else (false, 1)
theorem may_is {R : Rn} (hr : RnOk R) (hv : ValidT R.L) {i : Nat} (hi : i < R.L.length) : allowR (taAt R.L i).first (taAt R.L i).gap (taAt R.L i).jit (evA R i) = (mayB R i, 0) := by
  have hev : i < R.ev.length := by rw [hr.ev]; exact hi
  have hel := hr.el (evA R i) (by unfold evA; rw [List.getElem?_eq_getElem hev]; exact List.getElem_mem hev)
  have h0 : listE (evA R i) = 0 := by
    unfold listE
    rw [if_neg, if_neg (by omega)]
    intro h
    rw [List.any_eq_true] at h
    obtain ⟨e, he, hf⟩ := h
    have := hel.2 e he
    simp only [farB, Bool.or_eq_true, Bool.not_eq_true'] at hf
    rcases hf with hf | hf
    · rw [show inB e.1 0 1000000 = true by rw [inB_iff]; exact this.1] at hf; cases hf
    · rw [show inB e.2 0 1000000 = true by rw [inB_iff]; exact this.2] at hf; cases hf
  unfold allowR mayB
  rw [if_pos (hv.vp _ (ta_mem hi)), if_pos h0]
theorem cost_is {R : Rn} (hvl : validL R.L = true) {i : Nat} (hi : i < R.L.length) : costR R.L i = (costT (taAt R.L i), 0) := by
  unfold costR
  rw [hvl, show inT R.L (i : Int) = true by rw [inT_iff]; omega]; rfl
set_option maxRecDepth 100000 in
set_option maxHeartbeats 4000000 in
theorem Allowed_any (H : RunH) (R : Rn) (w : World) (hR : ReadRun w H R) : Calls Tryz.prog 11 #[runV H R.fr R.sl] w fun e w' => e = rBP (alwR R) ∧ Below w.heap.size w w' := by
  have HV := Lib.hid (fun w1 (hb : Below w.heap.size w w1) => Valid_run H R w1 (hR.ext hb))
  unfold alwR
  obtain ⟨B, hB⟩ : ∃ B, runB R = B := ⟨_, rfl⟩
  rw [hB] at HV ⊢
  cases B
  · obtain ⟨fr, hfr⟩ : ∃ x, R.fr = x := ⟨_, rfl⟩
    obtain ⟨sl_, hsl⟩ : ∃ x, R.sl = x := ⟨_, rfl⟩
    rw [hfr, hsl] at HV ⊢
    obtain ⟨tA, tN, tC, eA, eN, eC, bA, bN, bC, sA, sN, sC⟩ := H
    unfold runV at HV ⊢
    simp only [] at HV ⊢
    clear hR hB hfr hsl
    go_enter Tryz.func11, Tryz.ntmps11
    go_wp2_with (go_at_call 24; (with_reducible refine (HV.out _ (by (repeat' (first | (with_reducible exact Below.refl _ _) | (with_reducible assumption) | (with_reducible refine Below.alloc ?_ ?_ _) | (with_reducible refine Below.drew ?_) | (with_reducible refine Below.draws ?_ _) | (with_reducible refine Below.setCell ?_ ?_ _) | (refine Below.then ?_ (by with_reducible assumption)) | go_size)))).mono ?_); rintro e w1 ⟨rfl, hb1⟩; have B1 : Hid (Below w.heap.size w w1) := Lib.hid (Below.trans (by (repeat' (first | (with_reducible exact Below.refl _ _) | (with_reducible assumption) | (with_reducible refine Below.alloc ?_ ?_ _) | (with_reducible refine Below.drew ?_) | (with_reducible refine Below.draws ?_ _) | (with_reducible refine Below.setCell ?_ ?_ _) | (refine Below.then ?_ (by with_reducible assumption)) | go_size))) (hb1.mono (by simp))); have z1 : w.heap.size < w1.heap.size := Nat.lt_of_lt_of_le (by simp) hb1.size; have c1_0 := (hb1.cell (p := ⟨w.heap.size, 0, none⟩) (by simp)).trans (by simp [go_sem]; rfl); have c1_1 := (hb1.cell (p := ⟨w.heap.size, 1, none⟩) (by simp)).trans (by simp [go_sem]; rfl); have c1_2 := (hb1.cell (p := ⟨w.heap.size, 2, none⟩) (by simp)).trans (by simp [go_sem]; rfl); have c1_3 := (hb1.cell (p := ⟨w.heap.size, 3, none⟩) (by simp)).trans (by simp [go_sem]; rfl); have c1_4 := (hb1.cell (p := ⟨w.heap.size, 4, none⟩) (by simp)).trans (by simp [go_sem]; rfl); have c1_5 := (hb1.cell (p := ⟨w.heap.size, 5, none⟩) (by simp)).trans (by simp [go_sem]; rfl); clear hb1)
    go_ret2
    exact ⟨rfl, B1.out⟩
  · rw [if_pos rfl]
    obtain ⟨hr, hvl, _⟩ := run_ok hB
    have hv := valid_of hvl
    obtain ⟨A, hA⟩ : ∃ A, alwF R R.L.length 0 = A := ⟨_, rfl⟩
    rw [hA]
    have HR := Lib.hid hR.rd; have HRN := Lib.hid hr; have HVL := Lib.hid hvl; have HVT := Lib.hid hv
    have hen := hR.rd.e.len
    have htn := hR.rd.t.length
    have hbn := hR.rd.b.length
    have hsn := hR.rd.s.length
    have hL5 := hr.r.len
    have hev := hr.ev
    have hbu := hr.bu
    obtain ⟨nL, hnL⟩ : ∃ x, R.L.length = x := ⟨_, rfl⟩
    have HNL := Lib.hid hnL
    have heN : H.eN = nL := by omega
    have htN : H.tN = nL := by omega
    have hbN : H.bN = nL := by omega
    have hn5 : nL ≤ 5 := by omega
    rw [hnL] at hA
    have HA0 : Hid (alwF R (nL - 0) 0 = A) := Lib.hid hA
    have hs40 := hr.sl
    have HSN := Lib.hid hsn
    obtain ⟨fr, hfr⟩ : ∃ x, R.fr = x := ⟨_, rfl⟩
    obtain ⟨sl_, hsl⟩ : ∃ x, R.sl = x := ⟨_, rfl⟩
    rw [hfr, hsl] at HV ⊢
    obtain ⟨tA, tN, tC, eA, eN, eC, bA, bN, bC, sA, sN, sC⟩ := H
    unfold runV at HV ⊢
    simp only [] at HV HR heN htN hbN HSN hsn ⊢
    subst heN; subst htN; subst hbN
    have hsN : sN ≤ 40 := by omega
    clear hR hB hfr hsl hnL hr hvl hv hA hen htn hbn hsn hL5 hev hbu hs40
    go_enter Tryz.func11, Tryz.ntmps11
    go_wp2_with (go_at_call 24; (with_reducible refine (HV.out _ (by (repeat' (first | (with_reducible exact Below.refl _ _) | (with_reducible assumption) | (with_reducible refine Below.alloc ?_ ?_ _) | (with_reducible refine Below.drew ?_) | (with_reducible refine Below.draws ?_ _) | (with_reducible refine Below.setCell ?_ ?_ _) | (refine Below.then ?_ (by with_reducible assumption)) | go_size)))).mono ?_); rintro e w1 ⟨rfl, hb1⟩; have B1 : Hid (Below w.heap.size w w1) := Lib.hid (Below.trans (by (repeat' (first | (with_reducible exact Below.refl _ _) | (with_reducible assumption) | (with_reducible refine Below.alloc ?_ ?_ _) | (with_reducible refine Below.drew ?_) | (with_reducible refine Below.draws ?_ _) | (with_reducible refine Below.setCell ?_ ?_ _) | (refine Below.then ?_ (by with_reducible assumption)) | go_size))) (hb1.mono (by simp))); have z1 : w.heap.size < w1.heap.size := Nat.lt_of_lt_of_le (by simp) hb1.size; have c1_0 := (hb1.cell (p := ⟨w.heap.size, 0, none⟩) (by simp)).trans (by simp [go_sem]; rfl); have c1_1 := (hb1.cell (p := ⟨w.heap.size, 1, none⟩) (by simp)).trans (by simp [go_sem]; rfl); have c1_2 := (hb1.cell (p := ⟨w.heap.size, 2, none⟩) (by simp)).trans (by simp [go_sem]; rfl); have c1_3 := (hb1.cell (p := ⟨w.heap.size, 3, none⟩) (by simp)).trans (by simp [go_sem]; rfl); have c1_4 := (hb1.cell (p := ⟨w.heap.size, 4, none⟩) (by simp)).trans (by simp [go_sem]; rfl); have c1_5 := (hb1.cell (p := ⟨w.heap.size, 5, none⟩) (by simp)).trans (by simp [go_sem]; rfl); clear hb1)
    go_loopw [17] (fun v wr => ∃ i : Nat, i ≤ bN ∧ v = .int .i64 i ∧ alwF R (bN - i) i = A ∧ Below w1.heap.size w1 wr) (fun v _ => bN - (intOf v).toNat)
    case atStart => exact ⟨0, Nat.zero_le _, rfl, HA0.out, Below.refl _ _⟩
    case round =>
      clear HA0
      obtain ⟨i, hi, rfl, hA, hB⟩ := hrel
      have HB := Lib.hid hB
      have d0 := (hB.cell (p := ⟨w.heap.size, 0, none⟩) z1).trans c1_0
      have d3 := (hB.cell (p := ⟨w.heap.size, 3, none⟩) z1).trans c1_3
      have d4 := (hB.cell (p := ⟨w.heap.size, 4, none⟩) z1).trans c1_4
      have d5 := (hB.cell (p := ⟨w.heap.size, 5, none⟩) z1).trans c1_5
      have zz := Nat.lt_of_lt_of_le z1 hB.size
      by_cases hin : i < bN
      · have hiL : i < R.L.length := by rw [HNL.out]; exact hin
        rw [show bN - i = (bN - (i + 1)) + 1 by omega, alwF] at hA
        have hBW := B1.out.trans (hB.mono B1.out.size)
        obtain ⟨vb, vo, ea, en, ec, rfl, hvb, hvc, hRd⟩ := HR.out.e.at_ i hin
        obtain ⟨u, tb, toff, pa, pn, pc, rfl, htb, hg, _, HK⟩ := HR.out.t.cells i hin
        have hu : taAt R.L i = u := taAt_of hg
        obtain ⟨bu, bb, bo, rfl, hbb, hbc, hbx⟩ := HR.out.b.idx i hin
        have hbu : buA R i = bu := by unfold buA; rw [hbx]; rfl
        have hmay := may_is HRN.out HVT.out hiL
        have hcost := cost_is HVL.out hiL
        rw [hu] at hmay hcost
        obtain ⟨MB, hMB⟩ : ∃ x, mayB R i = x := ⟨_, rfl⟩
        obtain ⟨ct, hct⟩ : ∃ x, costT u = x := ⟨_, rfl⟩
        rw [hMB] at hmay hA
        rw [hct] at hcost
        unfold lowB at hA
        rw [hbu, hu, hct] at hA
        have HAL := Lib.hid (fun (wz : World) (hz : Below w.heap.size w wz) => (by have := allowed_any u.first u.gap u.jit ea en ec wz (evA R i) (hRd.ext hz); rw [hmay] at this; exact this : Calls Tryz.prog 25 #[patV u.first u.gap u.jit, .slice ea en ec] wz fun e w' => e = rBP (MB, 0) ∧ Below wz.heap.size wz w'))
        have HCO := Lib.hid (fun (wz : World) (hz : Below w.heap.size w wz) => Cost_is (c := tC) (HR.out.t.ext hz) hcost)
        simp only [] at HAL HCO
        have hvc' := (hBW.cell (p := ⟨vb, vo + i, none⟩) hvb).trans hvc
        have hbc' := (hBW.cell (p := ⟨bb, bo + i, none⟩) hbb).trans hbc
        obtain ⟨_, _, q2, q3, q4, _, htz, _⟩ := HK.out wr hBW
        have hvz := Nat.lt_of_lt_of_le hvb hBW.size
        have hbz := Nat.lt_of_lt_of_le hbb hBW.size
        have HF : Hid (∀ wz, Below wr.heap.size wr wz → wz.cell? ⟨w.heap.size, 0, none⟩ = some (.slice (some ⟨tb, toff, none⟩) bN tC) ∧ wz.cell? ⟨w.heap.size, 4, none⟩ = some (.slice (some ⟨bb, bo, none⟩) bN bC) ∧ wz.cell? ⟨bb, bo + i, none⟩ = some (.int .i64 bu)) := Lib.hid (fun wz hz => ⟨keep_c hz d0, keep_c hz d4, keep_c hz hbc'⟩)
        have HBW := Lib.hid hBW
        clear hB hBW hRd hg hu hbx hbu hmay hcost hMB hct hvc hbc HK
        cases MB
        · obtain rfl : A = false := by rw [← hA]; exact if_neg (fun q => by cases q.1)
          clear hA
          go_wp2_with (first
          | (go_at_call 25; (with_reducible refine (HAL.out _ HBW.out).mono ?_); rintro e w2 ⟨rfl, hb2x⟩; have hb2 : Below wr.heap.size wr w2 := Below.then (Below.refl _ _) hb2x; have HB2 := Lib.hid hb2; obtain ⟨x0, x4, xb⟩ := HF.out _ hb2; clear hb2 hb2x)
          | (go_at_call 26; (with_reducible refine (HCO.out _ (HBW.out.trans (HB2.out.mono HBW.out.size))).mono ?_); rintro e w3 ⟨rfl, hb3⟩; have HB3 := Lib.hid (Below.then HB2.out hb3); obtain ⟨y0, y4, yb⟩ := HF.out _ (Below.then HB2.out hb3); clear hb3))
          go_ret2
          exact ⟨rfl, Below.trans B1.out ((Below.then HB.out HB3.out).mono B1.out.size)⟩
        · by_cases p1 : 0 < bu
          · have p1' : decide (0 < bu) = true := by simpa using p1
            by_cases p2 : bu < ct
            · have p2' : decide (bu < ct) = true := by simpa using p2
              obtain rfl : A = false := by rw [← hA]; exact if_neg (fun q => by have := q.2; rw [p1', p2'] at this; cases this)
              clear hA
              go_wp2_with (first
          | (go_at_call 25; (with_reducible refine (HAL.out _ HBW.out).mono ?_); rintro e w2 ⟨rfl, hb2x⟩; have hb2 : Below wr.heap.size wr w2 := Below.then (Below.refl _ _) hb2x; have HB2 := Lib.hid hb2; obtain ⟨x0, x4, xb⟩ := HF.out _ hb2; clear hb2 hb2x)
          | (go_at_call 26; (with_reducible refine (HCO.out _ (HBW.out.trans (HB2.out.mono HBW.out.size))).mono ?_); rintro e w3 ⟨rfl, hb3⟩; have HB3 := Lib.hid (Below.then HB2.out hb3); obtain ⟨y0, y4, yb⟩ := HF.out _ (Below.then HB2.out hb3); clear hb3))
              go_ret2
              exact ⟨rfl, Below.trans B1.out ((Below.then HB.out HB3.out).mono B1.out.size)⟩
            · have p2' : decide (bu < ct) = false := by simpa using p2
              rw [if_pos ⟨rfl, by rw [p1', p2']; rfl⟩] at hA
              have HA := Lib.hid hA
              clear hA
              go_wp2_with (first
          | (go_at_call 25; (with_reducible refine (HAL.out _ HBW.out).mono ?_); rintro e w2 ⟨rfl, hb2x⟩; have hb2 : Below wr.heap.size wr w2 := Below.then (Below.refl _ _) hb2x; have HB2 := Lib.hid hb2; obtain ⟨x0, x4, xb⟩ := HF.out _ hb2; clear hb2 hb2x)
          | (go_at_call 26; (with_reducible refine (HCO.out _ (HBW.out.trans (HB2.out.mono HBW.out.size))).mono ?_); rintro e w3 ⟨rfl, hb3⟩; have HB3 := Lib.hid (Below.then HB2.out hb3); obtain ⟨y0, y4, yb⟩ := HF.out _ (Below.then HB2.out hb3); clear hb3))
              go_roundw
              case rel => exact ⟨i + 1, hin, by go_num, HA.out, Below.then HB.out HB3.out⟩
              case measure => simp [intOf]; omega
          · have p1' : decide (0 < bu) = false := by simpa using p1
            rw [if_pos ⟨rfl, by rw [p1']; rfl⟩] at hA
            have HA := Lib.hid hA
            clear hA
            go_wp2_with (first
          | (go_at_call 25; (with_reducible refine (HAL.out _ HBW.out).mono ?_); rintro e w2 ⟨rfl, hb2x⟩; have hb2 : Below wr.heap.size wr w2 := Below.then (Below.refl _ _) hb2x; have HB2 := Lib.hid hb2; obtain ⟨x0, x4, xb⟩ := HF.out _ hb2; clear hb2 hb2x)
          | (go_at_call 26; (with_reducible refine (HCO.out _ (HBW.out.trans (HB2.out.mono HBW.out.size))).mono ?_); rintro e w3 ⟨rfl, hb3⟩; have HB3 := Lib.hid (Below.then HB2.out hb3); obtain ⟨y0, y4, yb⟩ := HF.out _ (Below.then HB2.out hb3); clear hb3))
            go_roundw
            case rel => exact ⟨i + 1, hin, by go_num, HA.out, Below.then HB.out HB3.out⟩
            case measure => simp [intOf]; omega
      · have hie : bN - i = 0 := by omega
        rw [hie, alwF, HSN.out] at hA
        clear hB
        by_cases q : sN = 0
        · have q' : ((sN : Int) == 0) = true := by simpa using q
          obtain rfl : A = true := by rw [← hA]; exact decide_eq_true q
          clear hA
          go_wp2
          go_ret2
          exact ⟨rfl, B1.out.trans (HB.out.mono B1.out.size)⟩
        · have q' : ((sN : Int) == 0) = false := by simpa using q
          obtain rfl : A = false := by rw [← hA]; exact decide_eq_false q
          clear hA
          go_wp2
          go_ret2
          exact ⟨rfl, B1.out.trans (HB.out.mono B1.out.size)⟩
end Go.Proofs.YtlhnhmimhpcoaaaGreat
namespace Go.Proofs.YtlhnhmimhpcoaaaGreat
open Go.RowKit
set_option linter.unusedSimpArgs false
set_option linter.unusedVariables false
theorem Steps.from_ {R : Rn} {P Q : Int → Ms → List Nat → Prop} (h : Steps R P Q) (hr : RnOk R) {k0 : Nat} {at0 : List Nat} (q0 : QR R ((k0 : Int) - 1) (plM R k0) at0) (h0 : Q ((k0 : Int) - 1) (plM R k0) at0) : ∀ d : Nat, ∃ at_, QR R (((k0 + d : Nat) : Int) - 1) (plM R (k0 + d)) at_ ∧ Q (((k0 + d : Nat) : Int) - 1) (plM R (k0 + d)) at_
  | 0 => ⟨at0, q0, h0⟩
  | d + 1 => by
    obtain ⟨at_, hq, hp⟩ := Steps.from_ h hr q0 h0 d
    have hm := plM_ok hr (k0 + d)
    obtain ⟨a1, q1, p1⟩ := h.arr hr hm hq hp
    obtain ⟨a2, q2, p2⟩ := h.tick hr (hm.arrA hr _) (arrA_settled hr hm _) q1 p1
    refine ⟨a2, ?_⟩
    rw [show (((k0 + (d + 1) : Nat) : Int) - 1) = ((k0 + d : Nat) : Int) by omega]
    exact ⟨q2, p2⟩
/-- what is over stays so -/
def StayI (R : Rn) (i j : Nat) (x E : Int) (s : Ms) (at_ : List Nat) : Prop := (∀ a, at_[i]? = some a → j < a) ∧ endF s.o i x = E
theorem StayI.of {R : Rn} {i j : Nat} {x E : Int} {s s' : Ms} {at_ : List Nat} (h : StayI R i j x E s at_) {l : List En} (ho : s'.o = s.o ++ l) (h5 : ∀ e ∈ l, e.w ≠ 5) : StayI R i j x E s' at_ :=
  ⟨h.1, by rw [ho, endF_app _ _ _ _ (fun e q r => h5 e q r.1)]; exact h.2⟩
theorem StayI.fin {R : Rn} {i j : Nat} {x E : Int} {s : Ms} {at_ : List Nat} (h : StayI R i j x E s at_) (hj : (ordE (evA R i))[j]? = some x) {k a : Nat} {T how : Int} (ha : at_[k]? = some a) (hx : (ordE (evA R k))[a]? = some (s.hd k)) : StayI R i j x E (fin1 T k how s) (at_.set k (a + 1)) := by
  refine ⟨fun b hb => ?_, ?_⟩
  · rcases set_atE hb with ⟨rfl, rfl⟩ | ⟨_, hb⟩
    · have := h.1 a ha; omega
    · exact h.1 b hb
  · have ho : (fin1 T k how s).o = s.o ++ [⟨T, k, 5, s.hd k, how⟩] := rfl
    rw [ho, endF_one]
    unfold endG
    rw [if_neg]
    · exact h.2
    · rintro ⟨_, h1, h2⟩
      simp only [] at h1 h2
      have : k = i := by omega
      subst this
      rw [h2] at hx
      have := ord_injE hx hj
      have := h.1 a ha
      omega
theorem stay_steps {R : Rn} (hr : RnOk R) {i j : Nat} {x E : Int} (hj : (ordE (evA R i))[j]? = some x) : Steps R (fun _ s at_ => StayI R i j x E s at_) (fun _ s at_ => StayI R i j x E s at_) := by
  refine ⟨?_, ?_, ?_, ?_, ?_, ?_, ?_, ?_⟩
  · intro t s at_ hm hq hp
    obtain ⟨l, h1, h2⟩ := relA_newE t R.ev 0 s
    exact hp.of h1 (fun e q => by rw [(h2 e q).2]; decide)
  · intro t s at_ k hm hq hi hn hp
    exact hp.of (l := [⟨t, k, 2, 0, 0⟩]) rfl (fun e q => by simp at q; subst q; simp)
  · intro t s at_ k a hm hq hi hn ha hs hin hp
    exact hp.fin hj ha (hq.event ha hn)
  · intro t s at_ hm hq hs hg hp
    exact hp.of (l := [⟨t, -1, 3, 0, 0⟩]) rfl (fun e q => by simp at q; subst q; simp)
  · intro t s at_ hm hq hs hg hn hp
    exact hp
  · intro t s at_ k a hm hq hs hg hch ha hfin hp
    have h1 : StayI R i j x E (wk1 R t k s) at_ := hp.of (l := [⟨t, k, 4, (s.ja k).p, s.hd k⟩]) rfl (fun e q => by simp at q; subst q; simp)
    exact h1.fin (s := wk1 R t k s) hj ha (hq.event ha hch.rd)
  · intro t s at_ k a hm hq hs hg hch ha hpl hbu hp
    exact hp.of (s' := wk1 R t k s) (l := [⟨t, k, 4, (s.ja k).p, s.hd k⟩]) rfl (fun e q => by simp at q; subst q; simp)
  · intro t s at_ k a hm hq hs hg hch ha hpl hbu hp
    have h1 : StayI R i j x E (wk1 R t k s) at_ := hp.of (l := [⟨t, k, 4, (s.ja k).p, s.hd k⟩]) rfl (fun e q => by simp at q; subst q; simp)
    exact h1.of (s' := wk2 R t k s) (l := [⟨t + 1, k, 6, s.hd k, 0⟩]) rfl (fun e q => by simp at q; subst q; simp)
theorem end_by {R : Rn} (hr : RnOk R) {i x u v : Nat} (hi : i < R.L.length) (hx : x < (evA R i).length) (hq : (plM R u).qa i = []) (hrel : relT (evA R i) x ≤ (u : Int) - 1) (huv : u ≤ v) : 0 ≤ endF (plM R v).o i x ∧ endF (plM R v).o i x ≤ u := by
  obtain ⟨at_, h1, h2⟩ := plM_ei hr u
  have h3 := idle_ends h1 h2 hi hq hx hrel
  have hil : i < at_.length := by rw [h1.len]; exact hi
  have ha := List.getElem?_eq_getElem hil
  obtain ⟨j, hj⟩ := List.getElem?_of_mem (ordE_mem (l := evA R i).2 ⟨show (0 : Int) ≤ (x : Int) by omega, by omega⟩)
  have hja : j < at_[i] := by
    rcases Nat.lt_or_ge j at_[i] with q | q
    · exact q
    · have := h2.new i _ j _ ha hj q
      omega
  obtain ⟨_, _, h4⟩ := (stay_steps hr (E := endF (plM R u).o i x) hj).from_ hr h1 ⟨fun a q => by rw [ha] at q; simp at q; omega, rfl⟩ (v - u)
  rw [show u + (v - u) = v by omega] at h4
  rw [h4.2]; exact h3
theorem sparse_jit {g j : Int} : ∀ (xs : List P2) (l : Int), sparse g j l xs = true → ∀ e ∈ xs, e.2 ≤ j
  | [], _, _, e, he => by simp at he
  | x :: xs, l, h, e, he => by
    unfold sparse at h
    split at h
    · cases h
    · rename_i hc
      rcases List.mem_cons.1 he with rfl | he
      · omega
      · exact sparse_jit xs _ h e he
theorem allow_sparse {g j : Int} : ∀ (xs : List P2) (l : Int), allowGo g j l xs = sparse g j l xs
  | [], _ => rfl
  | x :: xs, l => by unfold allowGo sparse; rw [allow_sparse xs]
/-- the response: a job is over within jitter and window of its arrival -/
theorem resp_by {R : Rn} (hr : RnOk R) (hf : Fair R) (hv : ValidT R.L) (hs : 0 ≤ R.sl ∧ R.sl < R.fr) {i : Nat} (hi : i < R.L.length) {W : Nat} (hW : 1 ≤ W) (hd : demN R.L i W ≤ leastN R.fr R.sl W) (hj : (taAt R.L i).jit + W ≤ (taAt R.L i).gap)
    {x v : Nat} {e : P2} (he : (evA R i)[x]? = some e) (hle : e.1 + (taAt R.L i).jit + W ≤ v) : 0 ≤ endF (plM R v).o i x ∧ endF (plM R v).o i x ≤ e.1 + (taAt R.L i).jit + W := by
  have hx := (List.getElem?_eq_some_iff.1 he).1
  have hev : i < R.ev.length := by rw [hr.ev]; exact hi
  have hel := (hr.el (evA R i) (by unfold evA; rw [List.getElem?_eq_getElem hev]; exact List.getElem_mem hev)).2 e (List.mem_of_getElem? he)
  have hjit := sparse_jit _ _ (hf.ev i hi) e (List.mem_of_getElem? he)
  have hrl := relT_of he
  obtain ⟨r, hr2⟩ := Int.eq_ofNat_of_zero_le (show 0 ≤ e.1 + e.2 by omega)
  obtain ⟨u, h1, h2, h3⟩ := idle_after hr hf hv hs hi hW hd hj r
  have := end_by hr hi hx (h3 i hi (Nat.le_refl _)) (by rw [hrl]; omega) (show u ≤ v by omega)
  exact ⟨this.1, by omega⟩
theorem fair_of {R : Rn} (h : runB R = true) (ha : alwR R = (true, 0)) : Fair R := by
  obtain ⟨hr, _⟩ := run_ok h
  unfold alwR at ha
  rw [if_pos h] at ha
  have h1 : alwF R R.L.length 0 = true := congrArg Prod.fst ha
  have key : ∀ f i, alwF R f i = true → R.sg.length = 0 ∧ ∀ k, i ≤ k → k < i + f → mayB R k = true ∧ lowB R k = false := by
    intro f
    induction f with
    | zero => intro i h; exact ⟨by simpa [alwF] using h, fun k h1 h2 => by omega⟩
    | succ f ih =>
      intro i h
      rw [alwF] at h
      split at h
      · rename_i hc
        obtain ⟨g1, g2⟩ := ih (i + 1) h
        refine ⟨g1, fun k h1 h2 => ?_⟩
        by_cases e : k = i
        · subst e; exact hc
        · exact g2 k (by omega) (by omega)
      · cases h
  obtain ⟨g1, g2⟩ := key _ _ h1
  refine ⟨List.eq_nil_of_length_eq_zero g1, fun i hi => ?_, fun i hi => ?_⟩
  · have := (g2 i (Nat.zero_le _) (by omega)).2
    unfold lowB buA at this
    have hb : 0 ≤ (R.bu[i]?).getD 0 := by
      cases q : R.bu[i]? with
      | none => simp
      | some b => exact (hr.b0 b (List.mem_of_getElem? q)).1
    by_cases q : 0 < (R.bu[i]?).getD 0
    · right
      rw [decide_eq_true q, Bool.true_and, decide_eq_false_iff_not] at this
      omega
    · left; omega
  · have := (g2 i (Nat.zero_le _) (by omega)).1
    unfold mayB at this
    rw [← allow_sparse]; exact this
/-- the law of the deadlines: nothing is late -/
theorem late_none {R : Rn} {X : Nat → List Int} {t : Int} (h : ∀ i k, i < R.L.length → k < (evA R i).length → dueA R i k < t + 1 → ¬ (xAt X i k < 0 ∨ dueA R i k < xAt X i k)) : lateAll R X R.L.length 0 (t + 1, -1, -1) = (t + 1, -1, -1) := by
  have hrow : ∀ f i k, i < R.L.length → k + f ≤ (evA R i).length → lateRow R X i f k (t + 1, -1, -1) = (t + 1, -1, -1) := by
    intro f
    induction f with
    | zero => intro i k _ _; rfl
    | succ f ih =>
      intro i k hi hk
      rw [lateRow]
      have e : lateS R X i k (t + 1, -1, -1) = (t + 1, -1, -1) := by
        unfold lateS
        rw [if_neg]
        rintro ⟨h1, h2⟩
        exact h i k hi (by omega) h1 h2
      rw [e]
      exact ih i (k + 1) hi (by omega)
  have hall : ∀ f i, i + f ≤ R.L.length → lateAll R X f i (t + 1, -1, -1) = (t + 1, -1, -1) := by
    intro f
    induction f with
    | zero => intro i _; rfl
    | succ f ih =>
      intro i hi
      rw [lateAll, hrow _ i 0 (by omega) (by omega)]
      exact ih (i + 1) (by omega)
  exact hall _ _ (by omega)
theorem meets_all {R : Rn} {t : Int} (h : runB R = true) (ht : 0 ≤ t ∧ t ≤ 2000) (ha : alwR R = (true, 0)) (hacc : accB R.L R.fr R.sl = true) : meetsR R t = (true, 0) := by
  obtain ⟨hr, hvl, hsup, _⟩ := run_ok h
  have hv := valid_of hvl
  have hf := fair_of h ha
  have hs := (supB_iff.1 hsup)
  have hs2 : 0 ≤ R.sl ∧ R.sl < R.fr := by omega
  have hin : (runB R && inB t 0 2000) = true := by rw [h, Bool.true_and, inB_iff]; exact ht
  have key : lateF R t = (t + 1, -1, -1) := by
    unfold lateF
    refine late_none (fun i k hi hk hdue => ?_)
    have hm := accB_iff.1 hacc i hi
    unfold meetB at hm
    rw [Bool.and_eq_true, decide_eq_true_eq, decide_eq_true_eq] at hm
    obtain ⟨W, hWe, hW1, hW2, hW3, _⟩ := (isWin R.L R.fr R.sl i).some_ (by omega)
    have he : (evA R i)[k]? = some ((evA R i)[k]) := List.getElem?_eq_getElem hk
    have hdl := hv.dl _ (ta_mem hi)
    have hdu : dueA R i k = ((evA R i)[k]).1 + (taAt R.L i).dl := by unfold dueA; rw [he]; rfl
    have hx : xAt (endX R t) i k = endF (plM R t.toNat).o i k := by
      unfold xAt endX
      rw [endsRow_get hk]; rfl
    have := resp_by hr hf hv hs2 hi hW1 hW3 (by omega) he (v := t.toNat) (by omega)
    rw [hx]
    omega
  unfold meetsR
  rw [if_pos hin, key]
  rfl
end Go.Proofs.YtlhnhmimhpcoaaaGreat
namespace Go.Proofs.YtlhnhmimhpcoaaaGreat
open Go.RowKit
set_option linter.unusedSimpArgs false
set_option linter.unusedVariables false
set_option maxRecDepth 100000 in
set_option maxHeartbeats 4000000 in
theorem rAllowed_any (H : RunH) (R : Rn) (w : World) (hR : ReadRun w H R) : Calls Tryz.prog 12 #[runV H R.fr R.sl] w fun e w' => e = rBP (alwR R) ∧ Below w.heap.size w w' := by
  have HV := Lib.hid (fun w1 (hb : Below w.heap.size w w1) => rValid_run H R w1 (hR.ext hb))
  unfold alwR
  obtain ⟨B, hB⟩ : ∃ B, runB R = B := ⟨_, rfl⟩
  rw [hB] at HV ⊢
  cases B
  · obtain ⟨fr, hfr⟩ : ∃ x, R.fr = x := ⟨_, rfl⟩
    obtain ⟨sl_, hsl⟩ : ∃ x, R.sl = x := ⟨_, rfl⟩
    rw [hfr, hsl] at HV ⊢
    obtain ⟨tA, tN, tC, eA, eN, eC, bA, bN, bC, sA, sN, sC⟩ := H
    unfold runV at HV ⊢
    simp only [] at HV ⊢
    clear hR hB hfr hsl
    go_enter Tryz.func12, Tryz.ntmps12
    go_wp2_with (go_at_call 27; (with_reducible refine (HV.out _ (by (repeat' (first | (with_reducible exact Below.refl _ _) | (with_reducible assumption) | (with_reducible refine Below.alloc ?_ ?_ _) | (with_reducible refine Below.drew ?_) | (with_reducible refine Below.draws ?_ _) | (with_reducible refine Below.setCell ?_ ?_ _) | (refine Below.then ?_ (by with_reducible assumption)) | go_size)))).mono ?_); rintro e w1 ⟨rfl, hb1⟩; have B1 : Hid (Below w.heap.size w w1) := Lib.hid (Below.trans (by (repeat' (first | (with_reducible exact Below.refl _ _) | (with_reducible assumption) | (with_reducible refine Below.alloc ?_ ?_ _) | (with_reducible refine Below.drew ?_) | (with_reducible refine Below.draws ?_ _) | (with_reducible refine Below.setCell ?_ ?_ _) | (refine Below.then ?_ (by with_reducible assumption)) | go_size))) (hb1.mono (by simp))); have z1 : w.heap.size < w1.heap.size := Nat.lt_of_lt_of_le (by simp) hb1.size; have c1_0 := (hb1.cell (p := ⟨w.heap.size, 0, none⟩) (by simp)).trans (by simp [go_sem]; rfl); have c1_1 := (hb1.cell (p := ⟨w.heap.size, 1, none⟩) (by simp)).trans (by simp [go_sem]; rfl); have c1_2 := (hb1.cell (p := ⟨w.heap.size, 2, none⟩) (by simp)).trans (by simp [go_sem]; rfl); have c1_3 := (hb1.cell (p := ⟨w.heap.size, 3, none⟩) (by simp)).trans (by simp [go_sem]; rfl); have c1_4 := (hb1.cell (p := ⟨w.heap.size, 4, none⟩) (by simp)).trans (by simp [go_sem]; rfl); have c1_5 := (hb1.cell (p := ⟨w.heap.size, 5, none⟩) (by simp)).trans (by simp [go_sem]; rfl); clear hb1)
    go_ret2
    exact ⟨rfl, B1.out⟩
  · rw [if_pos rfl]
    obtain ⟨hr, hvl, _⟩ := run_ok hB
    have hv := valid_of hvl
    obtain ⟨A, hA⟩ : ∃ A, alwF R R.L.length 0 = A := ⟨_, rfl⟩
    rw [hA]
    have HR := Lib.hid hR.rd; have HRN := Lib.hid hr; have HVL := Lib.hid hvl; have HVT := Lib.hid hv
    have hen := hR.rd.e.len
    have htn := hR.rd.t.length
    have hbn := hR.rd.b.length
    have hsn := hR.rd.s.length
    have hL5 := hr.r.len
    have hev := hr.ev
    have hbu := hr.bu
    obtain ⟨nL, hnL⟩ : ∃ x, R.L.length = x := ⟨_, rfl⟩
    have HNL := Lib.hid hnL
    have heN : H.eN = nL := by omega
    have htN : H.tN = nL := by omega
    have hbN : H.bN = nL := by omega
    have hn5 : nL ≤ 5 := by omega
    rw [hnL] at hA
    have HA0 : Hid (alwF R (nL - 0) 0 = A) := Lib.hid hA
    have hs40 := hr.sl
    have HSN := Lib.hid hsn
    obtain ⟨fr, hfr⟩ : ∃ x, R.fr = x := ⟨_, rfl⟩
    obtain ⟨sl_, hsl⟩ : ∃ x, R.sl = x := ⟨_, rfl⟩
    rw [hfr, hsl] at HV ⊢
    obtain ⟨tA, tN, tC, eA, eN, eC, bA, bN, bC, sA, sN, sC⟩ := H
    unfold runV at HV ⊢
    simp only [] at HV HR heN htN hbN HSN hsn ⊢
    subst heN; subst htN; subst hbN
    have hsN : sN ≤ 40 := by omega
    clear hR hB hfr hsl hnL hr hvl hv hA hen htn hbn hsn hL5 hev hbu hs40
    go_enter Tryz.func12, Tryz.ntmps12
    go_wp2_with (go_at_call 27; (with_reducible refine (HV.out _ (by (repeat' (first | (with_reducible exact Below.refl _ _) | (with_reducible assumption) | (with_reducible refine Below.alloc ?_ ?_ _) | (with_reducible refine Below.drew ?_) | (with_reducible refine Below.draws ?_ _) | (with_reducible refine Below.setCell ?_ ?_ _) | (refine Below.then ?_ (by with_reducible assumption)) | go_size)))).mono ?_); rintro e w1 ⟨rfl, hb1⟩; have B1 : Hid (Below w.heap.size w w1) := Lib.hid (Below.trans (by (repeat' (first | (with_reducible exact Below.refl _ _) | (with_reducible assumption) | (with_reducible refine Below.alloc ?_ ?_ _) | (with_reducible refine Below.drew ?_) | (with_reducible refine Below.draws ?_ _) | (with_reducible refine Below.setCell ?_ ?_ _) | (refine Below.then ?_ (by with_reducible assumption)) | go_size))) (hb1.mono (by simp))); have z1 : w.heap.size < w1.heap.size := Nat.lt_of_lt_of_le (by simp) hb1.size; have c1_0 := (hb1.cell (p := ⟨w.heap.size, 0, none⟩) (by simp)).trans (by simp [go_sem]; rfl); have c1_1 := (hb1.cell (p := ⟨w.heap.size, 1, none⟩) (by simp)).trans (by simp [go_sem]; rfl); have c1_2 := (hb1.cell (p := ⟨w.heap.size, 2, none⟩) (by simp)).trans (by simp [go_sem]; rfl); have c1_3 := (hb1.cell (p := ⟨w.heap.size, 3, none⟩) (by simp)).trans (by simp [go_sem]; rfl); have c1_4 := (hb1.cell (p := ⟨w.heap.size, 4, none⟩) (by simp)).trans (by simp [go_sem]; rfl); have c1_5 := (hb1.cell (p := ⟨w.heap.size, 5, none⟩) (by simp)).trans (by simp [go_sem]; rfl); clear hb1)
    go_loopw [4] (fun v wr => ∃ i : Nat, i ≤ bN ∧ v = .int .i64 i ∧ alwF R (bN - i) i = A ∧ Below w1.heap.size w1 wr) (fun v _ => bN - (intOf v).toNat)
    case atStart => exact ⟨0, Nat.zero_le _, rfl, HA0.out, Below.refl _ _⟩
    case round =>
      clear HA0
      obtain ⟨i, hi, rfl, hA, hB⟩ := hrel
      have HB := Lib.hid hB
      have d0 := (hB.cell (p := ⟨w.heap.size, 0, none⟩) z1).trans c1_0
      have d3 := (hB.cell (p := ⟨w.heap.size, 3, none⟩) z1).trans c1_3
      have d4 := (hB.cell (p := ⟨w.heap.size, 4, none⟩) z1).trans c1_4
      have d5 := (hB.cell (p := ⟨w.heap.size, 5, none⟩) z1).trans c1_5
      have zz := Nat.lt_of_lt_of_le z1 hB.size
      by_cases hin : i < bN
      · have hiL : i < R.L.length := by rw [HNL.out]; exact hin
        rw [show bN - i = (bN - (i + 1)) + 1 by omega, alwF] at hA
        have hBW := B1.out.trans (hB.mono B1.out.size)
        obtain ⟨vb, vo, ea, en, ec, rfl, hvb, hvc, hRd⟩ := HR.out.e.at_ i hin
        obtain ⟨u, tb, toff, pa, pn, pc, rfl, htb, hg, _, HK⟩ := HR.out.t.cells i hin
        have hu : taAt R.L i = u := taAt_of hg
        obtain ⟨bu, bb, bo, rfl, hbb, hbc, hbx⟩ := HR.out.b.idx i hin
        have hbu : buA R i = bu := by unfold buA; rw [hbx]; rfl
        have hmay := may_is HRN.out HVT.out hiL
        have hcost := cost_is HVL.out hiL
        rw [hu] at hmay hcost
        obtain ⟨MB, hMB⟩ : ∃ x, mayB R i = x := ⟨_, rfl⟩
        obtain ⟨ct, hct⟩ : ∃ x, costT u = x := ⟨_, rfl⟩
        rw [hMB] at hmay hA
        rw [hct] at hcost
        unfold lowB at hA
        rw [hbu, hu, hct] at hA
        have HAL := Lib.hid (fun (wz : World) (hz : Below w.heap.size w wz) => (by have := rallowed_any u.first u.gap u.jit ea en ec wz (evA R i) (hRd.ext hz); rw [hmay] at this; exact this : Calls Tryz.prog 28 #[patV u.first u.gap u.jit, .slice ea en ec] wz fun e w' => e = rBP (MB, 0) ∧ Below wz.heap.size wz w'))
        have HCO := Lib.hid (fun (wz : World) (hz : Below w.heap.size w wz) => rCost_is (c := tC) (HR.out.t.ext hz) hcost)
        simp only [] at HAL HCO
        have hvc' := (hBW.cell (p := ⟨vb, vo + i, none⟩) hvb).trans hvc
        have hbc' := (hBW.cell (p := ⟨bb, bo + i, none⟩) hbb).trans hbc
        obtain ⟨_, _, q2, q3, q4, _, htz, _⟩ := HK.out wr hBW
        have hvz := Nat.lt_of_lt_of_le hvb hBW.size
        have hbz := Nat.lt_of_lt_of_le hbb hBW.size
        have HF : Hid (∀ wz, Below wr.heap.size wr wz → wz.cell? ⟨w.heap.size, 0, none⟩ = some (.slice (some ⟨tb, toff, none⟩) bN tC) ∧ wz.cell? ⟨w.heap.size, 4, none⟩ = some (.slice (some ⟨bb, bo, none⟩) bN bC) ∧ wz.cell? ⟨bb, bo + i, none⟩ = some (.int .i64 bu)) := Lib.hid (fun wz hz => ⟨keep_c hz d0, keep_c hz d4, keep_c hz hbc'⟩)
        have HBW := Lib.hid hBW
        have HAL2 := Lib.hid (fun (wz : World) (hz : Below wr.heap.size wr wz) => HAL.out wz (hBW.trans (hz.mono hBW.size)))
        clear hB hBW hRd hg hu hbx hbu hmay hcost hMB hct hvc hbc HK
        go_upto_region 6 with fail
        go_region_held3 (fun w' => w'.cell? ⟨w.heap.size, 0, none⟩ = some (.slice (some ⟨tb, toff, none⟩) bN tC) ∧ w'.cell? ⟨w.heap.size, 3, none⟩ = some (.slice (some ⟨vb, vo, none⟩) bN eC) ∧ w'.cell? ⟨vb, vo + i, none⟩ = some (.slice ea en ec) ∧ w'.cell? ⟨tb, toff + i * 6 + 2, none⟩ = some (.int .i64 u.first) ∧ w'.cell? ⟨tb, toff + i * 6 + 3, none⟩ = some (.int .i64 u.gap) ∧ w'.cell? ⟨tb, toff + i * 6 + 4, none⟩ = some (.int .i64 u.jit)) (first | go_keep)
          (first | (go_at_call 28; (with_reducible refine (HAL.out _ HBW.out.drew).mono ?_); rintro e w2 ⟨rfl, hb2x⟩; have hb2 : Below wr.heap.size wr w2 := Below.then (Below.refl wr.heap.size wr).drew hb2x; have HB2 := Lib.hid hb2; obtain ⟨x0, x4, xb⟩ := HF.out _ hb2; have x3 := keep_c hb2 d3; have xv := keep_c hb2 hvc'; have xq2 := keep_c hb2 q2; have xq3 := keep_c hb2 q3; have xq4 := keep_c hb2 q4; clear hb2 hb2x))
        cases MB
        · obtain rfl : A = false := by rw [← hA]; exact if_neg (fun q => by cases q.1)
          clear hA
          go_wp2_with (first | (go_at_call 29; (with_reducible refine (HCO.out _ (HBW.out.trans (HB2.out.mono HBW.out.size))).mono ?_); rintro e w3 ⟨rfl, hb3⟩; have HB3 := Lib.hid (Below.then HB2.out hb3); obtain ⟨y0, y4, yb⟩ := HF.out _ (Below.then HB2.out hb3); clear hb3))
          go_ret2
          exact ⟨rfl, Below.trans B1.out ((Below.then HB.out HB3.out).mono B1.out.size)⟩
        · by_cases p1 : 0 < bu
          · have p1' : decide (0 < bu) = true := by simpa using p1
            by_cases p2 : bu < ct
            · have p2' : decide (bu < ct) = true := by simpa using p2
              obtain rfl : A = false := by rw [← hA]; exact if_neg (fun q => by have := q.2; rw [p1', p2'] at this; cases this)
              clear hA
              go_wp2_with (first | (go_at_call 29; (with_reducible refine (HCO.out _ (HBW.out.trans (HB2.out.mono HBW.out.size))).mono ?_); rintro e w3 ⟨rfl, hb3⟩; have HB3 := Lib.hid (Below.then HB2.out hb3); obtain ⟨y0, y4, yb⟩ := HF.out _ (Below.then HB2.out hb3); clear hb3))
              go_ret2
              exact ⟨rfl, Below.trans B1.out ((Below.then HB.out HB3.out).mono B1.out.size)⟩
            · have p2' : decide (bu < ct) = false := by simpa using p2
              rw [if_pos ⟨rfl, by rw [p1', p2']; rfl⟩] at hA
              have HA := Lib.hid hA
              clear hA
              go_wp2_with (first | (go_at_call 29; (with_reducible refine (HCO.out _ (HBW.out.trans (HB2.out.mono HBW.out.size))).mono ?_); rintro e w3 ⟨rfl, hb3⟩; have HB3 := Lib.hid (Below.then HB2.out hb3); obtain ⟨y0, y4, yb⟩ := HF.out _ (Below.then HB2.out hb3); clear hb3))
              go_roundw
              case rel => exact ⟨i + 1, hin, by go_num, HA.out, Below.then HB.out HB3.out⟩
              case measure => simp [intOf]; omega
          · have p1' : decide (0 < bu) = false := by simpa using p1
            rw [if_pos ⟨rfl, by rw [p1']; rfl⟩] at hA
            have HA := Lib.hid hA
            clear hA
            go_wp2_with (first | (go_at_call 29; (with_reducible refine (HCO.out _ (HBW.out.trans (HB2.out.mono HBW.out.size))).mono ?_); rintro e w3 ⟨rfl, hb3⟩; have HB3 := Lib.hid (Below.then HB2.out hb3); obtain ⟨y0, y4, yb⟩ := HF.out _ (Below.then HB2.out hb3); clear hb3))
            go_roundw
            case rel => exact ⟨i + 1, hin, by go_num, HA.out, Below.then HB.out HB3.out⟩
            case measure => simp [intOf]; omega
      · have hie : bN - i = 0 := by omega
        rw [hie, alwF, HSN.out] at hA
        clear hB
        by_cases q : sN = 0
        · have q' : ((sN : Int) == 0) = true := by simpa using q
          obtain rfl : A = true := by rw [← hA]; exact decide_eq_true q
          clear hA
          go_wp2
          go_ret2
          exact ⟨rfl, B1.out.trans (HB.out.mono B1.out.size)⟩
        · have q' : ((sN : Int) == 0) = false := by simpa using q
          obtain rfl : A = false := by rw [← hA]; exact decide_eq_false q
          clear hA
          go_wp2
          go_ret2
          exact ⟨rfl, B1.out.trans (HB.out.mono B1.out.size)⟩
end Go.Proofs.YtlhnhmimhpcoaaaGreat
namespace Go.Proofs.YtlhnhmimhpcoaaaGreat
open Go.RowKit
set_option linter.unusedSimpArgs false
set_option linter.unusedVariables false
/-- each task of K stands for one of L and is no harder -/
structure Sim (K L : List Ta) (σ : Nat → Nat) : Prop where
  len : ∀ i, i < K.length → σ i < L.length
  mono : ∀ i j, i < j → σ i < σ j
  pri : ∀ i : Nat, i < K.length → (taAt K i).pri = (taAt L (σ i)).pri
  gap : ∀ i : Nat, i < K.length → (taAt L (σ i)).gap ≤ (taAt K i).gap
  jit : ∀ i : Nat, i < K.length → (taAt K i).jit ≤ (taAt L (σ i)).jit
  dl : ∀ i : Nat, i < K.length → (taAt L (σ i)).dl ≤ (taAt K i).dl
  pl : ∀ i : Nat, i < K.length → (taAt K i).pcs.length = (taAt L (σ i)).pcs.length
  pc : ∀ i : Nat, i < K.length → ∀ (k : Nat) (p q : P2), (taAt K i).pcs[k]? = some p → (taAt L (σ i)).pcs[k]? = some q → p.2 = q.2 ∧ p.1 ≤ q.1
theorem costP_le : ∀ (ps qs : List P2), ps.length = qs.length → (∀ (k : Nat) (p q : P2), ps[k]? = some p → qs[k]? = some q → p.1 ≤ q.1) → costP ps ≤ costP qs
  | [], [], _, _ => Int.le_refl _
  | p :: ps, q :: qs, hl, h => by
    have h1 := costP_le ps qs (by simpa using hl) (fun k a b ha hb => h (k + 1) a b (by simpa using ha) (by simpa using hb))
    have h2 := h 0 p q rfl rfl
    rw [costP, costP]; omega
theorem mostN_le {g g' j j' v : Int} (hg : 1 ≤ g) (hgg : g ≤ g') (hj : 0 ≤ j') (hjj : j' ≤ j) (hv : 0 ≤ v) : mostN g' j' v ≤ mostN g j v := by
  unfold mostN
  split
  · omega
  · have h1 : (v - 1 + j') / g' ≤ (v - 1 + j') / g := by
      rw [Int.le_ediv_iff_mul_le (by omega)]
      have a := Int.ediv_mul_le (v - 1 + j') (show g' ≠ 0 by omega)
      have b := Int.ediv_nonneg (a := v - 1 + j') (b := g') (by omega) (by omega)
      have c := Int.mul_le_mul_of_nonneg_left hgg b
      omega
    have h2 : (v - 1 + j') / g ≤ (v - 1 + j) / g := Int.ediv_le_ediv (by omega) (by omega)
    omega
section
variable {K L : List Ta} {σ : Nat → Nat}
theorem Sim.ahead (h : Sim K L σ) {i j : Nat} (hi : i < K.length) (hj : j < K.length) : Ahead K i j ↔ Ahead L (σ i) (σ j) := by
  have e1 : priI K i = priI L (σ i) := h.pri i hi
  have e2 : priI K j = priI L (σ j) := h.pri j hj
  have e3 : i < j ↔ σ i < σ j := by
    constructor
    · exact h.mono i j
    · intro hlt
      rcases Nat.lt_trichotomy i j with q | q | q
      · exact q
      · subst q; omega
      · have := h.mono j i q; omega
  unfold Ahead
  rw [e1, e2]
  omega
theorem Sim.cost (h : Sim K L σ) {i : Nat} (hi : i < K.length) : costT (taAt K i) ≤ costT (taAt L (σ i)) :=
  costP_le _ _ (h.pl i hi) (fun k p q hp hq => (h.pc i hi k p q hp hq).2)
theorem Sim.demTL (h : Sim K L σ) (hK : ValidT K) (hL : ValidT L) {i : Nat} (hi : i < K.length) {v : Int} (hv : 0 ≤ v) : demT (taAt K i) v ≤ demT (taAt L (σ i)) v := by
  have hk := taAt_mem' (L := K) (k := i) (by omega) (by omega)
  have hl := taAt_mem' (L := L) (k := (σ i : Int)) (by omega) (by have := h.len i hi; omega)
  have h1 := mostN_le (hL.gap _ hl).1 (h.gap i hi) (hK.jit _ hk).1 (h.jit i hi) hv
  have h2 := h.cost hi
  have h3 := (mostN_mono (hL.gap _ hl).1 (hL.jit _ hl).1 hv (Int.le_refl v)).1
  have h4 := (costT_bd hK.r hk).1
  exact Int.mul_le_mul h1 h2 (by omega) h3
theorem Sim.usesL (h : Sim K L σ) {i : Nat} (hi : i < K.length) {l : Int} (hu : uses K i l) : uses L (σ i) l := by
  obtain ⟨p, hp, e⟩ := hu
  obtain ⟨k, hk⟩ := List.mem_iff_getElem?.1 hp
  have hkl := (List.getElem?_eq_some_iff.1 hk).1
  have hq : (taAt L (σ i)).pcs[k]? = some ((taAt L (σ i)).pcs[k]'(by have := h.pl i hi; omega)) := List.getElem?_eq_getElem _
  have := (h.pc i hi k _ _ hk hq).1
  exact ⟨_, List.mem_of_getElem? hq, by rw [← this]; exact e⟩
/-- the ceiling of L is no further behind -/
theorem Sim.ceil (h : Sim K L σ) {i j : Nat} (hi : i < K.length) (hj : j < K.length) {l : Int} (hu : uses K i l) (hn : ¬ Ahead K j (ceilG K l)) : ¬ Ahead L (σ j) (ceilG L l) := by
  have hcK := isCeil K l
  have hcL := isCeil L l
  have hk0 : 0 ≤ ceilG K l := by
    rcases Int.lt_or_le (ceilG K l) 0 with q | q
    · exact absurd hu (hcK.none_ q i hi)
    · exact q
  have hl0 : 0 ≤ ceilG L l := by
    rcases Int.lt_or_le (ceilG L l) 0 with q | q
    · exact absurd (h.usesL hi hu) (hcL.none_ q _ (h.len i hi))
    · exact q
  obtain ⟨c, hc⟩ := Int.eq_ofNat_of_zero_le hk0
  have hck : c < K.length := by have := hcK.hi; omega
  have huc := h.usesL hck (by have := (hcK.some_ hk0).1; rw [hc] at this; exact this)
  rw [hc] at hn
  intro ha
  apply hn
  rw [h.ahead hj hck]
  by_cases e : ((σ c : Nat) : Int) = ceilG L l
  · rw [e]; exact ha
  · exact ahead_trans _ _ _ ha ((hcL.some_ hl0).2 (σ c) (h.len c hck) huc e)
end
theorem blkP_in {L : List Ta} {t : Int} {j : Nat} : ∀ (ps : List P2) (k i : Nat) (p : P2), (taAt L j).pcs.drop k = ps → ps[i]? = some p → 0 ≤ p.2 → ¬ Ahead L t (ceilG L p.2) → ((j : Int), ((k + i : Nat) : Int)) ∈ blkP L t j k ps
  | [], _, _, _, _, h, _, _ => by simp at h
  | q :: ps, k, i, p, hd, hi, h0, hn => by
    have hd' : (taAt L j).pcs.drop (k + 1) = ps := by rw [← List.drop_drop, hd]; rfl
    rw [blkP]
    cases i with
    | zero =>
      simp at hi
      subst hi
      rw [if_pos ⟨h0, aheadB_no.2 hn⟩]
      simp
    | succ i =>
      have := blkP_in ps (k + 1) i p hd' (by simpa using hi) h0 hn
      rw [show k + (i + 1) = k + 1 + i by omega]
      split
      · exact List.mem_cons_of_mem _ this
      · exact this
theorem blkFrom_in {L : List Ta} {t : Int} {b : P2} : ∀ (f j m : Nat), j ≤ m → m < j + f → aheadB L t m = true → b ∈ blkP L t m 0 (taAt L m).pcs → b ∈ blkFrom L t f j
  | 0, j, m, h1, h2, _, _ => by omega
  | f + 1, j, m, h1, h2, h3, h4 => by
    rw [blkFrom, List.mem_append]
    by_cases e : m = j
    · subst e; left; rw [if_pos h3]; exact h4
    · right; exact blkFrom_in f (j + 1) m (by omega) (by omega) h3 h4
theorem blockL_in {L : List Ta} {t : Int} {j k : Nat} {p : P2} (hj : j < L.length) (hp : (taAt L j).pcs[k]? = some p) (h0 : 0 ≤ p.2) (ha : Ahead L t j) (hn : ¬ Ahead L t (ceilG L p.2)) : ((j : Int), (k : Int)) ∈ blockL L t := by
  have := blkP_in (L := L) (t := t) (j := j) _ 0 k p rfl hp h0 hn
  rw [Nat.zero_add] at this
  exact blkFrom_in L.length 0 j (Nat.zero_le _) (by omega) (aheadB_iff.2 ha) this
theorem maxF_ge {L : List Ta} : ∀ (bs : List P2) (m : Int), m ≤ bs.foldl (fun m b => max m (ticksAt L b)) m ∧ ∀ b ∈ bs, ticksAt L b ≤ bs.foldl (fun m b => max m (ticksAt L b)) m
  | [], m => ⟨Int.le_refl _, by simp⟩
  | b :: bs, m => by
    obtain ⟨h1, h2⟩ := maxF_ge (L := L) bs (max m (ticksAt L b))
    rw [List.foldl_cons]
    refine ⟨by omega, fun c hc => ?_⟩
    rcases List.mem_cons.1 hc with rfl | hc
    · omega
    · exact h2 c hc
theorem maxF_le {L : List Ta} {x : Int} : ∀ (bs : List P2) (m : Int), m ≤ x → (∀ b ∈ bs, ticksAt L b ≤ x) → bs.foldl (fun m b => max m (ticksAt L b)) m ≤ x
  | [], m, h, _ => h
  | b :: bs, m, h, hb => by
    rw [List.foldl_cons]
    have := hb b (by simp)
    exact maxF_le (L := L) bs _ (by omega) (fun c hc => hb c (by simp [hc]))
section
variable {K L : List Ta} {σ : Nat → Nat}
theorem Sim.block (h : Sim K L σ) {j : Nat} (hj : j < K.length) : blockN K j ≤ blockN L (σ j) := by
  unfold blockN
  refine maxF_le _ 0 (maxF_ge _ _).1 (fun b hb => ?_)
  have hB := blockL_mem hb
  obtain ⟨i, hi⟩ := Int.eq_ofNat_of_zero_le hB.j0
  obtain ⟨k, hk⟩ := Int.eq_ofNat_of_zero_le hB.k0
  have hil : i < K.length := by have := hB.j1; omega
  have hkl : k < (taAt K i).pcs.length := by have := hB.k1; rw [hi, hk] at this; omega
  have hp : (taAt K i).pcs[k]? = some (taAt K i).pcs[k] := List.getElem?_eq_getElem hkl
  have hq : (taAt L (σ i)).pcs[k]? = some ((taAt L (σ i)).pcs[k]'(by have := h.pl i hil; omega)) := List.getElem?_eq_getElem _
  obtain ⟨e1, e2⟩ := h.pc i hil k _ _ hp hq
  have hlk := hB.lk
  rw [hi, hk, Int.toNat_natCast, hp] at hlk
  simp only [Option.getD_some] at hlk
  have hah := hB.ah
  rw [hi] at hah
  have hu : uses K i (taAt K i).pcs[k].2 := ⟨_, List.getElem_mem hkl, rfl⟩
  have hn := h.ceil hil hj hu hlk.2
  have hin := blockL_in (L := L) (t := (σ j : Int)) (h.len i hil) hq (by rw [← e1]; exact hlk.1) ((h.ahead hj hil).1 hah) (by rw [← e1]; exact hn)
  have hge := (maxF_ge (L := L) (blockL L (σ j)) 0).2 _ hin
  have et : ticksAt K b = (taAt K i).pcs[k].1 := by rw [ticksAt, hi, hk, Int.toNat_natCast, hp]; rfl
  have eu : ticksAt L (((σ i : Nat) : Int), (k : Int)) = ((taAt L (σ i)).pcs[k]'(by have := h.pl i hil; omega)).1 := by rw [ticksAt, Int.toNat_natCast, hq]; rfl
  rw [eu] at hge
  rw [et]; omega
theorem demL_nonneg {L : List Ta} {w : Int} {p : Int → Bool} : ∀ (ks : List Int) (n : Int), (∀ k ∈ ks, 0 ≤ demT (taAt L k) w) → demL L w (ks.filter p) n ≤ demL L w ks n
  | [], n, _ => Int.le_refl _
  | k :: ks, n, h => by
    have h0 := h k (by simp)
    have e : demL L w (k :: ks) n = demL L w ks (n + demT (taAt L k) w) := rfl
    rw [List.filter_cons, e]
    split
    · exact demL_nonneg ks _ (fun j hj => h j (by simp [hj]))
    · refine Int.le_trans (demL_nonneg ks n (fun j hj => h j (by simp [hj]))) ?_
      exact demL_le ks _ _ (by omega) (fun j _ => Int.le_refl _)
theorem demL_map {K L : List Ta} {v : Int} {f : Int → Int} : ∀ (ks : List Int) (n m : Int), n ≤ m → (∀ k ∈ ks, demT (taAt K k) v ≤ demT (taAt L (f k)) v) → demL K v ks n ≤ demL L v (ks.map f) m
  | [], n, m, h, _ => h
  | k :: ks, n, m, h, hk => by
    have h0 := hk k (by simp)
    refine demL_map (K := K) ks _ _ ?_ (fun j hj => hk j (by simp [hj]))
    show n + demT (taAt K k) v ≤ m + demT (taAt L (f k)) v
    omega
theorem Sim.dem (h : Sim K L σ) (hK : ValidT K) (hL : ValidT L) {j : Nat} (hj : j < K.length) {v : Int} (hv : 0 ≤ v ∧ v ≤ 1000000) : demN K j v ≤ demN L (σ j) v := by
  have hown : ownN K j ≤ ownN L (σ j) := by
    have := h.cost hj
    have := h.block hj
    unfold ownN; omega
  let f : Int → Int := fun k => ((σ k.toNat : Nat) : Int)
  have h1 : demN K j v ≤ demL L v ((aheadL K j).map f) (ownN L (σ j)) := by
    refine demL_map _ _ _ hown (fun k hk => ?_)
    obtain ⟨⟨k0, k1⟩, _⟩ := aheadL_mem.1 hk
    obtain ⟨i, rfl⟩ := Int.eq_ofNat_of_zero_le k0
    show demT (taAt K i) v ≤ demT (taAt L ((σ (Int.toNat (i : Int)) : Nat) : Int)) v
    rw [Int.toNat_natCast]
    exact h.demTL hK hL (by omega) hv.1
  have hp : ((aheadL K j).map f).Perm ((aheadL L (σ j)).filter (fun x => decide (x ∈ (aheadL K j).map f))) := by
    rw [List.perm_ext_iff_of_nodup]
    · intro x
      rw [List.mem_filter, decide_eq_true_eq]
      refine ⟨fun hx => ⟨?_, hx⟩, fun hx => hx.2⟩
      obtain ⟨k, hk, rfl⟩ := List.mem_map.1 hx
      obtain ⟨⟨k0, k1⟩, k2⟩ := aheadL_mem.1 hk
      obtain ⟨i, rfl⟩ := Int.eq_ofNat_of_zero_le k0
      have hi : i < K.length := by omega
      rw [aheadL_mem]
      refine ⟨⟨by show 0 ≤ ((σ _ : Nat) : Int); omega, ?_⟩, aheadB_iff.2 ?_⟩
      · show ((σ (Int.toNat (i : Int)) : Nat) : Int) < _
        rw [Int.toNat_natCast]
        have := h.len i hi; omega
      · show Ahead L ((σ (Int.toNat (i : Int)) : Nat) : Int) _
        rw [Int.toNat_natCast]
        exact (h.ahead hi hj).1 (aheadB_iff.1 k2)
    · have hpw : (aheadL K j).Pairwise (· < ·) := (idxs_pw _).filter _
      have hpm : ((aheadL K j).map f).Pairwise (· < ·) := by
        rw [List.pairwise_map]
        refine List.Pairwise.imp_of_mem (fun {a b} ha hb hab => ?_) hpw
        have a0 := (aheadL_mem.1 ha).1.1
        have b0 := (aheadL_mem.1 hb).1.1
        have := h.mono a.toNat b.toNat (by omega)
        show ((σ a.toNat : Nat) : Int) < ((σ b.toNat : Nat) : Int)
        omega
      exact hpm.imp (fun hab => by omega)
    · exact ((idxs_nodup _).filter _).filter _
  rw [demL_perm hp] at h1
  refine Int.le_trans h1 ?_
  exact demL_nonneg _ _ (fun k hk => by
    obtain ⟨⟨k0, k1⟩, _⟩ := aheadL_mem.1 hk
    exact (demT_bd hL (taAt_mem' k0 k1) hv).1)
theorem Sim.meet (h : Sim K L σ) (hK : ValidT K) (hL : ValidT L) {j : Nat} (hj : j < K.length) {F S : Int} (hm : meetB L F S (σ j) = true) : meetB K F S j = true ∧ winN K F S j ≤ winN L F S (σ j) := by
  unfold meetB at hm ⊢
  rw [Bool.and_eq_true, decide_eq_true_eq, decide_eq_true_eq] at hm ⊢
  obtain ⟨y, hy, y1, y2, y3, _⟩ := (isWin L F S (σ j)).some_ (by omega)
  have hd := h.dem hK hL hj (v := (y : Int)) (by omega)
  have hI := isWin K F S j
  have hb := winN_bd K F S j
  have hjt := h.jit j hj
  have hdl := h.dl j hj
  by_cases h0 : winN K F S j = 0
  · exact absurd (by omega) (hI.none_ h0 y y1 y2)
  · obtain ⟨x, hx, x1, x2, x3, x4⟩ := hI.some_ h0
    have hxy : x ≤ y := by
      rcases Nat.lt_or_ge y x with q | q
      · exact absurd (by omega) (x4 y y1 q)
      · exact q
    omega
theorem Sim.acc (h : Sim K L σ) (hK : ValidT K) (hL : ValidT L) {F S : Int} (ha : accB L F S = true) : accB K F S = true :=
  accB_iff.2 (fun j hj => (h.meet hK hL hj (accB_iff.1 ha (σ j) (h.len j hj))).1)
end
end Go.Proofs.YtlhnhmimhpcoaaaGreat
namespace Go.Proofs.YtlhnhmimhpcoaaaGreat
open Go.RowKit
set_option linter.unusedSimpArgs false
set_option linter.unusedVariables false
def pcE (p q : P2) : Bool := decide (p.2 = q.2) && decide (q.1 ≤ p.1)
def easP : List P2 → List P2 → Bool
  | [], [] => true
  | p :: ps, q :: qs => pcE p q && easP ps qs
  | _, _ => false
def loosB (t u : Ta) : Bool := decide (t.first ≤ u.first ∧ t.gap ≤ u.gap ∧ u.jit ≤ t.jit)
def easT (t u : Ta) : Bool := loosB t u && (decide (t.pri = u.pri) && (decide (t.dl ≤ u.dl) && easP t.pcs u.pcs))
def easL : List Ta → List Ta → Bool
  | [], [] => true
  | t :: L, u :: K => easT t u && easL L K
  | _, _ => false
def easR (L K : List Ta) : Bool × Int := if validL L && validL K then (easL L K, 0) else (false, 1)
theorem easP_len : ∀ {ps qs : List P2}, ¬ ps.length = qs.length → easP ps qs = false
  | [], [], h => absurd rfl h
  | [], _ :: _, _ => rfl
  | _ :: _, [], _ => rfl
  | p :: ps, q :: qs, h => by rw [easP, easP_len (fun e => h (by simp [e])), Bool.and_false]
theorem easL_len : ∀ {ps qs : List Ta}, ¬ ps.length = qs.length → easL ps qs = false
  | [], [], h => absurd rfl h
  | [], _ :: _, _ => rfl
  | _ :: _, [], _ => rfl
  | p :: ps, q :: qs, h => by rw [easL, easL_len (fun e => h (by simp [e])), Bool.and_false]
theorem easP_iff : ∀ {ps qs : List P2}, easP ps qs = true ↔ ps.length = qs.length ∧ ∀ (k : Nat) (p q : P2), ps[k]? = some p → qs[k]? = some q → p.2 = q.2 ∧ q.1 ≤ p.1
  | [], [] => by simp [easP]
  | [], _ :: _ => by simp [easP]
  | _ :: _, [] => by simp [easP]
  | p :: ps, q :: qs => by
    simp only [easP, Bool.and_eq_true, pcE, decide_eq_true_eq, easP_iff (ps := ps) (qs := qs), List.length_cons, Nat.add_right_cancel_iff]
    constructor
    · rintro ⟨h1, h2, h3⟩
      refine ⟨h2, fun k => ?_⟩
      cases k with
      | zero => intro a b ha hb; simp at ha hb; subst ha; subst hb; exact h1
      | succ k => intro a b ha hb; exact h3 k a b (by simpa using ha) (by simpa using hb)
    · rintro ⟨h1, h2⟩
      exact ⟨h2 0 p q rfl rfl, h1, fun k a b ha hb => h2 (k + 1) a b (by simpa using ha) (by simpa using hb)⟩
theorem easL_iff : ∀ {L K : List Ta}, easL L K = true ↔ L.length = K.length ∧ ∀ (k : Nat) (t u : Ta), L[k]? = some t → K[k]? = some u → easT t u = true
  | [], [] => by simp [easL]
  | [], _ :: _ => by simp [easL]
  | _ :: _, [] => by simp [easL]
  | t :: L, u :: K => by
    simp only [easL, Bool.and_eq_true, easL_iff (L := L) (K := K), List.length_cons, Nat.add_right_cancel_iff]
    constructor
    · rintro ⟨h1, h2, h3⟩
      refine ⟨h2, fun k => ?_⟩
      cases k with
      | zero => intro a b ha hb; simp at ha hb; subst ha; subst hb; exact h1
      | succ k => intro a b ha hb; exact h3 k a b (by simpa using ha) (by simpa using hb)
    · rintro ⟨h1, h2⟩
      exact ⟨h2 0 t u rfl rfl, h1, fun k a b ha hb => h2 (k + 1) a b (by simpa using ha) (by simpa using hb)⟩
theorem easT_iff {t u : Ta} : easT t u = true ↔ (t.first ≤ u.first ∧ t.gap ≤ u.gap ∧ u.jit ≤ t.jit) ∧ t.pri = u.pri ∧ t.dl ≤ u.dl ∧ easP t.pcs u.pcs = true := by
  simp only [easT, loosB, Bool.and_eq_true, decide_eq_true_eq]
theorem looser_is {f g j f' g' j' : Int} {b : Bool} {w : World} (hv : vpat f g j = true) (hv' : vpat f' g' j' = true) (h : decide (f' ≤ f ∧ g' ≤ g ∧ j ≤ j') = b) :
    Calls Tryz.prog 36 #[patV f g j, patV f' g' j'] w fun e w' => e = rBI b 0 ∧ Below w.heap.size w w' := by
  subst h
  go_enter Tryz.func36, Tryz.ntmps36
  go_wp2_with (go_at_call 65; refine (valid_any _ _ _ _).mono ?_; rintro e w1 ⟨rfl, hb1⟩; obtain ⟨hc1, hf1, hz1, hr1⟩ := bfacts hb1; (try simp only [World.size_alloc, World.size_setCell, World.size_drew, World.size_drewN] at hz1 hr1); (try have hw0 : w.heap.size < w1.heap.size := by omega); (try have hw1 : w.heap.size + 1 < w1.heap.size := by omega); (try have hw2 : w.heap.size + 1 + 1 < w1.heap.size := by omega))
  all_goals (go_ret2; exact ⟨rBI_eq (by simp [*] <;> omega) rfl, by (repeat' (first | (with_reducible exact Below.refl _ _) | (with_reducible assumption) | (with_reducible refine Below.alloc ?_ ?_ _) | (with_reducible refine Below.drew ?_) | (with_reducible refine Below.draws ?_ _) | (with_reducible refine Below.setCell ?_ ?_ _) | (refine Below.then ?_ (by with_reducible assumption)) | go_size))⟩)
theorem pcE_any (p l p' l' : Int) (w : World) : Calls Tryz.prog 38 #[.agg #[.int .i64 p, .int .i64 l], .agg #[.int .i64 p', .int .i64 l']] w fun e w' => e = .returned (.bool (pcE (p, l) (p', l'))) ∧ Below w.heap.size w w' := by
  by_cases h1 : l = l'
  · subst h1
    by_cases h2 : p' ≤ p
    · have h2' : decide (p' ≤ p) = true := by simpa using h2
      go_enter Tryz.func38, Tryz.ntmps38
      go_wp2
      go_ret
      exact ⟨ret_bool (by simp [pcE, h2]), by (repeat' (first | (with_reducible exact Below.refl _ _) | (with_reducible assumption) | (with_reducible refine Below.alloc ?_ ?_ _) | (with_reducible refine Below.drew ?_) | (with_reducible refine Below.draws ?_ _) | (with_reducible refine Below.setCell ?_ ?_ _) | (refine Below.then ?_ (by with_reducible assumption)) | go_size))⟩
    · have h2' : decide (p' ≤ p) = false := by simpa using h2
      go_enter Tryz.func38, Tryz.ntmps38
      go_wp2
      go_ret
      exact ⟨ret_bool (by simp [pcE, h2]), by (repeat' (first | (with_reducible exact Below.refl _ _) | (with_reducible assumption) | (with_reducible refine Below.alloc ?_ ?_ _) | (with_reducible refine Below.drew ?_) | (with_reducible refine Below.draws ?_ _) | (with_reducible refine Below.setCell ?_ ?_ _) | (refine Below.then ?_ (by with_reducible assumption)) | go_size))⟩
  · go_enter Tryz.func38, Tryz.ntmps38
    go_wp2
    go_ret
    exact ⟨ret_bool (by simp [pcE, h1]), by (repeat' (first | (with_reducible exact Below.refl _ _) | (with_reducible assumption) | (with_reducible refine Below.alloc ?_ ?_ _) | (with_reducible refine Below.drew ?_) | (with_reducible refine Below.draws ?_ _) | (with_reducible refine Below.setCell ?_ ?_ _) | (refine Below.then ?_ (by with_reducible assumption)) | go_size))⟩
theorem pcE_is {p l p' l' : Int} {b : Bool} {w : World} (h : pcE (p, l) (p', l') = b) : Calls Tryz.prog 38 #[.agg #[.int .i64 p, .int .i64 l], .agg #[.int .i64 p', .int .i64 l']] w fun e w' => e = .returned (.bool b) ∧ Below w.heap.size w w' := by subst h; exact pcE_any p l p' l' w
set_option maxRecDepth 10000 in
set_option maxHeartbeats 2000000 in
theorem eqP_any (a b : Option Addr) (n m c d : Nat) (ps qs : List P2) (w : World) (hA : Rd w a n 2 (ps.map enc2)) (hB : Rd w b m 2 (qs.map enc2)) :
    Calls Tryz.prog 37 #[.slice a n c, .slice b m d, .func (.func 38) #[] #[]] w fun e w' => e = .returned (.bool (easP ps qs)) ∧ Below w.heap.size w w' := by
  have hs := hA.small
  have hs2 := hB.small
  have HLA := Lib.hid hA.length
  have HLB := Lib.hid hB.length
  have HA := Lib.hid hA; have HB := Lib.hid hB
  by_cases hnm : n = m
  · subst hnm
    obtain ⟨R, hR⟩ : ∃ R, easP ps qs = R := ⟨_, rfl⟩
    have HR : Hid (easP (ps.drop 0) (qs.drop 0) = R) := Lib.hid hR
    rw [hR]
    clear hA hB hR
    go_enter Tryz.func37, Tryz.ntmps37
    go_wp2
    go_loopw [17] (fun i wr => ∃ k : Nat, k ≤ n ∧ i = .int .i64 k ∧ easP (ps.drop k) (qs.drop k) = R ∧ Below w.heap.size w wr) (fun i _ => n - (intOf i).toNat)
    case atStart => exact ⟨0, Nat.zero_le _, rfl, HR.out, by (repeat' (first | (with_reducible exact Below.refl _ _) | (with_reducible assumption) | (with_reducible refine Below.alloc ?_ ?_ _) | (with_reducible refine Below.drew ?_) | (with_reducible refine Below.draws ?_ _) | (with_reducible refine Below.setCell ?_ ?_ _) | (refine Below.then ?_ (by with_reducible assumption)) | go_size))⟩
    case round =>
      clear HR
      obtain ⟨k, hk, rfl, he, hb⟩ := hrel
      have HE := Lib.hid he; have HW := Lib.hid hb
      clear he hb
      by_cases hlt : k < n
      · obtain ⟨x, y, b1, o1, rfl, hb1, c0, c1, hg, HD⟩ := (HA.out.ext HW.out).pc_at k hlt
        obtain ⟨x', y', b2, o2, rfl, hb2, d0, d1, hg', HD'⟩ := (HB.out.ext HW.out).pc_at k hlt
        have hE := HE.out
        rw [HD.out, HD'.out, easP] at hE
        obtain ⟨v, hv⟩ : ∃ v, pcE (x, y) (x', y') = v := ⟨_, rfl⟩
        have HV := Lib.hid hv
        rw [hv] at hE
        have n1 : ¬ b1 = wr.heap.size := by omega
        have n2 : ¬ b2 = wr.heap.size := by omega
        clear HE HD HD' hg hg' hv
        cases v
        · obtain rfl : R = false := by rw [← hE, Bool.false_and]
          clear hE
          go_wp2_with (go_at_call 38; (with_reducible refine (pcE_is HV.out).mono ?_); rintro e w1 ⟨rfl, hw1⟩; have B1 := Lib.hid (Below.then (show Below wr.heap.size wr _ by (repeat' (first | (with_reducible exact Below.refl _ _) | (with_reducible assumption) | (with_reducible refine Below.alloc ?_ ?_ _) | (with_reducible refine Below.drew ?_) | (with_reducible refine Below.draws ?_ _) | (with_reducible refine Below.setCell ?_ ?_ _) | (refine Below.then ?_ (by with_reducible assumption)) | go_size))) hw1); clear hw1)
          go_ret
          exact ⟨rfl, Below.then HW.out B1.out⟩
        · rw [Bool.true_and] at hE
          have HE := Lib.hid hE
          clear hE
          go_wp2_with (go_at_call 38; (with_reducible refine (pcE_is HV.out).mono ?_); rintro e w1 ⟨rfl, hw1⟩; have B1 := Lib.hid (Below.then (show Below wr.heap.size wr _ by (repeat' (first | (with_reducible exact Below.refl _ _) | (with_reducible assumption) | (with_reducible refine Below.alloc ?_ ?_ _) | (with_reducible refine Below.drew ?_) | (with_reducible refine Below.draws ?_ _) | (with_reducible refine Below.setCell ?_ ?_ _) | (refine Below.then ?_ (by with_reducible assumption)) | go_size))) hw1); clear hw1)
          go_roundw
          case rel => exact ⟨k + 1, by omega, by go_num, HE.out, Below.then HW.out B1.out⟩
          case measure => simp [intOf]; omega
      · obtain rfl : R = true := by rw [← HE.out, drop_end HLA.out (by omega), drop_end HLB.out (by omega)]; rfl
        clear HE
        go_wp2
        go_ret
        exact ⟨rfl, HW.out⟩
  · rw [easP_len (fun h => hnm (by rw [← HLA.out, ← HLB.out, h]))]
    clear hA hB
    go_enter Tryz.func37, Tryz.ntmps37
    go_wp2
    go_ret
    exact ⟨rfl, by (repeat' (first | (with_reducible exact Below.refl _ _) | (with_reducible assumption) | (with_reducible refine Below.alloc ?_ ?_ _) | (with_reducible refine Below.drew ?_) | (with_reducible refine Below.draws ?_ _) | (with_reducible refine Below.setCell ?_ ?_ _) | (refine Below.then ?_ (by with_reducible assumption)) | go_size))⟩
theorem eqP_is {a b : Option Addr} {n m c d : Nat} {ps qs : List P2} {v : Bool} {w : World} (hA : Rd w a n 2 (ps.map enc2)) (hB : Rd w b m 2 (qs.map enc2)) (h : easP ps qs = v) :
    Calls Tryz.prog 37 #[.slice a n c, .slice b m d, .func (.func 38) #[] #[]] w fun e w' => e = .returned (.bool v) ∧ Below w.heap.size w w' := by subst h; exact eqP_any a b n m c d ps qs w hA hB
end Go.Proofs.YtlhnhmimhpcoaaaGreat
namespace Go.Proofs.YtlhnhmimhpcoaaaGreat
open Go.RowKit
set_option linter.unusedSimpArgs false
set_option linter.unusedVariables false
set_option maxRecDepth 10000 in
set_option maxHeartbeats 2000000 in
theorem easF_is (p0 p1 p2 p3 p4 : Int) (pa : Option Addr) (pn pc : Nat) (ps : List P2) (q0 q1 q2 q3 q4 : Int) (qa : Option Addr) (qn qc : Nat) (qs : List P2) {v : Bool} {w : World} (hA : Rd w pa pn 2 (ps.map enc2)) (hB : Rd w qa qn 2 (qs.map enc2))
    (hv : vpat p2 p3 p4 = true) (hv' : vpat q2 q3 q4 = true) (h : easT ⟨p0, p1, p2, p3, p4, ps⟩ ⟨q0, q1, q2, q3, q4, qs⟩ = v) :
    Calls Tryz.prog 35 #[.agg #[.int .i64 p0, .int .i64 p1, .int .i64 p2, .int .i64 p3, .int .i64 p4, .slice pa pn pc], .agg #[.int .i64 q0, .int .i64 q1, .int .i64 q2, .int .i64 q3, .int .i64 q4, .slice qa qn qc]] w fun e w' => e = .returned (.bool v) ∧ Below w.heap.size w w' := by
  have HA := Lib.hid hA; have HB := Lib.hid hB
  have HV := Lib.hid hv; have HV' := Lib.hid hv'
  obtain ⟨lo, hlo⟩ : ∃ b, decide (p2 ≤ q2 ∧ p3 ≤ q3 ∧ q4 ≤ p4) = b := ⟨_, rfl⟩
  have HLO := Lib.hid hlo
  have h' : (lo && (decide (p0 = q0) && (decide (p1 ≤ q1) && easP ps qs))) = v := by rw [← h, ← hlo]; rfl
  clear hA hB hv hv' h hlo
  cases lo
  · obtain rfl : v = false := by rw [← h', Bool.false_and]
    clear h'
    go_enter Tryz.func35, Tryz.ntmps35
    go_wp2_with (go_at_call 36; (with_reducible refine (looser_is HV'.out HV.out HLO.out).mono ?_); rintro e w1 ⟨rfl, hb1⟩; have B1 := Lib.hid (Below.then (show Below w.heap.size w _ by (repeat' (first | (with_reducible exact Below.refl _ _) | (with_reducible assumption) | (with_reducible refine Below.alloc ?_ ?_ _) | (with_reducible refine Below.drew ?_) | (with_reducible refine Below.draws ?_ _) | (with_reducible refine Below.setCell ?_ ?_ _) | (refine Below.then ?_ (by with_reducible assumption)) | go_size))) hb1); clear hb1)
    go_ret
    exact ⟨rfl, B1.out⟩
  · rw [Bool.true_and] at h'
    by_cases e0 : p0 = q0
    · subst e0
      by_cases e1 : p1 ≤ q1
      · obtain rfl : easP ps qs = v := by rw [← h', decide_eq_true rfl, decide_eq_true e1, Bool.true_and, Bool.true_and]
        have e1' : decide (p1 ≤ q1) = true := by simpa using e1
        clear h'
        go_enter Tryz.func35, Tryz.ntmps35
        go_wp2_with (first
          | (go_at_call 36; (with_reducible refine (looser_is HV'.out HV.out HLO.out).mono ?_); rintro e w1 ⟨rfl, hb1⟩; have B1 := Lib.hid (Below.then (show Below w.heap.size w _ by (repeat' (first | (with_reducible exact Below.refl _ _) | (with_reducible assumption) | (with_reducible refine Below.alloc ?_ ?_ _) | (with_reducible refine Below.drew ?_) | (with_reducible refine Below.draws ?_ _) | (with_reducible refine Below.setCell ?_ ?_ _) | (refine Below.then ?_ (by with_reducible assumption)) | go_size))) hb1); have c0 := (hb1.cell (p := ⟨w.heap.size, 0, none⟩) (by simp <;> omega)).trans (show _ = some (.int .i64 p0) by simp [go_sem]); have c1 := (hb1.cell (p := ⟨w.heap.size, 1, none⟩) (by simp <;> omega)).trans (show _ = some (.int .i64 p1) by simp [go_sem]); have c5 := (hb1.cell (p := ⟨w.heap.size, 5, none⟩) (by simp <;> omega)).trans (show _ = some (.slice pa pn pc) by simp [go_sem]); have d0 := (hb1.cell (p := ⟨w.heap.size + 1, 0, none⟩) (by simp <;> omega)).trans (show _ = some (.int .i64 p0) by simp [go_sem]); have d1 := (hb1.cell (p := ⟨w.heap.size + 1, 1, none⟩) (by simp <;> omega)).trans (show _ = some (.int .i64 q1) by simp [go_sem]); have d5 := (hb1.cell (p := ⟨w.heap.size + 1, 5, none⟩) (by simp <;> omega)).trans (show _ = some (.slice qa qn qc) by simp [go_sem]); clear hb1)
          | (go_at_call 37; (with_reducible refine (eqP_is (HA.out.ext B1.out) (HB.out.ext B1.out) rfl).mono ?_); rintro e w2 ⟨rfl, hb2⟩; have B2 := Lib.hid hb2; clear hb2))
        go_ret
        exact ⟨ret_bool (by simp [*]), Below.then B1.out B2.out⟩
      · obtain rfl : v = false := by rw [← h', decide_eq_false e1, Bool.false_and, Bool.and_false]
        have e1' : decide (p1 ≤ q1) = false := by simpa using e1
        clear h'
        go_enter Tryz.func35, Tryz.ntmps35
        go_wp2_with (go_at_call 36; (with_reducible refine (looser_is HV'.out HV.out HLO.out).mono ?_); rintro e w1 ⟨rfl, hb1⟩; have B1 := Lib.hid (Below.then (show Below w.heap.size w _ by (repeat' (first | (with_reducible exact Below.refl _ _) | (with_reducible assumption) | (with_reducible refine Below.alloc ?_ ?_ _) | (with_reducible refine Below.drew ?_) | (with_reducible refine Below.draws ?_ _) | (with_reducible refine Below.setCell ?_ ?_ _) | (refine Below.then ?_ (by with_reducible assumption)) | go_size))) hb1); have c0 := (hb1.cell (p := ⟨w.heap.size, 0, none⟩) (by simp <;> omega)).trans (show _ = some (.int .i64 p0) by simp [go_sem]); have c1 := (hb1.cell (p := ⟨w.heap.size, 1, none⟩) (by simp <;> omega)).trans (show _ = some (.int .i64 p1) by simp [go_sem]); have d0 := (hb1.cell (p := ⟨w.heap.size + 1, 0, none⟩) (by simp <;> omega)).trans (show _ = some (.int .i64 p0) by simp [go_sem]); have d1 := (hb1.cell (p := ⟨w.heap.size + 1, 1, none⟩) (by simp <;> omega)).trans (show _ = some (.int .i64 q1) by simp [go_sem]); clear hb1)
        go_ret
        exact ⟨ret_bool (by simp [*]), B1.out⟩
    · obtain rfl : v = false := by rw [← h', decide_eq_false e0, Bool.false_and]
      clear h'
      go_enter Tryz.func35, Tryz.ntmps35
      go_wp2_with (go_at_call 36; (with_reducible refine (looser_is HV'.out HV.out HLO.out).mono ?_); rintro e w1 ⟨rfl, hb1⟩; have B1 := Lib.hid (Below.then (show Below w.heap.size w _ by (repeat' (first | (with_reducible exact Below.refl _ _) | (with_reducible assumption) | (with_reducible refine Below.alloc ?_ ?_ _) | (with_reducible refine Below.drew ?_) | (with_reducible refine Below.draws ?_ _) | (with_reducible refine Below.setCell ?_ ?_ _) | (refine Below.then ?_ (by with_reducible assumption)) | go_size))) hb1); have c0 := (hb1.cell (p := ⟨w.heap.size, 0, none⟩) (by simp <;> omega)).trans (show _ = some (.int .i64 p0) by simp [go_sem]); have d0 := (hb1.cell (p := ⟨w.heap.size + 1, 0, none⟩) (by simp <;> omega)).trans (show _ = some (.int .i64 q0) by simp [go_sem]); clear hb1)
      go_ret
      exact ⟨ret_bool (by simp [*]), B1.out⟩
set_option maxRecDepth 10000 in
set_option maxHeartbeats 2000000 in
theorem eqT_any (a b : Option Addr) (n m c d : Nat) (L K : List Ta) (w : World) (hA : RdL w a n L) (hB : RdL w b m K) (hL : ValidT L) (hK : ValidT K) :
    Calls Tryz.prog 34 #[.slice a n c, .slice b m d, .func (.func 35) #[] #[]] w fun e w' => e = .returned (.bool (easL L K)) ∧ Below w.heap.size w w' := by
  have hs := hA.small
  have hs2 := hB.small
  have HLA := Lib.hid hA.length
  have HLB := Lib.hid hB.length
  have HA := Lib.hid hA; have HB := Lib.hid hB
  have HL := Lib.hid hL; have HK := Lib.hid hK
  by_cases hnm : n = m
  · subst hnm
    obtain ⟨R, hR⟩ : ∃ R, easL L K = R := ⟨_, rfl⟩
    have HR : Hid (easL (L.drop 0) (K.drop 0) = R) := Lib.hid hR
    rw [hR]
    clear hA hB hR hL hK
    go_enter Tryz.func34, Tryz.ntmps34
    go_wp2
    go_loopw [17] (fun i wr => ∃ k : Nat, k ≤ n ∧ i = .int .i64 k ∧ easL (L.drop k) (K.drop k) = R ∧ Below w.heap.size w wr) (fun i _ => n - (intOf i).toNat)
    case atStart => exact ⟨0, Nat.zero_le _, rfl, HR.out, by (repeat' (first | (with_reducible exact Below.refl _ _) | (with_reducible assumption) | (with_reducible refine Below.alloc ?_ ?_ _) | (with_reducible refine Below.drew ?_) | (with_reducible refine Below.draws ?_ _) | (with_reducible refine Below.setCell ?_ ?_ _) | (refine Below.then ?_ (by with_reducible assumption)) | go_size))⟩
    case round =>
      clear HR
      obtain ⟨k, hk, rfl, he, hb⟩ := hrel
      have HE := Lib.hid he; have HW := Lib.hid hb
      clear he hb
      by_cases hlt : k < n
      · obtain ⟨t, b1, o1, pa, pn, pc, rfl, hb1, c0, c1, c2, c3, c4, c5, hp, _, hg, HD⟩ := (HA.out.ext HW.out).at_ k hlt
        obtain ⟨u, b2, o2, qa, qn, qc, rfl, hb2, d0, d1, d2, d3, d4, d5, hq, _, hg', HD'⟩ := (HB.out.ext HW.out).at_ k hlt
        have hE := HE.out
        rw [HD.out, HD'.out, easL] at hE
        have HVt := Lib.hid (HL.out.vp t (List.mem_of_getElem? hg))
        have HVu := Lib.hid (HK.out.vp u (List.mem_of_getElem? hg'))
        obtain ⟨v, hv⟩ : ∃ v, easT t u = v := ⟨_, rfl⟩
        have HV := Lib.hid hv
        rw [hv] at hE
        have HP := Lib.hid hp; have HQ := Lib.hid hq
        have n1 : ¬ b1 = wr.heap.size := by omega
        have n2 : ¬ b2 = wr.heap.size := by omega
        clear HE HD HD' hg hg' hv hp hq
        obtain ⟨p0, p1, p2, p3, p4, ps⟩ := t
        obtain ⟨q0, q1, q2, q3, q4, qs⟩ := u
        simp only [] at c0 c1 c2 c3 c4 c5 d0 d1 d2 d3 d4 d5
        cases v
        · obtain rfl : R = false := by rw [← hE, Bool.false_and]
          clear hE
          go_wp2_with (go_at_call 35; (with_reducible refine (easF_is _ _ _ _ _ _ _ _ _ _ _ _ _ _ _ _ _ _ (HP.out.ext (show Below wr.heap.size wr _ by (repeat' (first | (with_reducible exact Below.refl _ _) | (with_reducible assumption) | (with_reducible refine Below.alloc ?_ ?_ _) | (with_reducible refine Below.drew ?_) | (with_reducible refine Below.draws ?_ _) | (with_reducible refine Below.setCell ?_ ?_ _) | (refine Below.then ?_ (by with_reducible assumption)) | go_size)))) (HQ.out.ext (show Below wr.heap.size wr _ by (repeat' (first | (with_reducible exact Below.refl _ _) | (with_reducible assumption) | (with_reducible refine Below.alloc ?_ ?_ _) | (with_reducible refine Below.drew ?_) | (with_reducible refine Below.draws ?_ _) | (with_reducible refine Below.setCell ?_ ?_ _) | (refine Below.then ?_ (by with_reducible assumption)) | go_size)))) HVt.out HVu.out HV.out).mono ?_); rintro e w1 ⟨rfl, hw1⟩; have B1 := Lib.hid (Below.then (show Below wr.heap.size wr _ by (repeat' (first | (with_reducible exact Below.refl _ _) | (with_reducible assumption) | (with_reducible refine Below.alloc ?_ ?_ _) | (with_reducible refine Below.drew ?_) | (with_reducible refine Below.draws ?_ _) | (with_reducible refine Below.setCell ?_ ?_ _) | (refine Below.then ?_ (by with_reducible assumption)) | go_size))) hw1); clear hw1)
          go_ret
          exact ⟨rfl, Below.then HW.out B1.out⟩
        · rw [Bool.true_and] at hE
          have HE := Lib.hid hE
          clear hE
          go_wp2_with (go_at_call 35; (with_reducible refine (easF_is _ _ _ _ _ _ _ _ _ _ _ _ _ _ _ _ _ _ (HP.out.ext (show Below wr.heap.size wr _ by (repeat' (first | (with_reducible exact Below.refl _ _) | (with_reducible assumption) | (with_reducible refine Below.alloc ?_ ?_ _) | (with_reducible refine Below.drew ?_) | (with_reducible refine Below.draws ?_ _) | (with_reducible refine Below.setCell ?_ ?_ _) | (refine Below.then ?_ (by with_reducible assumption)) | go_size)))) (HQ.out.ext (show Below wr.heap.size wr _ by (repeat' (first | (with_reducible exact Below.refl _ _) | (with_reducible assumption) | (with_reducible refine Below.alloc ?_ ?_ _) | (with_reducible refine Below.drew ?_) | (with_reducible refine Below.draws ?_ _) | (with_reducible refine Below.setCell ?_ ?_ _) | (refine Below.then ?_ (by with_reducible assumption)) | go_size)))) HVt.out HVu.out HV.out).mono ?_); rintro e w1 ⟨rfl, hw1⟩; have B1 := Lib.hid (Below.then (show Below wr.heap.size wr _ by (repeat' (first | (with_reducible exact Below.refl _ _) | (with_reducible assumption) | (with_reducible refine Below.alloc ?_ ?_ _) | (with_reducible refine Below.drew ?_) | (with_reducible refine Below.draws ?_ _) | (with_reducible refine Below.setCell ?_ ?_ _) | (refine Below.then ?_ (by with_reducible assumption)) | go_size))) hw1); clear hw1)
          go_roundw
          case rel => exact ⟨k + 1, by omega, by go_num, HE.out, Below.then HW.out B1.out⟩
          case measure => simp [intOf]; omega
      · obtain rfl : R = true := by rw [← HE.out, drop_end HLA.out (by omega), drop_end HLB.out (by omega)]; rfl
        clear HE
        go_wp2
        go_ret
        exact ⟨rfl, HW.out⟩
  · rw [easL_len (fun h => hnm (by rw [← HLA.out, ← HLB.out, h]))]
    clear hA hB hL hK
    go_enter Tryz.func34, Tryz.ntmps34
    go_wp2
    go_ret
    exact ⟨rfl, by (repeat' (first | (with_reducible exact Below.refl _ _) | (with_reducible assumption) | (with_reducible refine Below.alloc ?_ ?_ _) | (with_reducible refine Below.drew ?_) | (with_reducible refine Below.draws ?_ _) | (with_reducible refine Below.setCell ?_ ?_ _) | (refine Below.then ?_ (by with_reducible assumption)) | go_size))⟩
theorem eqT_is {a b : Option Addr} {n m c d : Nat} {L K : List Ta} {v : Bool} {w : World} (hA : RdL w a n L) (hB : RdL w b m K) (hL : ValidT L) (hK : ValidT K) (h : easL L K = v) :
    Calls Tryz.prog 34 #[.slice a n c, .slice b m d, .func (.func 35) #[] #[]] w fun e w' => e = .returned (.bool v) ∧ Below w.heap.size w w' := by subst h; exact eqT_any a b n m c d L K w hA hB hL hK
set_option maxRecDepth 10000 in
theorem Easier_is {a b : Option Addr} {n m c d : Nat} {L K : List Ta} {v : Bool} {x : Int} {w : World} (hA : RdL w a n L) (hB : RdL w b m K) (h : easR L K = (v, x)) :
    Calls Tryz.prog 15 #[.slice a n c, .slice b m d] w fun e w' => e = rBI v x ∧ Below w.heap.size w w' := by
  have HA := Lib.hid hA; have HB := Lib.hid hB
  obtain ⟨vl, hvl⟩ : ∃ b, validL L = b := ⟨_, rfl⟩
  obtain ⟨vk, hvk⟩ : ∃ b, validL K = b := ⟨_, rfl⟩
  have HVL := Lib.hid hvl; have HVK := Lib.hid hvk
  unfold easR at h
  rw [hvl, hvk] at h
  cases vl
  · simp at h
    obtain ⟨rfl, rfl⟩ := h
    clear hA hB hvl hvk
    go_enter Tryz.func15, Tryz.ntmps15
    go_wp2_with (go_at_call 33; (with_reducible refine (valid_is HA.out HVL.out).mono ?_); rintro e w1 ⟨rfl, hb1⟩; have B1 := Lib.hid hb1; clear hb1)
    go_ret2
    exact ⟨rfl, B1.out⟩
  · cases vk
    · simp at h
      obtain ⟨rfl, rfl⟩ := h
      clear hA hB hvl hvk
      go_enter Tryz.func15, Tryz.ntmps15
      go_wp2_with (first
        | (go_at_call 33; (with_reducible refine (valid_is HA.out HVL.out).mono ?_); rintro e w1 ⟨rfl, hb1⟩; have B1 := Lib.hid hb1; clear hb1)
        | (go_at_call 33; (with_reducible refine (valid_is (HB.out.ext B1.out) HVK.out).mono ?_); rintro e w2 ⟨rfl, hb2⟩; have B2 := Lib.hid hb2; clear hb2))
      go_ret2
      exact ⟨rfl, Below.then B1.out B2.out⟩
    · simp at h
      obtain ⟨h1, rfl⟩ := h
      have HE := Lib.hid h1
      have HL := Lib.hid (valid_of hvl)
      have HK := Lib.hid (valid_of hvk)
      clear hA hB hvl hvk h1
      go_enter Tryz.func15, Tryz.ntmps15
      go_wp2_with (first
        | (go_at_call 33; (with_reducible refine (valid_is HA.out HVL.out).mono ?_); rintro e w1 ⟨rfl, hb1⟩; have B1 := Lib.hid hb1; clear hb1)
        | (go_at_call 33; (with_reducible refine (valid_is (HB.out.ext B1.out) HVK.out).mono ?_); rintro e w2 ⟨rfl, hb2⟩; have B2 := Lib.hid (Below.then B1.out hb2); clear hb2)
        | (go_at_call 34; (with_reducible refine (eqT_is (HA.out.ext B2.out) (HB.out.ext B2.out) HL.out HK.out HE.out).mono ?_); rintro e w3 ⟨rfl, hb3⟩; have B3 := Lib.hid hb3; clear hb3))
      go_ret2
      exact ⟨rfl, Below.then B2.out B3.out⟩
end Go.Proofs.YtlhnhmimhpcoaaaGreat
namespace Go.Proofs.YtlhnhmimhpcoaaaGreat
open Go.RowKit
set_option linter.unusedSimpArgs false
set_option linter.unusedVariables false
theorem taAt_get {L : List Ta} {i : Nat} (h : i < L.length) : L[i]? = some (taAt L i) := by
  rw [List.getElem?_eq_getElem h, taAt_of (List.getElem?_eq_getElem h)]
theorem eas_sim {L K : List Ta} (h : easL L K = true) : Sim K L (fun i => i) := by
  obtain ⟨hl, hk⟩ := easL_iff.1 h
  have hat : ∀ i, i < K.length → easT (taAt L i) (taAt K i) = true := fun i hi => hk i _ _ (taAt_get (by omega)) (taAt_get hi)
  refine ⟨fun i hi => by omega, fun i j hij => hij, fun i hi => (easT_iff.1 (hat i hi)).2.1.symm, fun i hi => (easT_iff.1 (hat i hi)).1.2.1, fun i hi => (easT_iff.1 (hat i hi)).1.2.2, fun i hi => (easT_iff.1 (hat i hi)).2.2.1, fun i hi => (easP_iff.1 (easT_iff.1 (hat i hi)).2.2.2).1.symm, fun i hi k p q hp hq => ?_⟩
  have := (easP_iff.1 (easT_iff.1 (hat i hi)).2.2.2).2 k q p hq hp
  exact ⟨this.1.symm, this.2⟩
theorem short_meets {R : Rn} {L : List Ta} {t : Int} (h : runB R = true) (ht : 0 ≤ t ∧ t ≤ 2000) (ha : alwR R = (true, 0)) (he : easR L R.L = (true, 0)) (hacc : accE L R.fr R.sl = 0) : meetsR R t = (true, 0) := by
  obtain ⟨hr, hvl, hsup, _⟩ := run_ok h
  unfold easR at he
  split at he
  · rename_i hv
    rw [Bool.and_eq_true] at hv
    have he2 : easL L R.L = true := congrArg Prod.fst he
    have hab : accB L R.fr R.sl = true := by
      unfold accE at hacc
      split at hacc
      · split at hacc
        · assumption
        · exact absurd hacc (by decide)
      · exact absurd hacc (by decide)
    exact meets_all h ht ha (Sim.acc (eas_sim he2) (valid_of hv.2) (valid_of hv.1) hab)
  · exact absurd (congrArg Prod.fst he) (by simp)
set_option maxRecDepth 100000 in
set_option maxHeartbeats 8000000 in
theorem shorter_walk {w : World} (H : RunH) (R : Rn) (hR : ReadRun w H R) (hS : RunS H R) (a : Option Addr) (n c : Nat) (L : List Ta) (hL : RdL w a n L) (hT : ∀ t ∈ L, t.pcs.length ≤ 281474976710656) (hN : NilOk a n c) (t : Int) (ht : -9223372036854775808 ≤ t ∧ t ≤ 9223372036854775807) :
    Calls Tryz.prog 5 #[runV H R.fr R.sl, .slice a n c, .int .i64 t] w fun e w' => e = .returned (.bool true) ∧ Below w.heap.size w w' := by
  have HH := Lib.hid (fun w1 (hb : Below w.heap.size w w1) => heavy_any H R w1 (hR.ext hb) hS)
  have HA := Lib.hid (fun w1 (hb : Below w.heap.size w w1) => Allowed_any H R w1 (hR.ext hb))
  have HRA := Lib.hid (fun w1 (hb : Below w.heap.size w w1) => rAllowed_any H R w1 (hR.ext hb))
  have HAC := Lib.hid (fun w1 (hb : Below w.heap.size w w1) => Accept_any a n c L R.fr R.sl w1 (hL.ext hb))
  have HM := Lib.hid (fun w1 (hb : Below w.heap.size w w1) => Meets_any H R t w1 (hR.ext hb))
  have HAS := Lib.hid (as_any H R.fr R.sl)
  obtain ⟨B, hB⟩ : ∃ B, heavyB R = B := ⟨_, rfl⟩
  rw [hB] at HH
  obtain ⟨⟨ea, ee⟩, he⟩ : ∃ p, easR L R.L = p := ⟨_, rfl⟩
  have HEA := Lib.hid (fun w1 (hb : Below w.heap.size w w1) => Easier_is (a := a) (n := n) (c := c) (b := H.tA) (m := H.tN) (d := H.tC) (hL.ext hb) ((hR.ext hb).rd.t) he)
  obtain ⟨⟨A, E⟩, hA⟩ : ∃ p, alwR R = p := ⟨_, rfl⟩
  rw [hA] at HA HRA
  obtain ⟨ac, hac⟩ : ∃ p, accE L R.fr R.sl = p := ⟨_, rfl⟩
  rw [hac] at HAC
  obtain ⟨⟨M, G⟩, hM⟩ : ∃ p, meetsR R t = p := ⟨_, rfl⟩
  rw [hM] at HM
  have hns := hL.length
  have key : (0 ≤ t ∧ t ≤ 2000) → ea = true → ee = 0 → A = true → E = 0 → ac = 0 → M = true ∧ G = 0 := by
    rintro h0 rfl rfl rfl rfl rfl
    have hrun : runB R = true := by
      unfold alwR at hA
      split at hA
      · assumption
      · exact absurd (congrArg Prod.fst hA) (by simp)
    have := short_meets hrun h0 hA he hac
    rw [hM] at this
    exact ⟨congrArg Prod.fst this, congrArg Prod.snd this⟩
  have HK := Lib.hid key
  obtain ⟨fr, hfr⟩ : ∃ x, R.fr = x := ⟨_, rfl⟩
  obtain ⟨sl_, hsl⟩ : ∃ x, R.sl = x := ⟨_, rfl⟩
  rw [hfr, hsl] at HH HA HRA HAC HM HAS ⊢
  obtain ⟨tA, tN, tC, eA, eN, eC, bA, bN, bC, sA, sN, sC⟩ := H
  unfold runV at HH HA HRA HM HAS ⊢
  simp only [] at HH HA HRA HAC HM HAS HEA ⊢
  clear hR hS hB hfr hsl hA hac hM key he hL hT hN
  cases B
  · by_cases q0 : 100 < n
    · have q0' : decide ((100 : Int) < (n : Int)) = true := by simp; omega
      go_enter Tryz.func5, Tryz.ntmps5
      go_wp2_with (first | (go_at_call 6; (with_reducible refine (HH.out _ (by (repeat' (first | (with_reducible exact Below.refl _ _) | (with_reducible assumption) | (with_reducible refine Below.alloc ?_ ?_ _) | (with_reducible refine Below.drew ?_) | (with_reducible refine Below.draws ?_ _) | (with_reducible refine Below.setCell ?_ ?_ _) | (refine Below.then ?_ (by with_reducible assumption)) | go_size)))).mono ?_); rintro e w1 ⟨rfl, hb1⟩; have B1 : Hid (Below w.heap.size w w1) := Lib.hid (Below.trans (by (repeat' (first | (with_reducible exact Below.refl _ _) | (with_reducible assumption) | (with_reducible refine Below.alloc ?_ ?_ _) | (with_reducible refine Below.drew ?_) | (with_reducible refine Below.draws ?_ _) | (with_reducible refine Below.setCell ?_ ?_ _) | (refine Below.then ?_ (by with_reducible assumption)) | go_size))) (hb1.mono (by simp))); have z1 : w.heap.size < w1.heap.size := Nat.lt_of_lt_of_le (by simp) hb1.size; have c1_0 := (hb1.cell (p := ⟨w.heap.size, 0, none⟩) (by simp)).trans (by simp [go_sem]; rfl); have c1_1 := (hb1.cell (p := ⟨w.heap.size, 1, none⟩) (by simp)).trans (by simp [go_sem]; rfl); have c1_2 := (hb1.cell (p := ⟨w.heap.size, 2, none⟩) (by simp)).trans (by simp [go_sem]; rfl); have c1_3 := (hb1.cell (p := ⟨w.heap.size, 3, none⟩) (by simp)).trans (by simp [go_sem]; rfl); have c1_4 := (hb1.cell (p := ⟨w.heap.size, 4, none⟩) (by simp)).trans (by simp [go_sem]; rfl); have c1_5 := (hb1.cell (p := ⟨w.heap.size, 5, none⟩) (by simp)).trans (by simp [go_sem]; rfl); clear hb1) | (go_at_call 7; (with_reducible refine (sane_any _).mono ?_); rintro e w9 ⟨rfl, hb9⟩))
      go_ret
      exact ⟨rfl, Below.then B1.out hb9⟩
    · have q0' : decide ((100 : Int) < (n : Int)) = false := by simp; omega
      by_cases q1 : t < 0
      · have q1' : decide (t < 0) = true := by simpa using q1
        go_enter Tryz.func5, Tryz.ntmps5
        go_wp2_with (first | (go_at_call 6; (with_reducible refine (HH.out _ (by (repeat' (first | (with_reducible exact Below.refl _ _) | (with_reducible assumption) | (with_reducible refine Below.alloc ?_ ?_ _) | (with_reducible refine Below.drew ?_) | (with_reducible refine Below.draws ?_ _) | (with_reducible refine Below.setCell ?_ ?_ _) | (refine Below.then ?_ (by with_reducible assumption)) | go_size)))).mono ?_); rintro e w1 ⟨rfl, hb1⟩; have B1 : Hid (Below w.heap.size w w1) := Lib.hid (Below.trans (by (repeat' (first | (with_reducible exact Below.refl _ _) | (with_reducible assumption) | (with_reducible refine Below.alloc ?_ ?_ _) | (with_reducible refine Below.drew ?_) | (with_reducible refine Below.draws ?_ _) | (with_reducible refine Below.setCell ?_ ?_ _) | (refine Below.then ?_ (by with_reducible assumption)) | go_size))) (hb1.mono (by simp))); have z1 : w.heap.size < w1.heap.size := Nat.lt_of_lt_of_le (by simp) hb1.size; have c1_0 := (hb1.cell (p := ⟨w.heap.size, 0, none⟩) (by simp)).trans (by simp [go_sem]; rfl); have c1_1 := (hb1.cell (p := ⟨w.heap.size, 1, none⟩) (by simp)).trans (by simp [go_sem]; rfl); have c1_2 := (hb1.cell (p := ⟨w.heap.size, 2, none⟩) (by simp)).trans (by simp [go_sem]; rfl); have c1_3 := (hb1.cell (p := ⟨w.heap.size, 3, none⟩) (by simp)).trans (by simp [go_sem]; rfl); have c1_4 := (hb1.cell (p := ⟨w.heap.size, 4, none⟩) (by simp)).trans (by simp [go_sem]; rfl); have c1_5 := (hb1.cell (p := ⟨w.heap.size, 5, none⟩) (by simp)).trans (by simp [go_sem]; rfl); clear hb1) | (go_at_call 7; (with_reducible refine (sane_any _).mono ?_); rintro e w9 ⟨rfl, hb9⟩))
        go_ret
        exact ⟨rfl, Below.then B1.out hb9⟩
      · have q1' : decide (t < 0) = false := by simpa using q1
        by_cases q2 : 2000 < t
        · have q2' : decide (2000 < t) = true := by simpa using q2
          go_enter Tryz.func5, Tryz.ntmps5
          go_wp2_with (first | (go_at_call 6; (with_reducible refine (HH.out _ (by (repeat' (first | (with_reducible exact Below.refl _ _) | (with_reducible assumption) | (with_reducible refine Below.alloc ?_ ?_ _) | (with_reducible refine Below.drew ?_) | (with_reducible refine Below.draws ?_ _) | (with_reducible refine Below.setCell ?_ ?_ _) | (refine Below.then ?_ (by with_reducible assumption)) | go_size)))).mono ?_); rintro e w1 ⟨rfl, hb1⟩; have B1 : Hid (Below w.heap.size w w1) := Lib.hid (Below.trans (by (repeat' (first | (with_reducible exact Below.refl _ _) | (with_reducible assumption) | (with_reducible refine Below.alloc ?_ ?_ _) | (with_reducible refine Below.drew ?_) | (with_reducible refine Below.draws ?_ _) | (with_reducible refine Below.setCell ?_ ?_ _) | (refine Below.then ?_ (by with_reducible assumption)) | go_size))) (hb1.mono (by simp))); have z1 : w.heap.size < w1.heap.size := Nat.lt_of_lt_of_le (by simp) hb1.size; have c1_0 := (hb1.cell (p := ⟨w.heap.size, 0, none⟩) (by simp)).trans (by simp [go_sem]; rfl); have c1_1 := (hb1.cell (p := ⟨w.heap.size, 1, none⟩) (by simp)).trans (by simp [go_sem]; rfl); have c1_2 := (hb1.cell (p := ⟨w.heap.size, 2, none⟩) (by simp)).trans (by simp [go_sem]; rfl); have c1_3 := (hb1.cell (p := ⟨w.heap.size, 3, none⟩) (by simp)).trans (by simp [go_sem]; rfl); have c1_4 := (hb1.cell (p := ⟨w.heap.size, 4, none⟩) (by simp)).trans (by simp [go_sem]; rfl); have c1_5 := (hb1.cell (p := ⟨w.heap.size, 5, none⟩) (by simp)).trans (by simp [go_sem]; rfl); clear hb1) | (go_at_call 7; (with_reducible refine (sane_any _).mono ?_); rintro e w9 ⟨rfl, hb9⟩))
          go_ret
          exact ⟨rfl, Below.then B1.out hb9⟩
        · have q2' : decide (2000 < t) = false := by simpa using q2
          have hk := HK.out ⟨by omega, by omega⟩
          have HK2 := Lib.hid hk
          clear hk HK
          have arms : (ee ≠ 0 ∨ E ≠ 0 ∨ ea = false ∨ A = false) ∨ (ee = 0 ∧ E = 0 ∧ ea = true ∧ A = true) := by
            by_cases h1 : ee = 0
            · by_cases h2 : E = 0
              · cases ea <;> cases A <;> simp [h1, h2]
              · simp [h2]
            · simp [h1]
          rcases arms with h | ⟨rfl, rfl, rfl, rfl⟩
          · have b0 : ((ee != 0) = true) ∨ ((ee != 0) = false ∧ (E != 0) = true) ∨ ((ee != 0) = false ∧ (E != 0) = false ∧ ea = false) ∨ ((ee != 0) = false ∧ (E != 0) = false ∧ ea = true ∧ A = false) := by
              by_cases h1 : ee = 0
              · by_cases h2 : E = 0
                · cases ea
                  · simp [h1, h2]
                  · cases A
                    · simp [h1, h2]
                    · simp [h1, h2] at h
                · simp [h1, h2]
              · simp [h1]
            clear h
            rcases b0 with b1 | ⟨b1, b2⟩ | ⟨b1, b2, rfl⟩ | ⟨b1, b2, rfl, rfl⟩
            all_goals
              go_enter Tryz.func5, Tryz.ntmps5
              go_wp2_with (first | (go_at_call 6; (with_reducible refine (HH.out _ (by (repeat' (first | (with_reducible exact Below.refl _ _) | (with_reducible assumption) | (with_reducible refine Below.alloc ?_ ?_ _) | (with_reducible refine Below.drew ?_) | (with_reducible refine Below.draws ?_ _) | (with_reducible refine Below.setCell ?_ ?_ _) | (refine Below.then ?_ (by with_reducible assumption)) | go_size)))).mono ?_); rintro e w1 ⟨rfl, hb1⟩; have B1 : Hid (Below w.heap.size w w1) := Lib.hid (Below.trans (by (repeat' (first | (with_reducible exact Below.refl _ _) | (with_reducible assumption) | (with_reducible refine Below.alloc ?_ ?_ _) | (with_reducible refine Below.drew ?_) | (with_reducible refine Below.draws ?_ _) | (with_reducible refine Below.setCell ?_ ?_ _) | (refine Below.then ?_ (by with_reducible assumption)) | go_size))) (hb1.mono (by simp))); have z1 : w.heap.size < w1.heap.size := Nat.lt_of_lt_of_le (by simp) hb1.size; have c1_0 := (hb1.cell (p := ⟨w.heap.size, 0, none⟩) (by simp)).trans (by simp [go_sem]; rfl); have c1_1 := (hb1.cell (p := ⟨w.heap.size, 1, none⟩) (by simp)).trans (by simp [go_sem]; rfl); have c1_2 := (hb1.cell (p := ⟨w.heap.size, 2, none⟩) (by simp)).trans (by simp [go_sem]; rfl); have c1_3 := (hb1.cell (p := ⟨w.heap.size, 3, none⟩) (by simp)).trans (by simp [go_sem]; rfl); have c1_4 := (hb1.cell (p := ⟨w.heap.size, 4, none⟩) (by simp)).trans (by simp [go_sem]; rfl); have c1_5 := (hb1.cell (p := ⟨w.heap.size, 5, none⟩) (by simp)).trans (by simp [go_sem]; rfl); clear hb1) | (go_at_call 12; (with_reducible refine (HRA.out _ B5.out).mono ?_); rintro e w6 ⟨rfl, hb6⟩; have B6 := Lib.hid (Below.then B5.out hb6); clear hb6) | (go_at_call 10; (with_reducible refine (HAS.out _).mono ?_); rintro e w5 ⟨rfl, hb5⟩; have B5 := Lib.hid (Below.then B3.out hb5); clear hb5) | (go_at_call 11; (with_reducible refine (HA.out _ B2.out).mono ?_); rintro e w3 ⟨rfl, hb3⟩; have B3 := Lib.hid (Below.then B2.out hb3); have z3 : w.heap.size < w3.heap.size := Nat.lt_of_lt_of_le z2 hb3.size; have c3_0 := (hb3.cell (p := ⟨w.heap.size, 0, none⟩) z2).trans c2_0; have c3_1 := (hb3.cell (p := ⟨w.heap.size, 1, none⟩) z2).trans c2_1; have c3_2 := (hb3.cell (p := ⟨w.heap.size, 2, none⟩) z2).trans c2_2; have c3_3 := (hb3.cell (p := ⟨w.heap.size, 3, none⟩) z2).trans c2_3; have c3_4 := (hb3.cell (p := ⟨w.heap.size, 4, none⟩) z2).trans c2_4; have c3_5 := (hb3.cell (p := ⟨w.heap.size, 5, none⟩) z2).trans c2_5; clear hb3 c2_0 c2_1 c2_2 c2_3 c2_4 c2_5) | (go_at_call 15; (with_reducible refine (HEA.out _ B1.out).mono ?_); rintro e w2 ⟨rfl, hb2⟩; have B2 := Lib.hid (Below.then B1.out hb2); have z2 : w.heap.size < w2.heap.size := Nat.lt_of_lt_of_le z1 hb2.size; have c2_0 := (hb2.cell (p := ⟨w.heap.size, 0, none⟩) z1).trans c1_0; have c2_1 := (hb2.cell (p := ⟨w.heap.size, 1, none⟩) z1).trans c1_1; have c2_2 := (hb2.cell (p := ⟨w.heap.size, 2, none⟩) z1).trans c1_2; have c2_3 := (hb2.cell (p := ⟨w.heap.size, 3, none⟩) z1).trans c1_3; have c2_4 := (hb2.cell (p := ⟨w.heap.size, 4, none⟩) z1).trans c1_4; have c2_5 := (hb2.cell (p := ⟨w.heap.size, 5, none⟩) z1).trans c1_5; clear hb2 c1_0 c1_1 c1_2 c1_3 c1_4 c1_5) | (go_at_call 7; (with_reducible refine (sane_any _).mono ?_); rintro e w9 ⟨rfl, hb9⟩))
              go_ret
              exact ⟨rfl, Below.then B6.out hb9⟩
          · by_cases h0 : ac = 0
            · subst h0
              obtain ⟨rfl, rfl⟩ := HK2.out rfl rfl rfl rfl rfl
              go_enter Tryz.func5, Tryz.ntmps5
              go_wp2_with (first | (go_at_call 6; (with_reducible refine (HH.out _ (by (repeat' (first | (with_reducible exact Below.refl _ _) | (with_reducible assumption) | (with_reducible refine Below.alloc ?_ ?_ _) | (with_reducible refine Below.drew ?_) | (with_reducible refine Below.draws ?_ _) | (with_reducible refine Below.setCell ?_ ?_ _) | (refine Below.then ?_ (by with_reducible assumption)) | go_size)))).mono ?_); rintro e w1 ⟨rfl, hb1⟩; have B1 : Hid (Below w.heap.size w w1) := Lib.hid (Below.trans (by (repeat' (first | (with_reducible exact Below.refl _ _) | (with_reducible assumption) | (with_reducible refine Below.alloc ?_ ?_ _) | (with_reducible refine Below.drew ?_) | (with_reducible refine Below.draws ?_ _) | (with_reducible refine Below.setCell ?_ ?_ _) | (refine Below.then ?_ (by with_reducible assumption)) | go_size))) (hb1.mono (by simp))); have z1 : w.heap.size < w1.heap.size := Nat.lt_of_lt_of_le (by simp) hb1.size; have c1_0 := (hb1.cell (p := ⟨w.heap.size, 0, none⟩) (by simp)).trans (by simp [go_sem]; rfl); have c1_1 := (hb1.cell (p := ⟨w.heap.size, 1, none⟩) (by simp)).trans (by simp [go_sem]; rfl); have c1_2 := (hb1.cell (p := ⟨w.heap.size, 2, none⟩) (by simp)).trans (by simp [go_sem]; rfl); have c1_3 := (hb1.cell (p := ⟨w.heap.size, 3, none⟩) (by simp)).trans (by simp [go_sem]; rfl); have c1_4 := (hb1.cell (p := ⟨w.heap.size, 4, none⟩) (by simp)).trans (by simp [go_sem]; rfl); have c1_5 := (hb1.cell (p := ⟨w.heap.size, 5, none⟩) (by simp)).trans (by simp [go_sem]; rfl); clear hb1) | (go_at_call 14; (with_reducible refine (HM.out _ B4.out).mono ?_); rintro e w6 ⟨rfl, hb6⟩; have B6 := Lib.hid (Below.then B4.out hb6); clear hb6) | (go_at_call 13; (with_reducible refine (HAC.out _ (by first | exact B3.out | exact B3.out.drew)).mono ?_); rintro e w4 ⟨rfl, hb4x⟩; have hb4 : Below w3.heap.size w3 w4 := (by first | exact hb4x | exact Below.then (Below.refl w3.heap.size w3).drew hb4x); clear hb4x; have B4 := Lib.hid (Below.then B3.out hb4); have z4 : w.heap.size < w4.heap.size := Nat.lt_of_lt_of_le z3 hb4.size; have c4_0 := (hb4.cell (p := ⟨w.heap.size, 0, none⟩) z3).trans c3_0; have c4_1 := (hb4.cell (p := ⟨w.heap.size, 1, none⟩) z3).trans c3_1; have c4_2 := (hb4.cell (p := ⟨w.heap.size, 2, none⟩) z3).trans c3_2; have c4_3 := (hb4.cell (p := ⟨w.heap.size, 3, none⟩) z3).trans c3_3; have c4_4 := (hb4.cell (p := ⟨w.heap.size, 4, none⟩) z3).trans c3_4; have c4_5 := (hb4.cell (p := ⟨w.heap.size, 5, none⟩) z3).trans c3_5; clear hb4 c3_0 c3_1 c3_2 c3_3 c3_4 c3_5) | (go_at_call 11; (with_reducible refine (HA.out _ B2.out).mono ?_); rintro e w3 ⟨rfl, hb3⟩; have B3 := Lib.hid (Below.then B2.out hb3); have z3 : w.heap.size < w3.heap.size := Nat.lt_of_lt_of_le z2 hb3.size; have c3_0 := (hb3.cell (p := ⟨w.heap.size, 0, none⟩) z2).trans c2_0; have c3_1 := (hb3.cell (p := ⟨w.heap.size, 1, none⟩) z2).trans c2_1; have c3_2 := (hb3.cell (p := ⟨w.heap.size, 2, none⟩) z2).trans c2_2; have c3_3 := (hb3.cell (p := ⟨w.heap.size, 3, none⟩) z2).trans c2_3; have c3_4 := (hb3.cell (p := ⟨w.heap.size, 4, none⟩) z2).trans c2_4; have c3_5 := (hb3.cell (p := ⟨w.heap.size, 5, none⟩) z2).trans c2_5; clear hb3 c2_0 c2_1 c2_2 c2_3 c2_4 c2_5) | (go_at_call 15; (with_reducible refine (HEA.out _ B1.out).mono ?_); rintro e w2 ⟨rfl, hb2⟩; have B2 := Lib.hid (Below.then B1.out hb2); have z2 : w.heap.size < w2.heap.size := Nat.lt_of_lt_of_le z1 hb2.size; have c2_0 := (hb2.cell (p := ⟨w.heap.size, 0, none⟩) z1).trans c1_0; have c2_1 := (hb2.cell (p := ⟨w.heap.size, 1, none⟩) z1).trans c1_1; have c2_2 := (hb2.cell (p := ⟨w.heap.size, 2, none⟩) z1).trans c1_2; have c2_3 := (hb2.cell (p := ⟨w.heap.size, 3, none⟩) z1).trans c1_3; have c2_4 := (hb2.cell (p := ⟨w.heap.size, 4, none⟩) z1).trans c1_4; have c2_5 := (hb2.cell (p := ⟨w.heap.size, 5, none⟩) z1).trans c1_5; clear hb2 c1_0 c1_1 c1_2 c1_3 c1_4 c1_5) | (go_at_call 7; (with_reducible refine (sane_any _).mono ?_); rintro e w9 ⟨rfl, hb9⟩))
              go_ret
              exact ⟨rfl, Below.then B6.out hb9⟩
            · have h0' : (ac != 0) = true := by simpa using h0
              go_enter Tryz.func5, Tryz.ntmps5
              go_wp2_with (first | (go_at_call 6; (with_reducible refine (HH.out _ (by (repeat' (first | (with_reducible exact Below.refl _ _) | (with_reducible assumption) | (with_reducible refine Below.alloc ?_ ?_ _) | (with_reducible refine Below.drew ?_) | (with_reducible refine Below.draws ?_ _) | (with_reducible refine Below.setCell ?_ ?_ _) | (refine Below.then ?_ (by with_reducible assumption)) | go_size)))).mono ?_); rintro e w1 ⟨rfl, hb1⟩; have B1 : Hid (Below w.heap.size w w1) := Lib.hid (Below.trans (by (repeat' (first | (with_reducible exact Below.refl _ _) | (with_reducible assumption) | (with_reducible refine Below.alloc ?_ ?_ _) | (with_reducible refine Below.drew ?_) | (with_reducible refine Below.draws ?_ _) | (with_reducible refine Below.setCell ?_ ?_ _) | (refine Below.then ?_ (by with_reducible assumption)) | go_size))) (hb1.mono (by simp))); have z1 : w.heap.size < w1.heap.size := Nat.lt_of_lt_of_le (by simp) hb1.size; have c1_0 := (hb1.cell (p := ⟨w.heap.size, 0, none⟩) (by simp)).trans (by simp [go_sem]; rfl); have c1_1 := (hb1.cell (p := ⟨w.heap.size, 1, none⟩) (by simp)).trans (by simp [go_sem]; rfl); have c1_2 := (hb1.cell (p := ⟨w.heap.size, 2, none⟩) (by simp)).trans (by simp [go_sem]; rfl); have c1_3 := (hb1.cell (p := ⟨w.heap.size, 3, none⟩) (by simp)).trans (by simp [go_sem]; rfl); have c1_4 := (hb1.cell (p := ⟨w.heap.size, 4, none⟩) (by simp)).trans (by simp [go_sem]; rfl); have c1_5 := (hb1.cell (p := ⟨w.heap.size, 5, none⟩) (by simp)).trans (by simp [go_sem]; rfl); clear hb1) | (go_at_call 12; (with_reducible refine (HRA.out _ B5.out).mono ?_); rintro e w6 ⟨rfl, hb6⟩; have B6 := Lib.hid (Below.then B5.out hb6); clear hb6) | (go_at_call 10; (with_reducible refine (HAS.out _).mono ?_); rintro e w5 ⟨rfl, hb5⟩; have B5 := Lib.hid (Below.then B4.out hb5); clear hb5) | (go_at_call 13; (with_reducible refine (HAC.out _ (by first | exact B3.out | exact B3.out.drew)).mono ?_); rintro e w4 ⟨rfl, hb4x⟩; have hb4 : Below w3.heap.size w3 w4 := (by first | exact hb4x | exact Below.then (Below.refl w3.heap.size w3).drew hb4x); clear hb4x; have B4 := Lib.hid (Below.then B3.out hb4); have z4 : w.heap.size < w4.heap.size := Nat.lt_of_lt_of_le z3 hb4.size; have c4_0 := (hb4.cell (p := ⟨w.heap.size, 0, none⟩) z3).trans c3_0; have c4_1 := (hb4.cell (p := ⟨w.heap.size, 1, none⟩) z3).trans c3_1; have c4_2 := (hb4.cell (p := ⟨w.heap.size, 2, none⟩) z3).trans c3_2; have c4_3 := (hb4.cell (p := ⟨w.heap.size, 3, none⟩) z3).trans c3_3; have c4_4 := (hb4.cell (p := ⟨w.heap.size, 4, none⟩) z3).trans c3_4; have c4_5 := (hb4.cell (p := ⟨w.heap.size, 5, none⟩) z3).trans c3_5; clear hb4 c3_0 c3_1 c3_2 c3_3 c3_4 c3_5) | (go_at_call 11; (with_reducible refine (HA.out _ B2.out).mono ?_); rintro e w3 ⟨rfl, hb3⟩; have B3 := Lib.hid (Below.then B2.out hb3); have z3 : w.heap.size < w3.heap.size := Nat.lt_of_lt_of_le z2 hb3.size; have c3_0 := (hb3.cell (p := ⟨w.heap.size, 0, none⟩) z2).trans c2_0; have c3_1 := (hb3.cell (p := ⟨w.heap.size, 1, none⟩) z2).trans c2_1; have c3_2 := (hb3.cell (p := ⟨w.heap.size, 2, none⟩) z2).trans c2_2; have c3_3 := (hb3.cell (p := ⟨w.heap.size, 3, none⟩) z2).trans c2_3; have c3_4 := (hb3.cell (p := ⟨w.heap.size, 4, none⟩) z2).trans c2_4; have c3_5 := (hb3.cell (p := ⟨w.heap.size, 5, none⟩) z2).trans c2_5; clear hb3 c2_0 c2_1 c2_2 c2_3 c2_4 c2_5) | (go_at_call 15; (with_reducible refine (HEA.out _ B1.out).mono ?_); rintro e w2 ⟨rfl, hb2⟩; have B2 := Lib.hid (Below.then B1.out hb2); have z2 : w.heap.size < w2.heap.size := Nat.lt_of_lt_of_le z1 hb2.size; have c2_0 := (hb2.cell (p := ⟨w.heap.size, 0, none⟩) z1).trans c1_0; have c2_1 := (hb2.cell (p := ⟨w.heap.size, 1, none⟩) z1).trans c1_1; have c2_2 := (hb2.cell (p := ⟨w.heap.size, 2, none⟩) z1).trans c1_2; have c2_3 := (hb2.cell (p := ⟨w.heap.size, 3, none⟩) z1).trans c1_3; have c2_4 := (hb2.cell (p := ⟨w.heap.size, 4, none⟩) z1).trans c1_4; have c2_5 := (hb2.cell (p := ⟨w.heap.size, 5, none⟩) z1).trans c1_5; clear hb2 c1_0 c1_1 c1_2 c1_3 c1_4 c1_5) | (go_at_call 7; (with_reducible refine (sane_any _).mono ?_); rintro e w9 ⟨rfl, hb9⟩))
              go_ret
              exact ⟨rfl, Below.then B6.out hb9⟩
  · go_enter Tryz.func5, Tryz.ntmps5
    go_wp2_with (first | (go_at_call 6; (with_reducible refine (HH.out _ (by (repeat' (first | (with_reducible exact Below.refl _ _) | (with_reducible assumption) | (with_reducible refine Below.alloc ?_ ?_ _) | (with_reducible refine Below.drew ?_) | (with_reducible refine Below.draws ?_ _) | (with_reducible refine Below.setCell ?_ ?_ _) | (refine Below.then ?_ (by with_reducible assumption)) | go_size)))).mono ?_); rintro e w1 ⟨rfl, hb1⟩; have B1 : Hid (Below w.heap.size w w1) := Lib.hid (Below.trans (by (repeat' (first | (with_reducible exact Below.refl _ _) | (with_reducible assumption) | (with_reducible refine Below.alloc ?_ ?_ _) | (with_reducible refine Below.drew ?_) | (with_reducible refine Below.draws ?_ _) | (with_reducible refine Below.setCell ?_ ?_ _) | (refine Below.then ?_ (by with_reducible assumption)) | go_size))) (hb1.mono (by simp))); have z1 : w.heap.size < w1.heap.size := Nat.lt_of_lt_of_le (by simp) hb1.size; have c1_0 := (hb1.cell (p := ⟨w.heap.size, 0, none⟩) (by simp)).trans (by simp [go_sem]; rfl); have c1_1 := (hb1.cell (p := ⟨w.heap.size, 1, none⟩) (by simp)).trans (by simp [go_sem]; rfl); have c1_2 := (hb1.cell (p := ⟨w.heap.size, 2, none⟩) (by simp)).trans (by simp [go_sem]; rfl); have c1_3 := (hb1.cell (p := ⟨w.heap.size, 3, none⟩) (by simp)).trans (by simp [go_sem]; rfl); have c1_4 := (hb1.cell (p := ⟨w.heap.size, 4, none⟩) (by simp)).trans (by simp [go_sem]; rfl); have c1_5 := (hb1.cell (p := ⟨w.heap.size, 5, none⟩) (by simp)).trans (by simp [go_sem]; rfl); clear hb1) | (go_at_call 7; (with_reducible refine (sane_any _).mono ?_); rintro e w9 ⟨rfl, hb9⟩))
    go_ret
    exact ⟨rfl, Below.then B1.out hb9⟩
end Go.Proofs.YtlhnhmimhpcoaaaGreat
