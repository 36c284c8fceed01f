/- Work behind a job while it is there is at most its blocking. No condition: plain lemmas. All work behind a job while it is there is of one piece of one job. No condition: plain lemmas. The contract of onceB. The conditions: entries and places read as named; the work behind is of one key. Contracts of slices.IndexFunc and slices.ContainsFunc at events and at lists of events. The conditions: what is asked of the predicate's calls. Contracts of arrive.check and of its reference's listed. The conditions: the lists read as the lists named. Contracts of Allowed, of its reference, of pairs and of own. The conditions: the lists read as the lists named. The contract of eventsB: events that a pattern allows. The conditions: the list reads as named, the pattern is one. The contract of many: where it says no, the tasks are few. The conditions: the tasks read as named. The contracts of readyB and runB. The conditions: the tasks and the lists read as named; the tasks are valid. The contract of runB: a run of tasks under events that their patterns allow. The conditions: the tasks and the lists read as named; the tasks are valid. -/
import Derived.Test.YtmahagcghpoekaaMg2
import Derived.Test.YtmahagcghpoekaaMg8
import Derived.Shelf.GgClosure.Gives
import Derived.Test.YtmahagcghpoekaaMg5
import Derived.Laws.EntriesVeiled
import Derived.Test.YtmahagcghpoekaaMg3
import Derived.Deep.RegionHeld3
import Derived.BigRegion
import Derived.Deep.Cut
import Derived.Test.YtmahagcghpoekaaMg4
import Derived.Test.YtmahagcghpoekaaMg6
import Derived.Test.YtmahagcghpoekaaMg7
namespace Go.Proofs.Ytmahagcghpoekaa
open Go.RowKit
set_option linter.unusedSimpArgs false
set_option linter.unusedVariables false
def bhd (L : List Ta) (i : Nat) (k : Int) : Bool := decide (cnt L i < cnt L k)
def blkC (L : List Ta) (i : Nat) (r E : Int) (o : List En) : Int := cntE (blkE (bhd L i) r E) o
theorem cntE_eq {p q : En → Bool} : ∀ (a : List En), (∀ e ∈ a, p e = q e) → cntE p a = cntE q a
  | [], _ => rfl
  | e :: a, h => by rw [cntE, cntE, h e (by simp), cntE_eq a (fun x hx => h x (by simp [hx]))]
theorem blkE_no4 {b : Int → Bool} {r E : Int} {e : En} (h : e.w ≠ 4) : blkE b r E e = false := by unfold blkE; rw [decide_eq_false h]; rfl
theorem blkC_app {L : List Ta} {i : Nat} {r E : Int} (o l : List En) (h : ∀ e ∈ l, e.w ≠ 4) : blkC L i r E (o ++ l) = blkC L i r E o := by
  unfold blkC
  rw [cntE_app, cntE_none _ l (fun e he => blkE_no4 (h e he))]; omega
theorem blkC_early {L : List Ta} {i : Nat} {r E : Int} {o : List En} (h : ∀ e ∈ o, e.w = 4 → e.m < r) : blkC L i r E o = 0 := by
  unfold blkC
  refine cntE_none _ _ (fun e he => ?_)
  by_cases h4 : e.w = 4
  · unfold blkE
    have : ¬ r ≤ e.m := by have := h e he h4; omega
    simp [this]
  · exact blkE_no4 h4
/-- the end does not matter while all work lies ahead of it -/
theorem blkC_end {L : List Ta} {i : Nat} {r E E' : Int} {o : List En} (h1 : ∀ e ∈ o, e.w = 4 → E < 0 ∨ e.m < E) (h2 : ∀ e ∈ o, e.w = 4 → E' < 0 ∨ e.m < E') : blkC L i r E o = blkC L i r E' o := by
  unfold blkC
  refine cntE_eq _ (fun e he => ?_)
  by_cases h4 : e.w = 4
  · unfold blkE
    have a : (decide (E < 0) || decide (e.m < E)) = true := by have := h1 e he h4; simpa using this
    have b : (decide (E' < 0) || decide (e.m < E')) = true := by have := h2 e he h4; simpa using this
    rw [a, b]
  · rw [blkE_no4 h4, blkE_no4 h4]
structure BI (R : Rn) (i : Nat) (x r : Int) (s : Ms) : Prop where
  a : endF s.o i x < 0 → ∃ b, BkOk R.L s i b ∧ blkC R.L i r (-1) s.o + b ≤ blockN R.L i
  b : 0 ≤ endF s.o i x → blkC R.L i r (endF s.o i x) s.o ≤ blockN R.L i
section
variable {R : Rn} {i : Nat} {x r : Int} {s s' : Ms}
/-- entries without work and without ends; jobs as they were, or over -/
theorem BI.of (h : BI R i x r s) {l : List En} (ho : s'.o = s.o ++ l) (hl : ∀ e ∈ l, e.w ≠ 4 ∧ e.w ≠ 5) (e : ∀ y, y < R.L.length → ((s'.ja y).p = (s.ja y).p ∧ (s'.ja y).t = (s.ja y).t) ∨ s'.ja y = Jb.zero) : BI R i x r s' := by
  have he : endF s'.o i x = endF s.o i x := by rw [ho]; exact endF_app _ _ _ _ (fun e q r => (hl e q).2 r.1)
  have hc : ∀ E, blkC R.L i r E s'.o = blkC R.L i r E s.o := fun E => by rw [ho]; exact blkC_app _ _ (fun e q => (hl e q).1)
  refine ⟨fun h0 => ?_, fun h0 => ?_⟩
  · rw [he] at h0
    obtain ⟨b, h1, h2⟩ := h.a h0
    exact ⟨b, h1.of e, by rw [hc]; exact h2⟩
  · rw [he] at h0 ⊢
    rw [hc]; exact h.b h0
/-- a job is over at T: all work lies ahead of T -/
theorem BI.fin {T : Int} {at_ : List Nat} (h : BI R i x r s) (hm : MOk R s) (hE : EI R T s at_) {k a : Nat} {how : Int} (hk : k < R.L.length) (ha : at_[k]? = some a) (hx : (ordE (evA R k))[a]? = some (s.hd k)) : BI R i x r (fin1 T k how s) := by
  have ho : (fin1 T k how s).o = s.o ++ [⟨T, k, 5, s.hd k, how⟩] := rfl
  have hc : ∀ E, blkC R.L i r E (fin1 T k how s).o = blkC R.L i r E s.o := fun E => by rw [ho]; exact blkC_app _ _ (fun e q => by simp at q; subst q; simp)
  have hj := fun y => fin_ja (m := T) (how := how) (i := k) (k := y) (s := s) (by rw [hm.jl]; exact hk)
  have e : ∀ y, y < R.L.length → (((fin1 T k how s).ja y).p = (s.ja y).p ∧ ((fin1 T k how s).ja y).t = (s.ja y).t) ∨ (fin1 T k how s).ja y = Jb.zero := fun y _ => by
    rw [hj]
    by_cases q : y = k
    · rw [if_pos q]; exact .inr rfl
    · rw [if_neg q]; exact .inl ⟨rfl, rfl⟩
  by_cases q : k = i ∧ s.hd k = x
  · obtain ⟨rfl, q2⟩ := q
    have h0 : endF s.o k x = -1 := hE.new k a a x ha (by rw [hx, q2]) (Nat.le_refl _)
    have h1 : endF (fin1 T k how s).o k x = T := by
      rw [ho, endF_one]; unfold endG; rw [if_pos ⟨rfl, rfl, q2⟩]
    have hT := hE.pos
    refine ⟨fun h2 => by omega, fun _ => ?_⟩
    rw [h1, hc]
    obtain ⟨b, g1, g2⟩ := h.a (by omega)
    have := g1.pos
    have e2 : blkC R.L k r T s.o = blkC R.L k r (-1) s.o := blkC_end (fun e he w => .inr ((hE.okm e he).2.2 (.inr w))) (fun e he w => .inl (by omega))
    rw [e2]; omega
  · have h1 : endF (fin1 T k how s).o i x = endF s.o i x := by
      rw [ho, endF_one]; unfold endG
      rw [if_neg]
      rintro ⟨_, g1, g2⟩
      simp only [] at g1 g2
      exact q ⟨by omega, g2⟩
    refine ⟨fun h2 => ?_, fun h2 => ?_⟩
    · rw [h1] at h2
      obtain ⟨b, g1, g2⟩ := h.a h2
      exact ⟨b, g1.of e, by rw [hc]; exact g2⟩
    · rw [h1] at h2 ⊢
      rw [hc]; exact h.b h2
theorem wkA_o4 (R : Rn) (t : Int) (y : Nat) (s : Ms) : ∃ l2, (wkA R t y s).o = s.o ++ (⟨t, y, 4, (s.ja y).p, s.hd y⟩ :: l2) ∧ (∀ e ∈ l2, e.w ≠ 4) ∧ ((∀ e ∈ l2, e.w ≠ 5) ∨ l2 = [⟨t + 1, y, 5, s.hd y, 0⟩]) := by
  rw [wkA_cases]
  split
  · exact ⟨[⟨t + 1, y, 5, s.hd y, 0⟩], by simp [fin1, wk1]; rfl, fun e he => by simp at he; subst he; simp, .inr rfl⟩
  · split
    · exact ⟨[⟨t + 1, y, 6, s.hd y, 0⟩], by simp [wk2], fun e he => by simp at he; subst he; simp, .inl (fun e he => by simp at he; subst he; simp)⟩
    · exact ⟨[], by simp [wk1], fun e he => by simp at he, .inl (fun e he => by simp at he)⟩
theorem BI.work {t : Int} {at_ : List Nat} {y a : Nat} {xn : Nat} (h : BI R i xn r s) (hr : RnOk R) (hi : i < R.L.length) (hxl : xn < (evA R i).length) (hrel : relT (evA R i) xn = r) (hm : MOk R s) (hq : QR R t s at_) (hE : EI R t s at_) (hch : Chosen R s y) (ha : at_[y]? = some a) : BI R i xn r (wkA R t y s) := by
  have hx := hq.event ha hch.rd
  have hT := hE.pos
  obtain ⟨l2, ho, h4, h5⟩ := wkA_o4 R t y s
  have hmo := hm.wkA hr t hch.lt hch.le hch.rd
  -- the count
  have hone : ∀ E, blkC R.L i r E (wkA R t y s).o = blkC R.L i r E s.o + (if blkE (bhd R.L i) r E ⟨t, y, 4, (s.ja y).p, s.hd y⟩ = true then 1 else 0) := fun E => by
    unfold blkC
    rw [ho, cntE_app, cntE, cntE_none _ l2 (fun e he => blkE_no4 (h4 e he))]; omega
  have hend : endF (wkA R t y s).o i xn = endF s.o i xn ∨ (y = i ∧ s.hd y = xn ∧ endF s.o i xn = -1 ∧ endF (wkA R t y s).o i xn = t + 1) := by
    rcases h5 with h5 | rfl
    · left
      rw [ho]
      exact endF_app _ _ _ _ (fun e he q => by
        rcases List.mem_cons.1 he with rfl | he
        · simp at q
        · exact h5 e he q.1)
    · have e1 : endF (wkA R t y s).o i xn = endG i xn (endF s.o i xn) ⟨t + 1, y, 5, s.hd y, 0⟩ := by
        rw [ho, List.append_cons, endF_one]
        congr 1
        exact endF_app _ _ _ _ (fun e he q => by simp at he; subst he; simp at q)
      by_cases q : y = i ∧ s.hd y = xn
      · right
        refine ⟨q.1, q.2, ?_, ?_⟩
        · obtain ⟨rfl, q2⟩ := q
          exact hE.new y a a _ ha (by rw [hx, q2]) (Nat.le_refl _)
        · rw [e1]; unfold endG; rw [if_pos ⟨rfl, by simp only []; omega, q.2⟩]
      · left
        rw [e1]; unfold endG
        rw [if_neg]
        rintro ⟨_, g1, g2⟩
        simp only [] at g1 g2
        exact q ⟨by omega, g2⟩
  -- what the tick does while the job is not over
  have hopen : endF s.o i xn < 0 → ∃ b, BkOk R.L (wkA R t y s) i b ∧ blkC R.L i r (-1) (wkA R t y s).o + b ≤ blockN R.L i := by
    intro h0
    rcases Int.lt_or_le t r with htr | htr
    · refine ⟨_, BkOk.start hmo hr hi, ?_⟩
      rw [blkC_early (fun e he w => ?_)]
      · omega
      · rw [ho] at he
        rcases List.mem_append.1 he with he | he
        · have := (hE.okm e he).2.2 (.inr w); omega
        · rcases List.mem_cons.1 he with rfl | he
          · exact htr
          · exact absurd w (h4 e he)
    · obtain ⟨b, h1, h2⟩ := h.a h0
      have hqi : s.qa i ≠ [] := fun q => by
        have := idle_ends hq hE hi q hxl (by rw [hrel]; exact htr)
        omega
      rw [hone]
      by_cases hyb : cnt R.L i < cnt R.L y
      · have hbk := hch.blk hm hi hqi (Nat.le_refl _) hyb
        refine ⟨b - 1, h1.back hm hbk, ?_⟩
        split <;> omega
      · refine ⟨b, h1.fore hm hch.lt (by omega), ?_⟩
        rw [if_neg]
        · omega
        · unfold blkE bhd
          simp only []
          rw [decide_eq_false hyb]; simp
  refine ⟨fun h0 => ?_, fun h0 => ?_⟩
  · rcases hend with e | ⟨_, _, _, e⟩
    · rw [e] at h0; exact hopen h0
    · omega
  · rcases hend with e | ⟨rfl, q2, q3, e⟩
    · rw [e] at h0 ⊢
      rw [hone]
      have hle : endF s.o i xn ≤ t := by
        obtain ⟨j, hj⟩ := List.getElem?_of_mem (ordE_mem (l := evA R i).2 ⟨show (0 : Int) ≤ (xn : Int) by omega, by omega⟩)
        have hil : i < at_.length := by rw [hq.len]; exact hi
        have ha' := List.getElem?_eq_getElem hil
        rcases Nat.lt_or_ge j at_[i] with g | g
        · exact (hE.old i _ j _ ha' hj g).2
        · have := hE.new i _ j _ ha' hj g; omega
      rw [if_neg]
      · have := h.b h0; omega
      · unfold blkE
        simp only []
        rw [show (decide (endF s.o i xn < 0) || decide (t < endF s.o i xn)) = false by simp; omega]; simp
    · obtain ⟨b, g1, g2⟩ := hopen (by omega)
      have := g1.pos
      rw [e]
      have e2 : blkC R.L y r (t + 1) (wkA R t y s).o = blkC R.L y r (-1) (wkA R t y s).o := blkC_end (fun e he w => .inr (by
        rw [ho] at he
        rcases List.mem_append.1 he with he | he
        · have := (hE.okm e he).2.2 (.inr w); omega
        · rcases List.mem_cons.1 he with rfl | he
          · simp only []; omega
          · exact absurd w (h4 e he))) (fun e he w => .inl (by omega))
      rw [e2]; omega
end
theorem blk_steps {R : Rn} (hr : RnOk R) {i x : Nat} (hi : i < R.L.length) (hx : x < (evA R i).length) :
    Steps R (fun t s at_ => EI R t s at_ ∧ BI R i x (relT (evA R i) x) s) (fun t s at_ => EI R (t + 1) s at_ ∧ BI R i x (relT (evA R i) x) s) := by
  have hE := ends_steps hr
  refine ⟨?_, ?_, ?_, ?_, ?_, ?_, ?_, ?_⟩
  · intro t s at_ hm hq hp
    obtain ⟨l, h1, h2⟩ := relA_newE t R.ev 0 s
    exact ⟨hE.rel t s at_ hm hq hp.1, hp.2.of h1 (fun e q => by rw [(h2 e q).2]; decide) (fun y _ => .inl (by rw [relA_ja hr hm]; exact ⟨rfl, rfl⟩))⟩
  · intro t s at_ k hm hq hk hn hp
    refine ⟨hE.sig t s at_ k hm hq hk hn hp.1, hp.2.of (l := [⟨t, k, 2, 0, 0⟩]) rfl (fun e q => by simp at q; subst q; simp) (fun y _ => .inl ?_)⟩
    unfold sig1
    rw [ja_set (by rw [hm.jl]; exact hk)]
    split
    · rename_i e; subst e; exact ⟨rfl, rfl⟩
    · exact ⟨rfl, rfl⟩
  · intro t s at_ k a hm hq hk hn ha hs hin hp
    exact ⟨hE.fin t s at_ k a hm hq hk hn ha hs hin hp.1, hp.2.fin hm hp.1 hk ha (hq.event ha hn)⟩
  · intro t s at_ hm hq hs hg hp
    exact ⟨hE.gc t s at_ hm hq hs hg hp.1, hp.2.of (l := [⟨t, -1, 3, 0, 0⟩]) rfl (fun e q => by simp at q; subst q; simp) (fun y _ => .inl ⟨rfl, rfl⟩)⟩
  · intro t s at_ hm hq hs hg hn hp
    exact ⟨hE.idle t s at_ hm hq hs hg hn hp.1, hp.2⟩
  · intro t s at_ y a hm hq hs hg hch ha hfin hp
    have := hp.2.work hr hi hx rfl hm hq hp.1 hch ha
    rw [wkA_cases, if_pos hfin] at this
    exact ⟨hE.w0 t s at_ y a hm hq hs hg hch ha hfin hp.1, this⟩
  · intro t s at_ y a hm hq hs hg hch ha hpl hbu hp
    have := hp.2.work hr hi hx rfl hm hq hp.1 hch ha
    rw [wkA_cases, if_neg (by omega), if_neg hbu] at this
    exact ⟨hE.w1 t s at_ y a hm hq hs hg hch ha hpl hbu hp.1, this⟩
  · intro t s at_ y a hm hq hs hg hch ha hpl hbu hp
    have := hp.2.work hr hi hx rfl hm hq hp.1 hch ha
    rw [wkA_cases, if_neg (by omega), if_pos hbu] at this
    exact ⟨hE.w2 t s at_ y a hm hq hs hg hch ha hpl hbu hp.1, this⟩
theorem blk_le {R : Rn} (hr : RnOk R) {i x : Nat} (hi : i < R.L.length) (hx : x < (evA R i).length) (k : Nat) : blkC R.L i (relT (evA R i) x) (endF (plM R k).o i x) (plM R k).o ≤ blockN R.L i := by
  have h0 : BI R i x (relT (evA R i) x) (ms0 R.L.length) := by
    refine ⟨fun _ => ⟨_, BkOk.start (MOk.zero hr) hr hi, ?_⟩, fun h => ?_⟩
    · show (0 : Int) + _ ≤ _
      omega
    · exact absurd h (show ¬ (0 : Int) ≤ -1 by decide)
  obtain ⟨at_, _, h1, h2⟩ := (blk_steps hr hi hx).run hr ⟨EI.zero hr, h0⟩ k
  by_cases hc : endF (plM R k).o i x < 0
  · obtain ⟨b, g1, g2⟩ := h2.a hc
    have := g1.pos
    rw [blkC_end (E' := -1) (fun e _ _ => .inl hc) (fun e _ _ => .inl (by omega))]; omega
  · exact h2.b (by omega)
end Go.Proofs.Ytmahagcghpoekaa
namespace Go.Proofs.Ytmahagcghpoekaa
open Go.RowKit
set_option linter.unusedSimpArgs false
set_option linter.unusedVariables false
def keyE (e : En) : Int × Int × Int := (e.k, e.a, e.b)
def keyJ (s : Ms) (y : Nat) : Int × Int × Int := ((y : Int), ((s.ja y).p : Int), s.hd y)
def OneE (L : List Ta) (i : Nat) (r E : Int) (κ : Int × Int × Int) (o : List En) : Prop := ∀ e ∈ o, blkE (bhd L i) r E e = true → keyE e = κ
def KOk (L : List Ta) (s : Ms) (i : Nat) (κ : Int × Int × Int) : Prop := ∀ y, IsBk L s i y → keyJ s y = κ
theorem OneE.app {L : List Ta} {i : Nat} {r E : Int} {κ : Int × Int × Int} {o l : List En} (h : OneE L i r E κ o) (hl : ∀ e ∈ l, blkE (bhd L i) r E e = true → keyE e = κ) : OneE L i r E κ (o ++ l) := fun e he hb => by
  rcases List.mem_append.1 he with he | he
  · exact h e he hb
  · exact hl e he hb
theorem OneE.end_ {L : List Ta} {i : Nat} {r E E' : Int} {κ : Int × Int × Int} {o : List En} (h : OneE L i r E κ o) (hE : ∀ e ∈ o, e.w = 4 → E < 0 ∨ e.m < E) : OneE L i r E' κ o := fun e he hb => by
  refine h e he ?_
  by_cases h4 : e.w = 4
  · have a : (decide (E < 0) || decide (e.m < E)) = true := by have := hE e he h4; simpa using this
    unfold blkE at hb ⊢
    rw [a]
    simp only [Bool.and_eq_true] at hb ⊢
    exact ⟨hb.1, hb.2.1, trivial, hb.2.2.2⟩
  · rw [blkE_no4 h4] at hb; cases hb
theorem OneE.early {L : List Ta} {i : Nat} {r E : Int} {κ : Int × Int × Int} {o : List En} (h : ∀ e ∈ o, e.w = 4 → e.m < r) : OneE L i r E κ o := fun e he hb => by
  by_cases h4 : e.w = 4
  · have := h e he h4
    unfold blkE at hb
    have q : ¬ r ≤ e.m := by omega
    simp [q] at hb
  · rw [blkE_no4 h4] at hb; cases hb
section
variable {R : Rn} {s s' : Ms} {i y : Nat} {κ : Int × Int × Int}
theorem IsBk.ne (h : IsBk R.L s i y) (hm : MOk R s) : s.qa y ≠ [] := fun q => by
  have := h.ins
  rw [ins_zero (hm.rd y h.lt q)] at this; cases this
theorem KOk.start (hm : MOk R s) : ∃ κ, KOk R.L s i κ := by
  by_cases h : ∃ y, IsBk R.L s i y
  · obtain ⟨y, hy⟩ := h
    exact ⟨keyJ s y, fun z hz => by rw [hz.one hy hm]⟩
  · exact ⟨(0, 0, 0), fun z hz => absurd ⟨z, hz⟩ h⟩
theorem KOk.of (h : KOk R.L s i κ) (hm : MOk R s) (e : ∀ y, y < R.L.length → ((s'.ja y).p = (s.ja y).p ∧ (s'.ja y).t = (s.ja y).t ∧ (s.qa y ≠ [] → s'.hd y = s.hd y)) ∨ s'.ja y = Jb.zero) : KOk R.L s' i κ := fun y hy => by
  rcases e y hy.lt with ⟨e1, e2, e3⟩ | e1
  · have h1 := hy.of2 e1 e2
    rw [← h y h1]
    unfold keyJ
    rw [e1, e3 (h1.ne hm)]
  · have := hy.ins
    rw [ins_zero e1] at this; cases this
theorem KOk.fore {t : Int} (h : KOk R.L s i κ) (hm : MOk R s) (hy : y < R.L.length) (hc : cnt R.L y ≤ cnt R.L i) : KOk R.L (wkA R t y s) i κ := fun z hz => by
  have hne : z ≠ y := fun e => by have := hz.bh; rw [e] at this; omega
  obtain ⟨e, e2⟩ := wkA_other (t := t) hm hy hne
  rw [← h z (hz.of e)]
  unfold keyJ Ms.hd
  rw [e, e2]
theorem KOk.back {t : Int} (h : KOk R.L s i κ) (hm : MOk R s) (hb : IsBk R.L s i y) : KOk R.L (wkA R t y s) i κ := fun z hz => by
  have hy := hb.lt
  by_cases e : z = y
  · subst e
    rcases wkA_self (t := t) hm hy with ⟨_, e1, _⟩ | ⟨_, e0, e1, e2, _⟩
    · have := hz.ins
      rw [ins_zero e1] at this; cases this
    · have h3 := (insB_iff.1 hz.ins).1
      rw [e2] at h3
      rw [← h z hb]
      unfold keyJ Ms.hd
      rw [e1, e0]
      unfold jbN at h3 ⊢
      split
      · rename_i q
        rw [if_pos q] at h3
        exact absurd h3 (Nat.lt_irrefl 0)
      · rfl
  · have e1 := (wkA_other (t := t) hm hy e).1
    exact absurd ((hz.of e1).one hb hm) e
end
structure OI (R : Rn) (i : Nat) (x r : Int) (s : Ms) : Prop where
  a : endF s.o i x < 0 → ∃ κ, KOk R.L s i κ ∧ OneE R.L i r (-1) κ s.o
  b : 0 ≤ endF s.o i x → ∃ κ, OneE R.L i r (endF s.o i x) κ s.o
section
variable {R : Rn} {i : Nat} {x r : Int} {s s' : Ms}
theorem OI.of (h : OI R i x r s) (hm : MOk R s) {l : List En} (ho : s'.o = s.o ++ l) (hl : ∀ e ∈ l, e.w ≠ 4 ∧ e.w ≠ 5) (e : ∀ y, y < R.L.length → ((s'.ja y).p = (s.ja y).p ∧ (s'.ja y).t = (s.ja y).t ∧ (s.qa y ≠ [] → s'.hd y = s.hd y)) ∨ s'.ja y = Jb.zero) : OI R i x r s' := by
  have he : endF s'.o i x = endF s.o i x := by rw [ho]; exact endF_app _ _ _ _ (fun e q r => (hl e q).2 r.1)
  have hc : ∀ E κ, OneE R.L i r E κ s.o → OneE R.L i r E κ s'.o := fun E κ h => by rw [ho]; exact h.app (fun e q g => by rw [blkE_no4 (hl e q).1] at g; cases g)
  refine ⟨fun h0 => ?_, fun h0 => ?_⟩
  · rw [he] at h0
    obtain ⟨κ, h1, h2⟩ := h.a h0
    exact ⟨κ, h1.of hm e, hc _ _ h2⟩
  · rw [he] at h0 ⊢
    obtain ⟨κ, h1⟩ := h.b h0
    exact ⟨κ, hc _ _ h1⟩
theorem OI.fin {T : Int} {at_ : List Nat} (h : OI R i x r s) (hm : MOk R s) (hE : EI R T s at_) {k a : Nat} {how : Int} (hk : k < R.L.length) (ha : at_[k]? = some a) (hx : (ordE (evA R k))[a]? = some (s.hd k)) : OI R i x r (fin1 T k how s) := by
  have ho : (fin1 T k how s).o = s.o ++ [⟨T, k, 5, s.hd k, how⟩] := rfl
  have hc : ∀ E κ, OneE R.L i r E κ s.o → OneE R.L i r E κ (fin1 T k how s).o := fun E κ h => by
    rw [ho]; exact h.app (fun e q g => by simp at q; subst q; rw [blkE_no4 (by simp)] at g; cases g)
  have hj := fun y => fin_ja (m := T) (how := how) (i := k) (k := y) (s := s) (by rw [hm.jl]; exact hk)
  have hqa := fun y => fin_qa (m := T) (how := how) (i := k) (k := y) (s := s) (by rw [hm.ql]; exact hk)
  have e : ∀ y, y < R.L.length → (((fin1 T k how s).ja y).p = (s.ja y).p ∧ ((fin1 T k how s).ja y).t = (s.ja y).t ∧ (s.qa y ≠ [] → (fin1 T k how s).hd y = s.hd y)) ∨ (fin1 T k how s).ja y = Jb.zero := fun y _ => by
    rw [hj]
    by_cases q : y = k
    · rw [if_pos q]; exact .inr rfl
    · rw [if_neg q]; refine .inl ⟨rfl, rfl, fun _ => ?_⟩
      unfold Ms.hd; rw [hqa, if_neg q]
  by_cases q : k = i ∧ s.hd k = x
  · obtain ⟨rfl, q2⟩ := q
    have h0 : endF s.o k x = -1 := hE.new k a a x ha (by rw [hx, q2]) (Nat.le_refl _)
    have h1 : endF (fin1 T k how s).o k x = T := by
      rw [ho, endF_one]; unfold endG; rw [if_pos ⟨rfl, rfl, q2⟩]
    have hT := hE.pos
    refine ⟨fun h2 => by omega, fun _ => ?_⟩
    rw [h1]
    obtain ⟨κ, g1, g2⟩ := h.a (by omega)
    exact ⟨κ, hc _ _ (g2.end_ (fun e he w => .inl (by omega)))⟩
  · have h1 : endF (fin1 T k how s).o i x = endF s.o i x := by
      rw [ho, endF_one]; unfold endG
      rw [if_neg]
      rintro ⟨_, g1, g2⟩
      simp only [] at g1 g2
      exact q ⟨by omega, g2⟩
    refine ⟨fun h2 => ?_, fun h2 => ?_⟩
    · rw [h1] at h2
      obtain ⟨κ, g1, g2⟩ := h.a h2
      exact ⟨κ, g1.of hm e, hc _ _ g2⟩
    · rw [h1] at h2 ⊢
      obtain ⟨κ, g⟩ := h.b h2
      exact ⟨κ, hc _ _ g⟩
theorem OI.work {t : Int} {at_ : List Nat} {y a : Nat} {xn : Nat} (h : OI R i xn r s) (hr : RnOk R) (hi : i < R.L.length) (hxl : xn < (evA R i).length) (hrel : relT (evA R i) xn = r) (hm : MOk R s) (hq : QR R t s at_) (hE : EI R t s at_) (hch : Chosen R s y) (ha : at_[y]? = some a) : OI R i xn r (wkA R t y s) := by
  have hx := hq.event ha hch.rd
  have hT := hE.pos
  obtain ⟨l2, ho, h4, h5⟩ := wkA_o4 R t y s
  have hmo := hm.wkA hr t hch.lt hch.le hch.rd
  have hone : ∀ E κ, OneE R.L i r E κ s.o → (blkE (bhd R.L i) r E ⟨t, y, 4, (s.ja y).p, s.hd y⟩ = true → keyJ s y = κ) → OneE R.L i r E κ (wkA R t y s).o := fun E κ g1 g2 => by
    rw [ho]
    refine g1.app (fun e he hb => ?_)
    rcases List.mem_cons.1 he with rfl | he
    · exact g2 hb
    · rw [blkE_no4 (h4 e he)] at hb; cases hb
  have hend : endF (wkA R t y s).o i xn = endF s.o i xn ∨ (y = i ∧ s.hd y = xn ∧ endF s.o i xn = -1 ∧ endF (wkA R t y s).o i xn = t + 1) := by
    rcases h5 with h5 | rfl
    · left
      rw [ho]
      exact endF_app _ _ _ _ (fun e he q => by
        rcases List.mem_cons.1 he with rfl | he
        · simp at q
        · exact h5 e he q.1)
    · have e1 : endF (wkA R t y s).o i xn = endG i xn (endF s.o i xn) ⟨t + 1, y, 5, s.hd y, 0⟩ := by
        rw [ho, List.append_cons, endF_one]
        congr 1
        exact endF_app _ _ _ _ (fun e he q => by simp at he; subst he; simp at q)
      by_cases q : y = i ∧ s.hd y = xn
      · right
        refine ⟨q.1, q.2, ?_, ?_⟩
        · obtain ⟨rfl, q2⟩ := q
          exact hE.new y a a _ ha (by rw [hx, q2]) (Nat.le_refl _)
        · rw [e1]; unfold endG; rw [if_pos ⟨rfl, by simp only []; omega, q.2⟩]
      · left
        rw [e1]; unfold endG
        rw [if_neg]
        rintro ⟨_, g1, g2⟩
        simp only [] at g1 g2
        exact q ⟨by omega, g2⟩
  have hopen : endF s.o i xn < 0 → ∃ κ, KOk R.L (wkA R t y s) i κ ∧ OneE R.L i r (-1) κ (wkA R t y s).o := by
    intro h0
    rcases Int.lt_or_le t r with htr | htr
    · obtain ⟨κ, g⟩ := KOk.start (i := i) hmo
      refine ⟨κ, g, OneE.early (fun e he w => ?_)⟩
      rw [ho] at he
      rcases List.mem_append.1 he with he | he
      · have := (hE.okm e he).2.2 (.inr w); omega
      · rcases List.mem_cons.1 he with rfl | he
        · exact htr
        · exact absurd w (h4 e he)
    · obtain ⟨κ, h1, h2⟩ := h.a h0
      have hqi : s.qa i ≠ [] := fun q => by
        have := idle_ends hq hE hi q hxl (by rw [hrel]; exact htr)
        omega
      by_cases hyb : cnt R.L i < cnt R.L y
      · have hbk := hch.blk hm hi hqi (Nat.le_refl _) hyb
        exact ⟨κ, h1.back hm hbk, hone _ _ h2 (fun _ => h1 y hbk)⟩
      · refine ⟨κ, h1.fore hm hch.lt (by omega), hone _ _ h2 (fun hb => ?_)⟩
        unfold blkE bhd at hb
        simp only [] at hb
        rw [decide_eq_false hyb] at hb; simp at hb
  refine ⟨fun h0 => ?_, fun h0 => ?_⟩
  · rcases hend with e | ⟨_, _, _, e⟩
    · rw [e] at h0; exact hopen h0
    · omega
  · rcases hend with e | ⟨rfl, q2, q3, e⟩
    · rw [e] at h0 ⊢
      have hle : endF s.o i xn ≤ t := by
        obtain ⟨j, hj⟩ := List.getElem?_of_mem (ordE_mem (l := evA R i).2 ⟨show (0 : Int) ≤ (xn : Int) by omega, by omega⟩)
        have hil : i < at_.length := by rw [hq.len]; exact hi
        have ha' := List.getElem?_eq_getElem hil
        rcases Nat.lt_or_ge j at_[i] with g | g
        · exact (hE.old i _ j _ ha' hj g).2
        · have := hE.new i _ j _ ha' hj g; omega
      obtain ⟨κ, g⟩ := h.b h0
      refine ⟨κ, hone _ _ g (fun hb => ?_)⟩
      unfold blkE at hb
      simp only [] at hb
      rw [show (decide (endF s.o i xn < 0) || decide (t < endF s.o i xn)) = false by simp; omega] at hb
      simp at hb
    · obtain ⟨κ, g1, g2⟩ := hopen (by omega)
      rw [e]
      exact ⟨κ, g2.end_ (fun e he w => .inl (by omega))⟩
end
theorem relA_hd {R : Rn} (hr : RnOk R) {t : Int} {s : Ms} (hm : MOk R s) (y : Nat) (h : s.qa y ≠ []) : (relA t 0 R.ev s).hd y = s.hd y := by
  obtain ⟨_, _, h3⟩ := relA_spec t R.ev 0 s (by rw [hm.ql, hr.ev]; omega)
  unfold Ms.hd
  rw [h3 y]
  cases e : s.qa y with
  | nil => exact absurd e h
  | cons a b => rfl
theorem one_steps {R : Rn} (hr : RnOk R) {i x : Nat} (hi : i < R.L.length) (hx : x < (evA R i).length) :
    Steps R (fun t s at_ => EI R t s at_ ∧ OI R i x (relT (evA R i) x) s) (fun t s at_ => EI R (t + 1) s at_ ∧ OI R i x (relT (evA R i) x) s) := by
  have hE := ends_steps hr
  refine ⟨?_, ?_, ?_, ?_, ?_, ?_, ?_, ?_⟩
  · intro t s at_ hm hq hp
    obtain ⟨l, h1, h2⟩ := relA_newE t R.ev 0 s
    exact ⟨hE.rel t s at_ hm hq hp.1, hp.2.of hm h1 (fun e q => by rw [(h2 e q).2]; decide) (fun y _ => .inl (by rw [relA_ja hr hm]; exact ⟨rfl, rfl, relA_hd hr hm y⟩))⟩
  · intro t s at_ k hm hq hk hn hp
    refine ⟨hE.sig t s at_ k hm hq hk hn hp.1, hp.2.of hm (l := [⟨t, k, 2, 0, 0⟩]) rfl (fun e q => by simp at q; subst q; simp) (fun y _ => .inl ?_)⟩
    unfold sig1
    rw [ja_set (by rw [hm.jl]; exact hk)]
    split
    · rename_i e; subst e; exact ⟨rfl, rfl, fun _ => rfl⟩
    · exact ⟨rfl, rfl, fun _ => rfl⟩
  · intro t s at_ k a hm hq hk hn ha hs hin hp
    exact ⟨hE.fin t s at_ k a hm hq hk hn ha hs hin hp.1, hp.2.fin hm hp.1 hk ha (hq.event ha hn)⟩
  · intro t s at_ hm hq hs hg hp
    exact ⟨hE.gc t s at_ hm hq hs hg hp.1, hp.2.of hm (l := [⟨t, -1, 3, 0, 0⟩]) rfl (fun e q => by simp at q; subst q; simp) (fun y _ => .inl ⟨rfl, rfl, fun _ => rfl⟩)⟩
  · intro t s at_ hm hq hs hg hn hp
    exact ⟨hE.idle t s at_ hm hq hs hg hn hp.1, hp.2⟩
  · intro t s at_ y a hm hq hs hg hch ha hfin hp
    have := hp.2.work hr hi hx rfl hm hq hp.1 hch ha
    rw [wkA_cases, if_pos hfin] at this
    exact ⟨hE.w0 t s at_ y a hm hq hs hg hch ha hfin hp.1, this⟩
  · intro t s at_ y a hm hq hs hg hch ha hpl hbu hp
    have := hp.2.work hr hi hx rfl hm hq hp.1 hch ha
    rw [wkA_cases, if_neg (by omega), if_neg hbu] at this
    exact ⟨hE.w1 t s at_ y a hm hq hs hg hch ha hpl hbu hp.1, this⟩
  · intro t s at_ y a hm hq hs hg hch ha hpl hbu hp
    have := hp.2.work hr hi hx rfl hm hq hp.1 hch ha
    rw [wkA_cases, if_neg (by omega), if_pos hbu] at this
    exact ⟨hE.w2 t s at_ y a hm hq hs hg hch ha hpl hbu hp.1, this⟩
theorem one_of {R : Rn} (hr : RnOk R) {i x : Nat} (hi : i < R.L.length) (hx : x < (evA R i).length) (k : Nat) : ∃ κ, OneE R.L i (relT (evA R i) x) (endF (plM R k).o i x) κ (plM R k).o := by
  have h0 : OI R i x (relT (evA R i) x) (ms0 R.L.length) := by
    refine ⟨fun _ => ?_, fun h => ?_⟩
    · obtain ⟨κ, g⟩ := KOk.start (i := i) (MOk.zero hr)
      exact ⟨κ, g, fun e he => by cases he⟩
    · exact absurd h (show ¬ (0 : Int) ≤ -1 by decide)
  obtain ⟨at_, _, h1, h2⟩ := (one_steps hr hi hx).run hr ⟨EI.zero hr, h0⟩ k
  by_cases hc : endF (plM R k).o i x < 0
  · obtain ⟨κ, g1, g2⟩ := h2.a hc
    exact ⟨κ, g2.end_ (fun e _ _ => .inl (by omega))⟩
  · exact h2.b (by omega)
end Go.Proofs.Ytmahagcghpoekaa
namespace Go.Proofs.Ytmahagcghpoekaa
open Go.RowKit
set_option linter.unusedSimpArgs false
set_option linter.unusedVariables false
set_option maxRecDepth 100000 in
set_option maxHeartbeats 8000000 in
theorem once_any {o : List En} {pl : List Int} {nL i : Nat} {f t : Int} {κ : Int × Int × Int} {P : Nat → Int} (hok : ∀ e ∈ o, e.w = 4 → ∃ k : Nat, e.k = (k : Int) ∧ k < nL) (hi : i < nL) (hp : ∀ k, k < nL → pl[k]? = some (P k))
    (hone : ∀ e ∈ o, e.w = 4 → f ≤ e.m → e.m < t → ∀ k : Nat, e.k = (k : Int) → P i < P k → keyE e = κ) (ao : Option Addr) (no co : Nat) (ap : Option Addr) (cp : Nat) (w : World) (hO : Rd w ao no 5 (o.map encE)) (hP : Rd w ap nL 1 (pl.map enc1)) :
    Calls Try.prog 18 #[.slice ao no co, .slice ap nL cp, .int .i64 (i : Int), .int .i64 f, .int .i64 t] w fun e w' => e = .returned (.bool true) ∧ Below w.heap.size w w' := by
  have HO := Lib.hid hO; have HP := Lib.hid hP; have HOK := Lib.hid hok; have HONE := Lib.hid hone; have HPL := Lib.hid hp
  have hs := hO.small
  have hs2 := hP.small
  have hol := hO.length
  clear hok hp hone hO hP
  go_enter Try.func18, Try.ntmps18
  go_wp2
  go_loopw [11, 12] (fun v11 v12 wr => ∃ (fi : Int) (k : Nat), v11 = .int .i64 fi ∧ k ≤ no ∧ v12 = .int .i64 k ∧ (fi = -1 ∨ ∃ (j : Nat) (x : En), fi = (j : Int) ∧ j < no ∧ o[j]? = some x ∧ keyE x = κ) ∧ Below w.heap.size w wr) (fun _ v _ => no - (intOf v).toNat)
  case atStart => exact ⟨-1, 0, rfl, Nat.zero_le _, rfl, .inl rfl, Below.refl _ _⟩
  case round =>
    obtain ⟨fi, k, rfl, hk, rfl, hfi, hB⟩ := hrel
    have HB := Lib.hid hB; have HFI := Lib.hid hfi
    by_cases hkn : k < no
    · obtain ⟨x, b1, o1, rfl, hb1, hx, q0, q1, q2, q3, q4⟩ := (HO.out.ext hB).en_at k hkn
      have hmem := List.mem_of_getElem? hx
      have HX := Lib.hid hx
      have HOK1 := Lib.hid (HOK.out x hmem)
      have HONE1 := Lib.hid (HONE.out x hmem)
      obtain ⟨m1, k1, w1', a1, c1⟩ := x
      simp only [] at q0 q1 q2 q3 q4 HOK1 HONE1
      clear hB hfi hx hmem
      go_upto_region 6 with fail
      (obtain ⟨we, hwe⟩ : ∃ x, x = wr.alloc (.cells #[.int .i64 m1, .int .i64 k1, .int .i64 w1', .int .i64 a1, .int .i64 c1] 43) := ⟨_, rfl⟩); have HBE : Hid (Below wr.heap.size wr we) := Lib.hid (by rw [hwe]; (repeat' (first | (with_reducible exact Below.refl _ _) | (with_reducible assumption) | (with_reducible refine Below.alloc ?_ ?_ _) | (with_reducible refine Below.drew ?_) | (with_reducible refine Below.draws ?_ _) | (with_reducible refine Below.setCell ?_ ?_ _) | (refine Below.then ?_ (by with_reducible assumption)) | go_size))); have HE5 : Hid (Blk5 we wr.heap.size ⟨m1, k1, w1', a1, c1⟩) := Lib.hid (by rw [hwe]; exact ⟨by simp [go_sem], by simp [go_sem], by simp [go_sem], by simp [go_sem], by simp [go_sem], fun j => by simp [go_sem], by simp⟩); rw [← hwe]; clear hwe
      have HBX := Lib.hid HBE.out
      obtain ⟨u0, u1, u2, u3, u4, uf, uz⟩ := HE5.out; simp only [] at u0 u1 u2 u3 u4; clear uf
      by_cases h4 : w1' = 4
      · subst h4
        by_cases h5 : m1 < f
        · have e5 : decide (m1 < f) = true := by simpa using h5
          (go_wp2_with fail; go_roundw; (case rel => exact ⟨fi, k + 1, rfl, hkn, by go_num, HFI.out, Below.then HB.out HBX.out⟩); (case measure => (simp [intOf]; omega)))
        · have e5 : decide (m1 < f) = false := by simpa using h5
          by_cases h6 : t ≤ m1
          · have e6 : decide (t ≤ m1) = true := by simpa using h6
            (go_wp2_with fail; go_roundw; (case rel => exact ⟨fi, k + 1, rfl, hkn, by go_num, HFI.out, Below.then HB.out HBX.out⟩); (case measure => (simp [intOf]; omega)))
          · have e6 : decide (t ≤ m1) = false := by simpa using h6
            obtain ⟨kk, hkk, hkl⟩ := HOK1.out rfl
            subst hkk
            have HONE2 := Lib.hid (HONE1.out rfl (by omega) (by omega) kk rfl)
            obtain ⟨pi, pb, po, rfl, hpb, hpc, hpx⟩ := (HP.out.ext (Below.then HB.out HBE.out)).idx i hi
            obtain ⟨pk, pb2, po2, he2, hpb2, hpc2, hpx2⟩ := (HP.out.ext (Below.then HB.out HBE.out)).idx kk hkl
            cases he2
            have hpi : P i = pi := by have := HPL.out i hi; rw [hpx] at this; simpa using this.symm
            have hpk : P kk = pk := by have := HPL.out kk hkl; rw [hpx2] at this; simpa using this.symm
            rw [hpi, hpk] at HONE2
            have hd2 : decide ((nL : Int) ≤ (kk : Int)) = false := by simp <;> omega
            clear hpx hpx2 hpi hpk hpb2
            by_cases h7 : pk ≤ pi
            · have e7 : decide (pk ≤ pi) = true := by simpa using h7
              go_upto_region 9 with fail
              go_wp2_with (refine wp_region_later_lit (by kernel_rfl) (by kernel_rfl) ?_; (repeat (go_big_quiet_step (fail))); refine wpQuiet_nil ?_; intro w7 hb7)
              go_roundw
              case rel => exact ⟨fi, k + 1, rfl, hkn, by go_num, HFI.out, Below.then HB.out (Below.then HBX.out hb7)⟩
              case measure => simp [intOf]; omega
            · have e7 : decide (pk ≤ pi) = false := by simpa using h7
              have hkey := HONE2.out (by omega)
              have HKEY := Lib.hid hkey
              clear hkey
              rcases HFI.out with rfl | ⟨j, xj, rfl, hj, hxj, hkj⟩
              · go_upto_region 10 with (refine wp_region_later_lit (by kernel_rfl) (by kernel_rfl) ?_; (repeat (go_big_quiet_step (fail))); refine wpQuiet_nil ?_; intro w7 hb7)
                have HB7 := Lib.hid (Below.then HBX.out hb7)
                clear hpc hpc2 u0 u1 u2 u3 u4 q0 q1 q2 q3 q4 hb7
                go_wp2_with (refine wp_region_later_lit (by kernel_rfl) (by kernel_rfl) ?_; (repeat (go_big_quiet_step (fail))); refine wpQuiet_nil ?_; intro w8 hb8)
                go_roundw
                case rel => exact ⟨(k : Int), k + 1, rfl, hkn, by go_num, .inr ⟨k, _, rfl, hkn, HX.out, HKEY.out⟩, Below.then HB.out (Below.then HB7.out hb8)⟩
                case measure => simp [intOf]; omega
              · go_upto_region 10 with (refine wp_region_later_lit (by kernel_rfl) (by kernel_rfl) ?_; (repeat (go_big_quiet_step (fail))); refine wpQuiet_nil ?_; intro w7 hb7)
                have HB7 := Lib.hid (Below.then HBX.out hb7)
                have HE5 := Lib.hid (HE5.out.ext hb7)
                clear hpc hpc2 u0 u1 u2 u3 u4 uz q0 q1 q2 q3 q4 hb7
                obtain ⟨u0, u1, u2, u3, u4, uf, uz⟩ := HE5.out; simp only [] at u0 u1 u2 u3 u4; clear uf
                obtain ⟨x', b2, o2, he3, hb2, hx', p0, p1, p2, p3, p4⟩ := (HO.out.ext (Below.then HB.out HB7.out)).en_at j hj
                cases he3
                rw [hxj] at hx'
                cases hx'
                have hq := hkj.trans HKEY.out.symm
                obtain ⟨xm, xk, xw, xa, xb⟩ := xj
                unfold keyE at hq
                simp only [Prod.mk.injEq] at hq
                obtain ⟨rfl, rfl, rfl⟩ := hq
                simp only [] at p0 p1 p2 p3 p4
                have d1 : decide ((0 : Int) ≤ (j : Int)) = true := by simp
                have d2 : decide ((j : Int) < 0) = false := by simp
                have HXJ := Lib.hid hxj; have HKJ := Lib.hid hkj
                clear hxj hkj
                go_wp2_with (refine wp_region_later_lit (by kernel_rfl) (by kernel_rfl) ?_; (repeat (go_big_quiet_step (fail))); refine wpQuiet_nil ?_; intro w8 hb8)
                go_roundw
                case rel => exact ⟨(j : Int), k + 1, rfl, hkn, by go_num, HFI.out, Below.then HB.out (Below.then HB7.out hb8)⟩
                case measure => simp [intOf]; omega
      · have h4' : (w1' != 4) = true := by simpa using h4
        (go_wp2_with fail; go_roundw; (case rel => exact ⟨fi, k + 1, rfl, hkn, by go_num, HFI.out, Below.then HB.out HBX.out⟩); (case measure => (simp [intOf]; omega)))
    · clear hB hfi
      go_wp2_with fail
      go_ret
      exact ⟨rfl, HB.out⟩
end Go.Proofs.Ytmahagcghpoekaa
namespace Go.Proofs.Ytmahagcghpoekaa
open Go.RowKit
set_option linter.unusedSimpArgs false
set_option linter.unusedVariables false
/-- what is asked of a predicate handed over as a function value: it can be called, and in every later world it gives p -/
structure PredOn (g : Nat) (lb : Array Value) {α : Type} (val : α → Value) (p : α → Bool) (w : World) : Prop where
  eg : ∀ args w, (callFunc g args).run Try.prog w = .ok (.enter g args) w
  gives : ∀ (x : α) (w' : World), Below w.heap.size w w' → Calls Try.prog g (#[val x] ++ lb) w' fun e w'' => e = .returned (.bool (p x)) ∧ Below w'.heap.size w' w''
abbrev val2 (x : P2) : Value := .agg #[.int .i64 x.1, .int .i64 x.2]
theorem indexFunc2 (g : Nat) (lb : Array Value) (p : P2 → Bool) (a : Option Addr) (n c : Nat) (xs : List P2) (w : World) (hR : Rd w a n 2 (xs.map enc2)) (hf : PredOn g lb val2 p w) :
    Calls Try.prog 105 #[.slice a n c, .func (.func g) #[] lb] w fun e w' => e = .returned (.int .i64 (idxGo p 0 xs)) ∧ Below w.heap.size w w' := by
  have hl := hR.length
  have HL := Lib.hid hl; clear hl
  have hs := hR.small
  have HR := Lib.hid hR; clear hR
  have eg := hf.eg
  have HF := Lib.hid hf.gives; clear hf
  generalize hg : idxGo p 0 xs = R
  have HG := Lib.hid hg; clear hg
  go_enter Try.func105, Try.ntmps105
  go_wp2
  go_loopw [8] (fun i wr => ∃ k : Nat, k ≤ n ∧ i = .int .i64 k ∧ idxGo p k (xs.drop k) = R ∧ Below w.heap.size w wr) (fun i _ => n - (intOf i).toNat)
  case atStart => exact ⟨0, Nat.zero_le _, rfl, HG.out, Below.refl _ _⟩
  case round =>
    obtain ⟨k, hk, rfl, he, hB⟩ := hrel
    have HE := Lib.hid he; clear he
    by_cases hlt : k < n
    · obtain ⟨x, b, off, rfl, hb, h1, h2, HD⟩ := (HR.out.ext hB).next2 k hlt
      have hcall := HF.out x wr hB
      have HB := Lib.hid hB; clear hB
      have HE2 : Hid ((if p x = true then (k : Int) else idxGo p (k + 1) (xs.drop (k + 1))) = R) := by have := HE.out; rw [HD.out] at this; exact this
      cases hq : p x
      · rw [hq] at hcall HE2
        go_wp2_with (go_at_fn g; refine hcall.mono ?_; rintro e w1 ⟨rfl, hb1⟩)
        go_roundw
        case rel => exact ⟨k + 1, by omega, by go_num, by simpa using HE2.out, HB.out.trans (hb1.mono HB.out.size)⟩
        case measure => simp [intOf]; omega
      · rw [hq] at hcall HE2
        have : R = k := by simpa using HE2.out.symm
        subst this
        go_wp2_with (go_at_fn g; refine hcall.mono ?_; rintro e w1 ⟨rfl, hb1⟩)
        go_ret
        exact ⟨rfl, HB.out.trans (hb1.mono HB.out.size)⟩
    · have : R = -1 := by rw [← HE.out, drop_end HL.out (by omega)]; rfl
      subst this
      go_wp2
      go_ret
      exact ⟨rfl, hB⟩
theorem containsFunc2 (g : Nat) (lb : Array Value) (p : P2 → Bool) (a : Option Addr) (n c : Nat) (xs : List P2) (w : World) (hR : Rd w a n 2 (xs.map enc2)) (hf : PredOn g lb val2 p w) :
    Calls Try.prog 90 #[.slice a n c, .func (.func g) #[] lb] w fun e w' => e = .returned (.bool (xs.any p)) ∧ Below w.heap.size w w' := by
  have HR := Lib.hid hR; clear hR
  have HF := Lib.hid hf; clear hf
  go_enter Try.func90, Try.ntmps90
  go_wp2_with (go_at_call 105; refine (indexFunc2 _ _ _ _ _ _ _ _ HR.out HF.out).mono ?_; rintro e w1 ⟨rfl, hb1⟩)
  go_ret
  exact ⟨ret_bool (idxGo_any p xs 0), by (repeat' (first | (with_reducible exact Below.refl _ _) | (with_reducible assumption) | (with_reducible refine Below.alloc ?_ ?_ _) | (with_reducible refine Below.drew ?_) | (with_reducible refine Below.draws ?_ _) | (with_reducible refine Below.setCell ?_ ?_ _) | (refine Below.then ?_ (by with_reducible assumption)) | go_size))⟩
theorem indexFuncS (g : Nat) (lb : Array Value) {α : Type} (val : α → Value) (p : α → Bool) (a : Option Addr) (n c : Nat) (xs : List α) (w : World) (hR : Rd w a n 1 (xs.map fun x => [val x])) (hf : PredOn g lb val p w) :
    Calls Try.prog 103 #[.slice a n c, .func (.func g) #[] lb] w fun e w' => e = .returned (.int .i64 (idxGo p 0 xs)) ∧ Below w.heap.size w w' := by
  have hl := hR.length
  have HL := Lib.hid hl; clear hl
  have hs := hR.small
  have HR := Lib.hid hR; clear hR
  have eg := hf.eg
  have HF := Lib.hid hf.gives; clear hf
  generalize hg : idxGo p 0 xs = R
  have HG := Lib.hid hg; clear hg
  go_enter Try.func103, Try.ntmps103
  go_wp2
  go_loopw [8] (fun i wr => ∃ k : Nat, k ≤ n ∧ i = .int .i64 k ∧ idxGo p k (xs.drop k) = R ∧ Below w.heap.size w wr) (fun i _ => n - (intOf i).toNat)
  case atStart => exact ⟨0, Nat.zero_le _, rfl, HG.out, Below.refl _ _⟩
  case round =>
    obtain ⟨k, hk, rfl, he, hB⟩ := hrel
    have HE := Lib.hid he; clear he
    by_cases hlt : k < n
    · obtain ⟨x, b, off, rfl, hb, h1, HD⟩ := (HR.out.ext hB).nextV k hlt
      have hcall := HF.out x wr hB
      have HB := Lib.hid hB; clear hB
      have HE2 : Hid ((if p x = true then (k : Int) else idxGo p (k + 1) (xs.drop (k + 1))) = R) := by have := HE.out; rw [HD.out] at this; exact this
      cases hq : p x
      · rw [hq] at hcall HE2
        go_wp2_with (go_at_fn g; refine hcall.mono ?_; rintro e w1 ⟨rfl, hb1⟩)
        go_roundw
        case rel => exact ⟨k + 1, by omega, by go_num, by simpa using HE2.out, HB.out.trans (hb1.mono HB.out.size)⟩
        case measure => simp [intOf]; omega
      · rw [hq] at hcall HE2
        have : R = k := by simpa using HE2.out.symm
        subst this
        go_wp2_with (go_at_fn g; refine hcall.mono ?_; rintro e w1 ⟨rfl, hb1⟩)
        go_ret
        exact ⟨rfl, HB.out.trans (hb1.mono HB.out.size)⟩
    · have : R = -1 := by rw [← HE.out, drop_end HL.out (by omega)]; rfl
      subst this
      go_wp2
      go_ret
      exact ⟨rfl, hB⟩
theorem containsFuncS (g : Nat) (lb : Array Value) {α : Type} (val : α → Value) (p : α → Bool) (a : Option Addr) (n c : Nat) (xs : List α) (w : World) (hR : Rd w a n 1 (xs.map fun x => [val x])) (hf : PredOn g lb val p w) :
    Calls Try.prog 86 #[.slice a n c, .func (.func g) #[] lb] w fun e w' => e = .returned (.bool (xs.any p)) ∧ Below w.heap.size w w' := by
  have HR := Lib.hid hR; clear hR
  have HF := Lib.hid hf; clear hf
  go_enter Try.func86, Try.ntmps86
  go_wp2_with (go_at_call 103; refine (indexFuncS _ _ _ _ _ _ _ _ _ HR.out HF.out).mono ?_; rintro e w1 ⟨rfl, hb1⟩)
  go_ret
  exact ⟨ret_bool (idxGo_any p xs 0), by (repeat' (first | (with_reducible exact Below.refl _ _) | (with_reducible assumption) | (with_reducible refine Below.alloc ?_ ?_ _) | (with_reducible refine Below.drew ?_) | (with_reducible refine Below.draws ?_ _) | (with_reducible refine Below.setCell ?_ ?_ _) | (refine Below.then ?_ (by with_reducible assumption)) | go_size))⟩
end Go.Proofs.Ytmahagcghpoekaa
namespace Go.Proofs.Ytmahagcghpoekaa
open Go.RowKit
set_option linter.unusedSimpArgs false
set_option linter.unusedVariables false
/-- a list that lies in w -/
structure Hd (w : World) where
  a : Option Addr
  n : Nat
  c : Nat
  xs : List P2
  rd : Rd w a n 2 (xs.map enc2)
def Hd.val {w : World} (h : Hd w) : Value := .slice h.a h.n h.c
def farB (x : P2) : Bool := !inB x.1 0 1000000 || !inB x.2 0 1000000
def Hd.ext {w w' : World} (h : Hd w) (hb : Below w.heap.size w w') : Hd w' := ⟨h.a, h.n, h.c, h.xs, h.rd.ext hb⟩
/-- the error of lists -/
def checkE (ls : List (List P2)) : Int := if ls.any (fun l => l.any farB) then 1 else if ls.any (fun l => decide (40 < l.length)) then 2 else 0
theorem Hd.map_ext {w w' : World} (hb : Below w.heap.size w w') (hs : List (Hd w)) {a : Option Addr} {n : Nat} (h : Rd w a n 1 (hs.map fun h => [h.val])) : Rd w' a n 1 ((hs.map (·.ext hb)).map fun h => [h.val]) := by
  have e : (hs.map (·.ext hb)).map (fun h => [h.val]) = hs.map fun h => [h.val] := by rw [List.map_map]; rfl
  rw [e]; exact h.ext hb
def listE (l : List P2) : Int := if l.any farB then 1 else if 40 < l.length then 2 else 0
end Go.Proofs.Ytmahagcghpoekaa
namespace Go.Proofs.Ytmahagcghpoekaa
open Go.RowKit
set_option linter.unusedSimpArgs false
set_option linter.unusedVariables false
def allowGo (g j : Int) : Int → List P2 → Bool
  | _, [] => true
  | least, x :: xs => if x.1 < least ∨ j < x.2 then false else allowGo g j (x.1 + g) xs
def allowR (f g j : Int) (xs : List P2) : Bool × Int := if vpat f g j then (if listE xs = 0 then (allowGo g j f xs, 0) else (false, listE xs)) else (false, 1)
theorem listE_zero {xs : List P2} (h : listE xs = 0) : xs.any farB = false ∧ xs.length ≤ 40 := by
  unfold listE at h
  split at h
  · omega
  · split at h
    · omega
    · rename_i h1 h2; exact ⟨by simpa using h1, by omega⟩
theorem farB_false {x : P2} (h : farB x = false) : (0 ≤ x.1 ∧ x.1 ≤ 1000000) ∧ (0 ≤ x.2 ∧ x.2 ≤ 1000000) := by
  simp only [farB, Bool.or_eq_false_iff, Bool.not_eq_false', inB_iff] at h; exact h
end Go.Proofs.Ytmahagcghpoekaa
namespace Go.Proofs.Ytmahagcghpoekaa
open Go.RowKit
set_option linter.unusedSimpArgs false
set_option linter.unusedVariables false
theorem E2p : Elt Try.prog 30 26 2 16 := Elt.mk' (z := .agg #[.int .i64 0, .int .i64 0]) Try.underlying30 (by kernel_rfl) rfl (by decide)
/-- the low bits of a number -/
def low31 (x : Int) : Int := bits .and .i64 x 31
def low1023 (x : Int) : Int := bits .and .i64 x 1023
theorem low_bd (x : Int) (m : Nat) (hm : m ≤ 1023) : 0 ≤ bits .and .i64 x (m : Int) ∧ bits .and .i64 x (m : Int) ≤ m := by
  unfold bits
  simp only [BitVec.toNat_and, BitVec.ofInt_natCast]
  have h1 : (BitVec.ofInt IntKind.i64.bits x).toNat &&& (BitVec.ofNat IntKind.i64.bits m).toNat ≤ m := by
    refine Nat.le_trans Nat.and_le_right ?_
    rw [BitVec.toNat_ofNat]
    exact Nat.mod_le _ _
  generalize (BitVec.ofInt IntKind.i64.bits x).toNat &&& (BitVec.ofNat IntKind.i64.bits m).toNat = q at h1
  rw [IntWalk.i64_in _ (by omega)]
  omega
theorem low31_bd (x : Int) : 0 ≤ low31 x ∧ low31 x ≤ 31 := low_bd x 31 (by decide)
theorem low1023_bd (x : Int) : 0 ≤ low1023 x ∧ low1023 x ≤ 1023 := low_bd x 1023 (by decide)
/-- the events: f more at most, from t on -/
def evs (g j : Int) : Nat → Int → List P2 → List P2
  | 0, _, _ => []
  | _ + 1, _, [] => []
  | f + 1, t, x :: xs => if t < 2000 then (t + low31 x.1, low1023 x.2 % (j + 1)) :: evs g j f (t + low31 x.1 + g) xs else []
theorem evs_len (g j : Int) : ∀ (f : Nat) (t : Int) (xs : List P2), (evs g j f t xs).length ≤ f
  | 0, _, _ => by simp [evs]
  | f + 1, _, [] => by simp [evs]
  | f + 1, t, x :: xs => by
    rw [evs]
    split
    · have := evs_len g j f (t + low31 x.1 + g) xs
      simp; omega
    · simp
/-- a pattern allows them -/
theorem evs_allowed {g j : Int} (hj : 0 ≤ j) : ∀ (f : Nat) (t l : Int) (xs : List P2), l ≤ t → allowGo g j l (evs g j f t xs) = true
  | 0, _, _, _, _ => by simp [evs, allowGo]
  | f + 1, _, _, [], _ => by simp [evs, allowGo]
  | f + 1, t, l, x :: xs, h => by
    rw [evs]
    split
    · have h1 := low31_bd x.1
      have h2 := low1023_bd x.2
      have h3 := Int.emod_nonneg (low1023 x.2) (show j + 1 ≠ 0 by omega)
      have h4 := Int.emod_lt_of_pos (low1023 x.2) (show 0 < j + 1 by omega)
      rw [allowGo, if_neg (by simp only []; omega)]
      exact evs_allowed hj f _ _ xs (by simp only []; omega)
    · simp [allowGo]
theorem evs_fine {g j : Int} (hg : 1 ≤ g ∧ g ≤ 10000) (hj : 0 ≤ j ∧ j ≤ 10000) : ∀ (f : Nat) (t : Int) (xs : List P2), 0 ≤ t → ∀ e ∈ evs g j f t xs, (0 ≤ e.1 ∧ e.1 ≤ 2031) ∧ (0 ≤ e.2 ∧ e.2 ≤ 10000)
  | 0, _, _, _, e, he => by simp [evs] at he
  | f + 1, _, [], _, e, he => by simp [evs] at he
  | f + 1, t, x :: xs, h, e, he => by
    rw [evs] at he
    split at he
    · have h1 := low31_bd x.1
      have h2 := low1023_bd x.2
      have h3 := Int.emod_nonneg (low1023 x.2) (show j + 1 ≠ 0 by omega)
      rcases List.mem_cons.1 he with rfl | he
      · simp only []
        have h4 := Int.emod_lt_of_pos (low1023 x.2) (show 0 < j + 1 by omega)
        omega
      · exact evs_fine hg hj f _ xs (by omega) e he
    · simp at he
theorem evs_step {g j t : Int} {f : Nat} {x : P2} {xs : List P2} (h : t < 2000) : evs g j (f + 1) t (x :: xs) = (t + low31 x.1, low1023 x.2 % (j + 1)) :: evs g j f (t + low31 x.1 + g) xs := by rw [evs, if_pos h]
theorem evs_late {g j t : Int} {f : Nat} {xs : List P2} (h : ¬ t < 2000) : evs g j f t xs = [] := by
  cases f with
  | zero => rfl
  | succ f => cases xs with
    | nil => rfl
    | cons x xs => rw [evs, if_neg h]
set_option maxRecDepth 100000 in
set_option maxHeartbeats 4000000 in
theorem eventsB_any (f g j : Int) (hf : 0 ≤ f ∧ f ≤ 10000) (hg : 1 ≤ g ∧ g ≤ 10000) (hj : 0 ≤ j ∧ j ≤ 10000) (a : Option Addr) (n c : Nat) (xs : List P2) (w : World) (hR : Rd w a n 2 (xs.map enc2)) :
    Calls Try.prog 31 #[.agg #[.int .i64 f, .int .i64 g, .int .i64 j], .slice a n c] w fun e w' => ∃ a' n' c', e = .returned (.slice a' n' c') ∧ w'.ownsRow w.heap.size 26 2 (.slice a' n' c') n' ((evs g j 12 f xs).flatMap enc2) ∧ Below w.heap.size w w' := by
  have HL := Lib.hid hR.length
  have hs := hR.small
  have e2 := E2p
  have HR := Lib.hid hR
  obtain ⟨R, hRR⟩ : ∃ R, evs g j 12 f xs = R := ⟨_, rfl⟩
  rw [hRR]
  have HRR : Hid ([] ++ evs g j (12 - 0) f (xs.drop 0) = R) := Lib.hid hRR
  clear hR hRR
  go_enter Try.func31, Try.ntmps31
  go_wp2
  go_loopw [5, 6, 7] (fun v5 v6 v7 wr => ∃ (k m : Nat) (t : Int) (pre : List P2) (a' : Option Addr) (c' : Nat), k ≤ n ∧ k ≤ 12 ∧ v5 = .slice a' m c' ∧ v6 = .int .i64 t ∧ v7 = .int .i64 k ∧ pre ++ evs g j (12 - k) t (xs.drop k) = R ∧ m ≤ k ∧ (0 ≤ t ∧ t ≤ 10000 + k * 10031) ∧ wr.ownsRow (w.heap.size + 1) 26 2 (.slice a' m c') m (pre.flatMap enc2) ∧ wr.cell? ⟨w.heap.size, 1, none⟩ = some (.int .i64 g) ∧ wr.cell? ⟨w.heap.size, 2, none⟩ = some (.int .i64 j) ∧ w.heap.size + 1 ≤ wr.heap.size ∧ Below w.heap.size w wr) (fun _ _ v _ => n - (intOf v).toNat)
  case atStart => exact ⟨0, 0, f, [], none, 0, Nat.zero_le _, by decide, rfl, rfl, rfl, HRR.out, Nat.le_refl _, by omega, World.ownsRow_nil _ _ _ _, by simp [go_sem], by simp [go_sem], by simp, by (repeat' (first | (with_reducible exact Below.refl _ _) | (with_reducible assumption) | (with_reducible refine Below.alloc ?_ ?_ _) | (with_reducible refine Below.drew ?_) | (with_reducible refine Below.draws ?_ _) | (with_reducible refine Below.setCell ?_ ?_ _) | (refine Below.then ?_ (by with_reducible assumption)) | go_size))⟩
  case round =>
    obtain ⟨k, m, t, pre, a', c', hk, hk12, rfl, rfl, rfl, hE, hm, ht, hO, hg1, hj1, hz, hB⟩ := hrel
    have HE := Lib.hid hE; have HO := Lib.hid hO; have HB := Lib.hid hB
    clear HRR
    by_cases hgo : k < n ∧ k < 12 ∧ t < 2000
    · obtain ⟨hkn, hk2, ht2⟩ := hgo
      obtain ⟨⟨x1, x2⟩, b, off, rfl, hb, h1, h2, HD⟩ := (HR.out.ext hB).next2 k hkn
      simp only [] at h1 h2
      have q1 : decide ((k : Int) < 12) = true := by simp <;> omega
      have q2 : decide (t < 2000) = true := by simpa using ht2
      obtain ⟨A, hA⟩ : ∃ A, low31 x1 = A := ⟨_, rfl⟩
      obtain ⟨M, hM⟩ : ∃ M, low1023 x2 = M := ⟨_, rfl⟩
      have hAb := low31_bd x1
      have hMb := low1023_bd x2
      rw [hA] at hAb
      rw [hM] at hMb
      have hA1 : bits BinOp.and IntKind.i64 x1 31 = A := hA
      have hM1 : bits BinOp.and IntKind.i64 x2 1023 = M := hM
      have hE2 := hE
      rw [HD.out, show 12 - k = (12 - (k + 1)) + 1 by omega, evs_step ht2] at hE2
      simp only [hA, hM] at hE2
      obtain ⟨Mr, hMr⟩ : ∃ x, M % (j + 1) = x := ⟨_, rfl⟩
      have hMr2 : M.tmod (j + 1) = Mr := by rw [Int.tmod_eq_emod_of_nonneg hMb.1]; exact hMr
      have hj0 : j + 1 ≠ 0 := by omega
      rw [hMr] at hE2
      have HE2 := Lib.hid hE2
      obtain ⟨T, hT⟩ : ∃ T, t + A = T := ⟨_, rfl⟩
      rw [hT] at HE2
      have wt : IntKind.i64.wrap (t + A) = T := by rw [IntWalk.i64_in _ (by omega), hT]
      have wj : IntKind.i64.wrap (j + 1) = j + 1 := IntWalk.i64_in _ (by omega)
      have wg : IntKind.i64.wrap (T + g) = T + g := IntWalk.i64_in _ (by omega)
      have hTb : 0 ≤ T + g ∧ T + g ≤ 10000 + ((k + 1 : Nat) : Int) * 10031 := by omega
      have hbz : b < wr.heap.size := Nat.lt_of_lt_of_le hb (Nat.le_refl _)
      obtain ⟨_, b0, o0, e0, hb0, _, _, _⟩ := HR.out.next2 k hkn
      simp at e0
      obtain ⟨rfl, rfl⟩ := e0
      have H2 := Lib.hid h2; have HJ := Lib.hid hj1; have HG := Lib.hid hg1
      have j1 := (HO.out.alloc (.cells #[.int .i64 T, .int .i64 Mr] 26)).drew
      have j2 : News ((wr.alloc (.cells #[.int .i64 T, .int .i64 Mr] 26)).drew) (some ⟨wr.heap.size, 0, none⟩) 1 1 [.int .i64 T, .int .i64 Mr] := .inr ⟨_, rfl, World.news_of_block (heap_alloc_new _ _)⟩
      have j3 : w.heap.size + 1 ≤ ((wr.alloc (.cells #[.int .i64 T, .int .i64 Mr] 26)).drew).heap.size := by simp; omega
      have J1 := Lib.hid j1; have J2 := Lib.hid j2; have J3 := Lib.hid j3
      clear hE hO hB hE2 hA hM hMr hT j1 j2 j3
      go_upto_region 7 with fail
      go_region_held3 (fun w' => w'.cell? ⟨b, off + k * 2 + 1, none⟩ = some (.int .i64 x2) ∧ w'.cell? ⟨w.heap.size, 2, none⟩ = some (.int .i64 j)) (first | go_keep)
        (first
         | (refine step_app (by rfl) _ _ _ (by rfl) e2 (B := w.heap.size + 1) (news := [.int .i64 T, .int .i64 Mr]) (by rfl) J1.out (by rfl) (by rfl) J2.out (by intro u hu; simp at hu; rcases hu with rfl | rfl <;> rfl) (by omega) (by decide) J3.out ?_
            intro a2 c2 w2 hown2 hg2
            have HO2 := Lib.hid hown2
            have HB2 := Lib.hid (Below.trans (Below.alloc (Below.refl (w.heap.size + 1) wr) hz _).drew (grown_below (B := w.heap.size + 1) (e := 26) (k := 2) J1.out hg2 J3.out))
            have q3 := (HB2.out.cell (p := ⟨b, off + k * 2 + 1, none⟩) (show b < w.heap.size + 1 by omega)).trans H2.out
            have q4 := (HB2.out.cell (p := ⟨w.heap.size, 2, none⟩) (show w.heap.size < w.heap.size + 1 by omega)).trans HJ.out
            have q5 := (HB2.out.cell (p := ⟨w.heap.size, 1, none⟩) (show w.heap.size < w.heap.size + 1 by omega)).trans HG.out
            clear hown2 hg2))
      have hz2 := HB2.out.size
      have zz : w.heap.size < w2.heap.size := by omega
      go_wp2
      go_roundw
      case rel =>
        refine ⟨k + 1, m + 1, T + g, pre ++ [(T, Mr)], a2, c2, hkn, by omega, rfl, rfl, by go_num, ?_, by omega, hTb, ?_, q5, q4, by omega, HB.out.trans (HB2.out.mono (by omega))⟩
        · rw [List.append_assoc, List.singleton_append]; exact HE2.out
        · rw [List.flatMap_append]; exact HO2.out
      case measure => simp [intOf]; omega
    · have hend : evs g j (12 - k) t (xs.drop k) = [] := by
        by_cases h1 : k < n
        · by_cases h2 : k < 12
          · exact evs_late (fun h3 => hgo ⟨h1, h2, h3⟩)
          · rw [show 12 - k = 0 by omega]; rfl
        · rw [List.drop_of_length_le (by rw [HL.out]; omega)]
          cases 12 - k <;> rfl
      have hpre : pre = R := by rw [hend, List.append_nil] at hE; exact hE
      subst hpre
      have hc : (¬ k < n) ∨ (k < n ∧ ¬ k < 12) ∨ (k < n ∧ k < 12 ∧ ¬ t < 2000) := by omega
      clear hE hO hB hend hgo
      rcases hc with h1 | ⟨h1, h2⟩ | ⟨h1, h2, h3⟩
      · have h1' : decide (k < n) = false := by simpa using h1
        have h1'' : decide ((k : Int) < (n : Int)) = false := by simp <;> omega
        go_wp2
        go_ret
        exact ⟨_, _, _, rfl, owns_mono HO.out (Nat.le_succ _), HB.out⟩
      · have h2' : decide (k < 12) = false := by simpa using h2
        have h2'' : decide ((k : Int) < 12) = false := by simp <;> omega
        go_wp2
        go_ret
        exact ⟨_, _, _, rfl, owns_mono HO.out (Nat.le_succ _), HB.out⟩
      · have h2'' : decide ((k : Int) < 12) = true := by simp <;> omega
        have h3' : decide (t < 2000) = false := by simpa using h3
        go_wp2
        go_ret
        exact ⟨_, _, _, rfl, owns_mono HO.out (Nat.le_succ _), HB.out⟩
end Go.Proofs.Ytmahagcghpoekaa
namespace Go.Proofs.Ytmahagcghpoekaa
open Go.RowKit
set_option linter.unusedSimpArgs false
set_option linter.unusedVariables false
def addP : Nat → List Ta → Nat
  | n, [] => n
  | n, t :: g => if n < 400 then addP (n + t.pcs.length) g else n
def manyL (n : Nat) (g : List Ta) : Bool := decide (400 ≤ addP n g)
theorem many_no : ∀ (g : List Ta) (n : Nat), addP n g < 400 → n < 400 ∧ ∀ t ∈ g, t.pcs.length < 400
  | [], n, h => ⟨h, by simp⟩
  | t :: g, n, h => by
    unfold addP at h
    split at h
    · obtain ⟨h1, h2⟩ := many_no g _ h
      refine ⟨by omega, fun u hu => ?_⟩
      rcases List.mem_cons.1 hu with rfl | hu
      · omega
      · exact h2 u hu
    · omega
theorem many_any (a : Option Addr) (n c : Nat) (L : List Ta) (w : World) (hL : RdL w a n L) (hT : ∀ t ∈ L, t.pcs.length ≤ 281474976710656) :
    Calls Try.prog 28 #[.slice a n c] w fun e w' => e = .returned (.bool (manyL n L)) ∧ w = w' := by
  have HR := Lib.hid hL
  have hs := hL.small
  have HTS := Lib.hid hT
  have HG0 := Lib.hid hL.length
  obtain ⟨R, hR⟩ : ∃ R, R = addP n L := ⟨_, rfl⟩
  have HST : Hid (addP n (L.drop 0) = R) := Lib.hid hR.symm
  rw [show manyL n L = decide (400 ≤ R) by rw [manyL, hR]]
  clear hL hT hR
  go_enter Try.func28, Try.ntmps28
  go_wp2
  go_loop [3, 4] (fun v i => ∃ (k m : Nat), k ≤ n ∧ v = .int .i64 m ∧ i = .int .i64 k ∧ addP m (L.drop k) = R ∧ (m : Int) ≤ 9223372036854775807) (fun _ i => n - (intOf i).toNat)
  case atStart => exact ⟨0, n, Nat.zero_le _, rfl, rfl, HST.out, by omega⟩
  case round =>
    obtain ⟨k, m, hk, rfl, rfl, he, hm⟩ := hrel
    have HE := Lib.hid he
    clear he
    by_cases hlt : k < n
    · obtain ⟨u, b, off, pa, pn, pc, rfl, hb, _, _, _, _, _, c5, hp, _, hg, HD⟩ := HR.out.at_ k hlt
      have htn : pn ≤ 281474976710656 := by rw [← hp.length]; exact HTS.out _ (List.mem_of_getElem? hg)
      have HE2 : Hid ((if m < 400 then addP (m + pn) (L.drop (k + 1)) else m) = R) := by have := HE.out; rw [HD.out, addP, hp.length] at this; exact this
      clear HE hp hg HD
      by_cases hm4 : m < 400
      · rw [if_pos hm4] at HE2
        have hm4' : (m : Int) < 400 := by omega
        go_wp2
        go_round
        case rel => exact ⟨k + 1, m + pn, by omega, by go_num, by go_num, HE2.out, by omega⟩
        case measure => simp [intOf]; omega
      · rw [if_neg hm4] at HE2
        have hv := HE2.out
        subst hv
        have hm4' : ¬ (m : Int) < 400 := by omega
        go_wp2
        go_ret
        exact ⟨ret_bool (by simp <;> omega), rfl⟩
    · have hv : R = m := by rw [← HE.out, drop_end HG0.out (by omega)]; rfl
      subst hv
      go_wp2
      go_ret
      exact ⟨ret_bool (by simp <;> omega), rfl⟩
/-- what it says of tasks -/
theorem manyL_no {n : Nat} {L : List Ta} (h : manyL n L = false) : n < 400 ∧ ∀ t ∈ L, t.pcs.length < 400 := many_no L n (by simpa [manyL] using h)
/-- the ceiling of a lock that is used -/
theorem ceil_used {L : List Ta} {i j : Nat} {u : Ta} {v : P2} (hu : L[i]? = some u) (hv : u.pcs[j]? = some v) : 0 ≤ ceilG L v.2 ∧ ceilG L v.2 < L.length ∧ ¬ Ahead L i (ceilG L v.2) := by
  have hc := isCeil L v.2
  have hus : uses L i v.2 := ⟨v, by rw [taAt_of hu]; exact List.mem_of_getElem? hv, rfl⟩
  have hi := (List.getElem?_eq_some_iff.1 hu).1
  rcases Int.lt_or_le (ceilG L v.2) 0 with h | h
  · exact absurd hus (hc.none_ h i hi)
  · refine ⟨h, hc.hi, fun ha => ?_⟩
    by_cases e : (i : Int) = ceilG L v.2
    · rw [← e] at ha; exact ahead_irr _ ha
    · exact ahead_asym _ _ ((hc.some_ h).2 i hi hus e) ha
end Go.Proofs.Ytmahagcghpoekaa
namespace Go.Proofs.Ytmahagcghpoekaa
open Go.RowKit
set_option linter.unusedSimpArgs false
set_option linter.unusedVariables false
def rdyB (n : Nat) (L : List Ta) (F S : Int) (ln : Nat) (t : Int) : Bool := (!manyL n L) && (decide (ln ≤ 20) && (decide (0 ≤ t ∧ t ≤ 600) && (validL L && supB F S)))
set_option maxRecDepth 100000 in
set_option maxHeartbeats 4000000 in
theorem readyB_any (a : Option Addr) (n c : Nat) (L : List Ta) (F S : Int) (la : Option Addr) (ln lc : Nat) (t : Int) (w : World) (hL : RdL w a n L) (hT : ∀ t ∈ L, t.pcs.length ≤ 281474976710656) :
    Calls Try.prog 7 #[.slice a n c, .agg #[.int .i64 F, .int .i64 S], .slice la ln lc, .int .i64 t] w fun e w' => e = .returned (.bool (rdyB n L F S ln t)) ∧ Below w.heap.size w w' := by
  have HM := Lib.hid (fun w' (hb : Below w.heap.size w w') => many_any a n c L w' (hL.ext hb) hT)
  obtain ⟨vl, hvl⟩ : ∃ v, validL L = v := ⟨_, rfl⟩
  have HV := Lib.hid (fun w' (hb : Below w.heap.size w w') => rValid_is (c := c) (hL.ext hb) hvl)
  obtain ⟨vs, hvs⟩ : ∃ v, supB F S = v := ⟨_, rfl⟩
  have HS := Lib.hid hvs
  obtain ⟨m, hm⟩ : ∃ v, manyL n L = v := ⟨_, rfl⟩
  unfold rdyB
  rw [hm] at HM
  rw [hm, hvl, hvs]
  clear hL hT hvl hvs hm
  cases m
  · by_cases h1 : ln ≤ 20
    · have h1' : decide ((20 : Int) < (ln : Int)) = false := by simp <;> omega
      have h1'' : decide (20 < ln) = false := by simp <;> omega
      rw [decide_eq_true h1]
      by_cases h2 : t < 0
      · have h2' : decide (t < 0) = true := by simpa using h2
        rw [decide_eq_false (show ¬ (0 ≤ t ∧ t ≤ 600) by omega)]
        go_enter Try.func7, Try.ntmps7
        go_wp2_with (go_at_call 28; (with_reducible refine (HM.out _ (by (repeat' (first | (with_reducible exact Below.refl _ _) | (with_reducible assumption) | (with_reducible refine Below.alloc ?_ ?_ _) | (with_reducible refine Below.drew ?_) | (with_reducible refine Below.draws ?_ _) | (with_reducible refine Below.setCell ?_ ?_ _) | (refine Below.then ?_ (by with_reducible assumption)) | go_size)))).mono ?_); rintro e w9 ⟨rfl, rfl⟩)
        go_ret
        exact ⟨rfl, by (repeat' (first | (with_reducible exact Below.refl _ _) | (with_reducible assumption) | (with_reducible refine Below.alloc ?_ ?_ _) | (with_reducible refine Below.drew ?_) | (with_reducible refine Below.draws ?_ _) | (with_reducible refine Below.setCell ?_ ?_ _) | (refine Below.then ?_ (by with_reducible assumption)) | go_size))⟩
      · have h2' : decide (t < 0) = false := by simpa using h2
        by_cases h3 : 600 < t
        · have h3' : decide (600 < t) = true := by simpa using h3
          rw [decide_eq_false (show ¬ (0 ≤ t ∧ t ≤ 600) by omega)]
          go_enter Try.func7, Try.ntmps7
          go_wp2_with (go_at_call 28; (with_reducible refine (HM.out _ (by (repeat' (first | (with_reducible exact Below.refl _ _) | (with_reducible assumption) | (with_reducible refine Below.alloc ?_ ?_ _) | (with_reducible refine Below.drew ?_) | (with_reducible refine Below.draws ?_ _) | (with_reducible refine Below.setCell ?_ ?_ _) | (refine Below.then ?_ (by with_reducible assumption)) | go_size)))).mono ?_); rintro e w9 ⟨rfl, rfl⟩)
          go_ret
          exact ⟨rfl, by (repeat' (first | (with_reducible exact Below.refl _ _) | (with_reducible assumption) | (with_reducible refine Below.alloc ?_ ?_ _) | (with_reducible refine Below.drew ?_) | (with_reducible refine Below.draws ?_ _) | (with_reducible refine Below.setCell ?_ ?_ _) | (refine Below.then ?_ (by with_reducible assumption)) | go_size))⟩
        · have h3' : decide (600 < t) = false := by simpa using h3
          rw [decide_eq_true (show (0 ≤ t ∧ t ≤ 600) by omega)]
          cases vl
          · go_enter Try.func7, Try.ntmps7
            go_wp2_with (first | (go_at_call 28; (with_reducible refine (HM.out _ (by (repeat' (first | (with_reducible exact Below.refl _ _) | (with_reducible assumption) | (with_reducible refine Below.alloc ?_ ?_ _) | (with_reducible refine Below.drew ?_) | (with_reducible refine Below.draws ?_ _) | (with_reducible refine Below.setCell ?_ ?_ _) | (refine Below.then ?_ (by with_reducible assumption)) | go_size)))).mono ?_); rintro e w9 ⟨rfl, rfl⟩) | (go_at_call 29; (with_reducible refine (HV.out _ (by (repeat' (first | (with_reducible exact Below.refl _ _) | (with_reducible assumption) | (with_reducible refine Below.alloc ?_ ?_ _) | (with_reducible refine Below.drew ?_) | (with_reducible refine Below.draws ?_ _) | (with_reducible refine Below.setCell ?_ ?_ _) | (refine Below.then ?_ (by with_reducible assumption)) | go_size)))).mono ?_); rintro e w1 ⟨rfl, hb1⟩; have x0 := (hb1.cell (p := ⟨w.heap.size, 0, none⟩) (by simp)).trans (show _ = some (.int .i64 F) by simp [go_sem]); have x1 := (hb1.cell (p := ⟨w.heap.size, 1, none⟩) (by simp)).trans (show _ = some (.int .i64 S) by simp [go_sem]); have B1 : Hid (Below w.heap.size w w1) := Lib.hid (Below.trans (by (repeat' (first | (with_reducible exact Below.refl _ _) | (with_reducible assumption) | (with_reducible refine Below.alloc ?_ ?_ _) | (with_reducible refine Below.drew ?_) | (with_reducible refine Below.draws ?_ _) | (with_reducible refine Below.setCell ?_ ?_ _) | (refine Below.then ?_ (by with_reducible assumption)) | go_size))) (hb1.mono (by simp))); have z1 : w.heap.size < w1.heap.size := Nat.lt_of_lt_of_le (by simp) hb1.size; clear hb1))
            go_ret
            exact ⟨rfl, B1.out⟩
          · cases vs
            · go_enter Try.func7, Try.ntmps7
              go_wp2_with (first | (go_at_call 28; (with_reducible refine (HM.out _ (by (repeat' (first | (with_reducible exact Below.refl _ _) | (with_reducible assumption) | (with_reducible refine Below.alloc ?_ ?_ _) | (with_reducible refine Below.drew ?_) | (with_reducible refine Below.draws ?_ _) | (with_reducible refine Below.setCell ?_ ?_ _) | (refine Below.then ?_ (by with_reducible assumption)) | go_size)))).mono ?_); rintro e w9 ⟨rfl, rfl⟩) | (go_at_call 30; (with_reducible refine (rsupV_is HS.out).mono ?_); rintro e w2 ⟨rfl, hb2⟩; have B2 := Lib.hid (Below.then B1.out hb2); clear hb2) | (go_at_call 29; (with_reducible refine (HV.out _ (by (repeat' (first | (with_reducible exact Below.refl _ _) | (with_reducible assumption) | (with_reducible refine Below.alloc ?_ ?_ _) | (with_reducible refine Below.drew ?_) | (with_reducible refine Below.draws ?_ _) | (with_reducible refine Below.setCell ?_ ?_ _) | (refine Below.then ?_ (by with_reducible assumption)) | go_size)))).mono ?_); rintro e w1 ⟨rfl, hb1⟩; have x0 := (hb1.cell (p := ⟨w.heap.size, 0, none⟩) (by simp)).trans (show _ = some (.int .i64 F) by simp [go_sem]); have x1 := (hb1.cell (p := ⟨w.heap.size, 1, none⟩) (by simp)).trans (show _ = some (.int .i64 S) by simp [go_sem]); have B1 : Hid (Below w.heap.size w w1) := Lib.hid (Below.trans (by (repeat' (first | (with_reducible exact Below.refl _ _) | (with_reducible assumption) | (with_reducible refine Below.alloc ?_ ?_ _) | (with_reducible refine Below.drew ?_) | (with_reducible refine Below.draws ?_ _) | (with_reducible refine Below.setCell ?_ ?_ _) | (refine Below.then ?_ (by with_reducible assumption)) | go_size))) (hb1.mono (by simp))); have z1 : w.heap.size < w1.heap.size := Nat.lt_of_lt_of_le (by simp) hb1.size; clear hb1))
              go_ret
              exact ⟨rfl, B2.out⟩
            · go_enter Try.func7, Try.ntmps7
              go_wp2_with (first | (go_at_call 28; (with_reducible refine (HM.out _ (by (repeat' (first | (with_reducible exact Below.refl _ _) | (with_reducible assumption) | (with_reducible refine Below.alloc ?_ ?_ _) | (with_reducible refine Below.drew ?_) | (with_reducible refine Below.draws ?_ _) | (with_reducible refine Below.setCell ?_ ?_ _) | (refine Below.then ?_ (by with_reducible assumption)) | go_size)))).mono ?_); rintro e w9 ⟨rfl, rfl⟩) | (go_at_call 30; (with_reducible refine (rsupV_is HS.out).mono ?_); rintro e w2 ⟨rfl, hb2⟩; have B2 := Lib.hid (Below.then B1.out hb2); clear hb2) | (go_at_call 29; (with_reducible refine (HV.out _ (by (repeat' (first | (with_reducible exact Below.refl _ _) | (with_reducible assumption) | (with_reducible refine Below.alloc ?_ ?_ _) | (with_reducible refine Below.drew ?_) | (with_reducible refine Below.draws ?_ _) | (with_reducible refine Below.setCell ?_ ?_ _) | (refine Below.then ?_ (by with_reducible assumption)) | go_size)))).mono ?_); rintro e w1 ⟨rfl, hb1⟩; have x0 := (hb1.cell (p := ⟨w.heap.size, 0, none⟩) (by simp)).trans (show _ = some (.int .i64 F) by simp [go_sem]); have x1 := (hb1.cell (p := ⟨w.heap.size, 1, none⟩) (by simp)).trans (show _ = some (.int .i64 S) by simp [go_sem]); have B1 : Hid (Below w.heap.size w w1) := Lib.hid (Below.trans (by (repeat' (first | (with_reducible exact Below.refl _ _) | (with_reducible assumption) | (with_reducible refine Below.alloc ?_ ?_ _) | (with_reducible refine Below.drew ?_) | (with_reducible refine Below.draws ?_ _) | (with_reducible refine Below.setCell ?_ ?_ _) | (refine Below.then ?_ (by with_reducible assumption)) | go_size))) (hb1.mono (by simp))); have z1 : w.heap.size < w1.heap.size := Nat.lt_of_lt_of_le (by simp) hb1.size; clear hb1))
              go_ret
              exact ⟨rfl, B2.out⟩
    · have h1' : decide ((20 : Int) < (ln : Int)) = true := by simp <;> omega
      have h1'' : decide (20 < ln) = true := by simp <;> omega
      rw [decide_eq_false h1]
      go_enter Try.func7, Try.ntmps7
      go_wp2_with (go_at_call 28; (with_reducible refine (HM.out _ (by (repeat' (first | (with_reducible exact Below.refl _ _) | (with_reducible assumption) | (with_reducible refine Below.alloc ?_ ?_ _) | (with_reducible refine Below.drew ?_) | (with_reducible refine Below.draws ?_ _) | (with_reducible refine Below.setCell ?_ ?_ _) | (refine Below.then ?_ (by with_reducible assumption)) | go_size)))).mono ?_); rintro e w9 ⟨rfl, rfl⟩)
      go_ret
      exact ⟨rfl, by (repeat' (first | (with_reducible exact Below.refl _ _) | (with_reducible assumption) | (with_reducible refine Below.alloc ?_ ?_ _) | (with_reducible refine Below.drew ?_) | (with_reducible refine Below.draws ?_ _) | (with_reducible refine Below.setCell ?_ ?_ _) | (refine Below.then ?_ (by with_reducible assumption)) | go_size))⟩
  · go_enter Try.func7, Try.ntmps7
    go_wp2_with (go_at_call 28; (with_reducible refine (HM.out _ (by (repeat' (first | (with_reducible exact Below.refl _ _) | (with_reducible assumption) | (with_reducible refine Below.alloc ?_ ?_ _) | (with_reducible refine Below.drew ?_) | (with_reducible refine Below.draws ?_ _) | (with_reducible refine Below.setCell ?_ ?_ _) | (refine Below.then ?_ (by with_reducible assumption)) | go_size)))).mono ?_); rintro e w9 ⟨rfl, rfl⟩)
    go_ret
    exact ⟨rfl, by (repeat' (first | (with_reducible exact Below.refl _ _) | (with_reducible assumption) | (with_reducible refine Below.alloc ?_ ?_ _) | (with_reducible refine Below.drew ?_) | (with_reducible refine Below.draws ?_ _) | (with_reducible refine Below.setCell ?_ ?_ _) | (refine Below.then ?_ (by with_reducible assumption)) | go_size))⟩
end Go.Proofs.Ytmahagcghpoekaa
namespace Go.Proofs.Ytmahagcghpoekaa
open Go.RowKit
set_option linter.unusedSimpArgs false
set_option linter.unusedVariables false
theorem EEv : Elt Try.prog 25 30 1 24 := Elt.mk' (z := .slice none 0 0) Try.underlying25 (by kernel_rfl) rfl (by decide)
/-- the events of task i -/
def tev (L : List Ta) (late : List (List P2)) (i : Nat) : List P2 := if i < late.length then evs (taAt L i).gap (taAt L i).jit 12 (taAt L i).first (evAt late i) else []
def topEv (L : List Ta) (late : List (List P2)) : List (List P2) := (List.range L.length).map (tev L late)
def topR (L : List Ta) (F S : Int) (late : List (List P2)) : Rn := ⟨L, F, S, topEv L late, List.replicate L.length 0, []⟩
/-- the run under way in memory -/
structure RunM (w wr : World) (Q B : Nat) (a : Option Addr) (n c : Nat) (F S : Int) (k : Nat) (g : List EvV) (ea : Option Addr) (ec : Nat) (ba : Option Addr) (bc : Nat) : Prop where
  c0 : wr.cell? ⟨Q, 0, none⟩ = some (.slice a n c)
  c1 : wr.cell? ⟨Q, 1, none⟩ = some (.int .i64 F)
  c2 : wr.cell? ⟨Q, 2, none⟩ = some (.int .i64 S)
  c3 : wr.cell? ⟨Q, 3, none⟩ = some (.slice ea k ec)
  c4 : wr.cell? ⟨Q, 4, none⟩ = some (.slice ba k bc)
  c5 : wr.cell? ⟨Q, 5, none⟩ = some (.slice none 0 0)
  f : ∀ j, wr.frozen? ⟨Q, j, none⟩ = false
  ev : wr.ownsRow B 30 1 (.slice ea k ec) k (g.flatMap encV)
  rows : ∀ v ∈ g, wr.ownsRow B 26 2 (.slice v.a v.n v.c) v.n (v.es.flatMap enc2)
  bu : wr.ownsRow B 3 1 (.slice ba k bc) k ((List.replicate k (0 : Int)).flatMap enc1)
  sz : B ≤ wr.heap.size
  lb : Below w.heap.size w wr
/-- the result's block stays -/
def ResB (wr : World) (Z : Nat) : Prop := Blk wr Z #[.slice none 0 0, .int .i64 0, .int .i64 0, .slice none 0 0, .slice none 0 0, .slice none 0 0]
theorem encV_len (v : EvV) : (encV v).length = 1 := rfl
/-- a row of events has been made: W2 is the world behind the append of its header, the header is stored, then the budget's row grows: W3 -/
theorem RunM.push {w wr wx W2 W3 : World} {Q B : Nat} {a : Option Addr} {n c : Nat} {F S : Int} {k : Nat} {g : List EvV} {ea ea' : Option Addr} {ec ec' : Nat} {ba ba' : Option Addr} {bc bc' : Nat} {v : EvV} {o1 o2 : Obj}
    (h : RunM w wr Q B a n c F S k g ea ec ba bc) (hQ : Q < B) (hwB : w.heap.size ≤ Q) (hx : Below wr.heap.size wr wx) (hv : wx.ownsRow B 26 2 (.slice v.a v.n v.c) v.n (v.es.flatMap enc2))
    (h2 : W2.ownsRow B 30 1 (.slice ea' (k + 1) ec') (k + 1) (g.flatMap encV ++ encV v)) (g2 : (wx.alloc o1).grownBy W2 (Value.slice ea k ec).ownBlock)
    (h3 : W3.ownsRow B 3 1 (.slice ba' (k + 1) bc') (k + 1) ((List.replicate k (0 : Int)).flatMap enc1 ++ [.int .i64 0])) (g3 : ((W2.setCell ⟨Q, 3, none⟩ (.slice ea' (k + 1) ec')).alloc o2).grownBy W3 (Value.slice ba k bc).ownBlock) :
    RunM w (W3.setCell ⟨Q, 4, none⟩ (.slice ba' (k + 1) bc')) Q B a n c F S (k + 1) (g ++ [v]) ea' ec' ba' bc' := by
  have hz := h.sz
  have hzx := hx.size
  have evx := owns_ext h.ev hx
  have bux := owns_ext h.bu hx
  have hb2 : Below B wx W2 := ((Below.refl B wx).alloc (by omega) o1).trans (grown_below (evx.alloc o1) g2 (by rw [World.size_alloc]; omega))
  have hz2 := hb2.size
  have bu2 : W2.ownsRow B 3 1 (.slice ba k bc) k ((List.replicate k (0 : Int)).flatMap enc1) := owns_kept (bux.alloc o1) (evx.alloc o1) (by decide) g2
  have bu2' := owns_far bu2 hQ (j := 3) (.slice ea' (k + 1) ec')
  have h2' := owns_far h2 hQ (j := 3) (.slice ea' (k + 1) ec')
  have hb3 : Below B (W2.setCell ⟨Q, 3, none⟩ (.slice ea' (k + 1) ec')) W3 := ((Below.refl B _).alloc (by simp; omega) o2).trans (grown_below (bu2'.alloc o2) g3 (by rw [World.size_alloc]; simp; omega))
  have hz3 := hb3.size
  have cx : ∀ j, wx.cell? ⟨Q, j, none⟩ = wr.cell? ⟨Q, j, none⟩ := fun j => hx.cell (p := ⟨Q, j, none⟩) (show Q < wr.heap.size by omega)
  have c2 : ∀ j, W2.cell? ⟨Q, j, none⟩ = wr.cell? ⟨Q, j, none⟩ := fun j => (hb2.cell (p := ⟨Q, j, none⟩) hQ).trans (cx j)
  have c3 : ∀ j, j ≠ 3 → W3.cell? ⟨Q, j, none⟩ = wr.cell? ⟨Q, j, none⟩ := fun j hj => (hb3.cell (p := ⟨Q, j, none⟩) hQ).trans ((World.cell?_setCell_other _ _ _ _ (addr_neS (.inr (fun q => hj q.symm)))).trans (c2 j))
  have c33 : W3.cell? ⟨Q, 3, none⟩ = some (.slice ea' (k + 1) ec') := (hb3.cell (p := ⟨Q, 3, none⟩) hQ).trans (World.cell?_setCell_same _ _ _ ((c2 3).trans h.c3))
  have fin : ∀ j, j ≠ 4 → (W3.setCell ⟨Q, 4, none⟩ (.slice ba' (k + 1) bc')).cell? ⟨Q, j, none⟩ = W3.cell? ⟨Q, j, none⟩ := fun j hj => World.cell?_setCell_other _ _ _ _ (addr_neS (.inr (fun q => hj q.symm)))
  have row2 : ∀ {u : EvV}, wx.ownsRow B 26 2 (.slice u.a u.n u.c) u.n (u.es.flatMap enc2) → (W3.setCell ⟨Q, 4, none⟩ (.slice ba' (k + 1) bc')).ownsRow B 26 2 (.slice u.a u.n u.c) u.n (u.es.flatMap enc2) := fun hu =>
    owns_far (owns_kept ((owns_far (owns_kept (hu.alloc o1) (evx.alloc o1) (by decide) g2) hQ _).alloc o2) (bu2'.alloc o2) (by decide) g3) hQ _
  refine ⟨(fin 0 (by decide)).trans ((c3 0 (by decide)).trans h.c0), (fin 1 (by decide)).trans ((c3 1 (by decide)).trans h.c1), (fin 2 (by decide)).trans ((c3 2 (by decide)).trans h.c2), (fin 3 (by decide)).trans c33, World.cell?_setCell_same _ _ _ ((c3 4 (by decide)).trans h.c4), (fin 5 (by decide)).trans ((c3 5 (by decide)).trans h.c5), fun j => ?_, ?_, fun u hu => ?_, ?_, by simp; simp at hz3; omega, ?_⟩
  · rw [World.frozen?_setCell]
    exact (hb3.frozen (p := ⟨Q, j, none⟩) hQ).trans (by rw [World.frozen?_setCell]; exact (hb2.frozen (p := ⟨Q, j, none⟩) hQ).trans ((hx.frozen (p := ⟨Q, j, none⟩) (show Q < wr.heap.size by omega)).trans (h.f j)))
  · rw [List.flatMap_append]
    have e : [v].flatMap encV = encV v := by simp
    rw [e]
    exact owns_far (owns_kept (h2'.alloc o2) (bu2'.alloc o2) (by decide) g3) hQ _
  · rcases List.mem_append.1 hu with hu | hu
    · exact row2 (owns_ext (h.rows u hu) hx)
    · simp at hu; subst hu; exact row2 hv
  · rw [List.replicate_succ', List.flatMap_append]
    exact owns_far h3 hQ _
  · have l2 : Below w.heap.size w W2 := (Below.then h.lb hx).trans (hb2.mono (by omega))
    have l3 := (l2.setCell (p := ⟨Q, 3, none⟩) hwB (.slice ea' (k + 1) ec')).trans (hb3.mono (by omega))
    exact l3.setCell (p := ⟨Q, 4, none⟩) hwB _
theorem ResB.push {wr wx W2 W3 : World} {Q B Z : Nat} {k : Nat} {ea ba : Option Addr} {ec bc : Nat} {xs ys : List Value} {o1 o2 : Obj} {u1 u2 : Value}
    (h : ResB wr Z) (hZ : Z < B) (hzw : B ≤ wr.heap.size) (hne : Z ≠ Q) (hx : Below wr.heap.size wr wx)
    (e1 : wx.ownsRow B 30 1 (.slice ea k ec) k xs) (g2 : (wx.alloc o1).grownBy W2 (Value.slice ea k ec).ownBlock)
    (e2 : (W2.setCell ⟨Q, 3, none⟩ u1).ownsRow B 3 1 (.slice ba k bc) k ys) (g3 : ((W2.setCell ⟨Q, 3, none⟩ u1).alloc o2).grownBy W3 (Value.slice ba k bc).ownBlock) :
    ResB (W3.setCell ⟨Q, 4, none⟩ u2) Z := by
  have hzx := hx.size
  have hb2 : Below B wx W2 := ((Below.refl B wx).alloc (by omega) o1).trans (grown_below (e1.alloc o1) g2 (by rw [World.size_alloc]; omega))
  have hz2 := hb2.size
  have hb3 : Below B (W2.setCell ⟨Q, 3, none⟩ u1) W3 := ((Below.refl B _).alloc (by simp; omega) o2).trans (grown_below (e2.alloc o2) g3 (by rw [World.size_alloc]; simp; omega))
  have hz3 := hb3.size
  refine ⟨fun j => ?_, fun j => ?_, by simp; simp at hz3; omega⟩
  · rw [World.cell?_setCell_other _ _ _ _ (addr_neS (.inl (fun q => hne q.symm)))]
    refine (hb3.cell (p := ⟨Z, j, none⟩) hZ).trans ((World.cell?_setCell_other _ _ _ _ (addr_neS (.inl (fun q => hne q.symm)))).trans ?_)
    exact (hb2.cell (p := ⟨Z, j, none⟩) hZ).trans ((hx.cell (p := ⟨Z, j, none⟩) h.l).trans (h.c j))
  · rw [World.frozen?_setCell]
    refine (hb3.frozen (p := ⟨Z, j, none⟩) hZ).trans ?_
    rw [World.frozen?_setCell]
    exact (hb2.frozen (p := ⟨Z, j, none⟩) hZ).trans ((hx.frozen (p := ⟨Z, j, none⟩) h.l).trans (h.f j))
end Go.Proofs.Ytmahagcghpoekaa
