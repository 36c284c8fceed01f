/- Who works: nobody ahead is there. No condition: plain lemmas. The walk of SchedRanks: it returns true. The conditions: the run reads as named. -/
import Derived.Test.YtlhnhmimhpcoaaaMg13
import Derived.Test.YtlhnhmimhpcoaaaMg7
import Derived.Test.YtlhnhmimhpcoaaaMg12
import Derived.BigRegion
namespace Go.Proofs.Ytlhnhmimhpcoaaa
open Go.RowKit
set_option linter.unusedSimpArgs false
set_option linter.unusedVariables false
/-- the task whose rank a piece has -/
def raisA (L : List Ta) (y p : Nat) : Int := if 0 ≤ lkA L y p then ceilG L (lkA L y p) else y
/-- task x is ahead of the work of piece p of task y -/
def AheadW (L : List Ta) (x y p : Nat) : Prop := x < L.length ∧ cnt L x < cnt L y ∧ cnt L x < cnt L (raisA L y p)
structure RkI (R : Rn) (s : Ms) : Prop where
  h : ∀ e ∈ s.o, e.w = 4 → ∀ y p : Nat, e.k = (y : Int) → e.a = (p : Int) → ∀ x k : Nat, AheadW R.L x y p → k < (evA R x).length → relT (evA R x) k ≤ e.m → 0 ≤ endF s.o x k ∧ endF s.o x k ≤ e.m
theorem RkI.of {R : Rn} {s s' : Ms} (h : RkI R s) {l : List En} (ho : s'.o = s.o ++ l) (h5 : ∀ e ∈ l, e.w ≠ 5 ∧ e.w ≠ 4) : RkI R s' := by
  have he : ∀ i x, endF s'.o i x = endF s.o i x := fun i x => by rw [ho]; exact endF_app _ _ _ _ (fun e q r => (h5 e q).1 r.1)
  refine ⟨fun e q w4 y p hy hp x k ha hk hr => ?_⟩
  rw [he]
  rw [ho, List.mem_append] at q
  rcases q with q | q
  · exact h.h e q w4 y p hy hp x k ha hk hr
  · exact absurd w4 (h5 e q).2
theorem RkI.fin {R : Rn} {T : Int} {s : Ms} {at_ : List Nat} (h : RkI R s) (hE : EI R T s at_) {i a : Nat} {how : Int} (hi : i < R.L.length) (ha : at_[i]? = some a) (hx : (ordE (evA R i))[a]? = some (s.hd i)) : RkI R (fin1 T i how s) := by
  have ho : (fin1 T i how s).o = s.o ++ [⟨T, i, 5, s.hd i, how⟩] := rfl
  refine ⟨fun e q w4 y p hy hp x k hA hk hr => ?_⟩
  rw [ho, List.mem_append] at q
  rcases q with q | q
  · have h0 := h.h e q w4 y p hy hp x k hA hk hr
    have e1 : endF (fin1 T i how s).o x k = endF s.o x k := by
      rw [ho, endF_one]
      unfold endG
      rw [if_neg]
      rintro ⟨_, h1, h2⟩
      simp only [] at h1 h2
      have : i = x := by omega
      subst this
      have := hE.new i a a _ ha hx (Nat.le_refl _)
      rw [h2] at this
      omega
    rw [e1]; exact h0
  · simp at q; subst q; simp at w4
theorem ahead_idle {R : Rn} {s : Ms} {y : Nat} (hm : MOk R s) (hch : Chosen R s y) {x : Nat} (hA : AheadW R.L x y (s.ja y).p) : s.qa x = [] := by
  obtain ⟨hx, h1, h2⟩ := hA
  by_cases hq : s.qa x = []
  · exact hq
  · exfalso
    have hk := hch.le x hx hq
    have hto := (hm.to_ hx).2
    unfold keyI at hk
    have ho : ownI R.L s x ≤ 1 := by unfold ownI; split <;> omega
    have hle : cnt R.L (toI R.L s y) ≤ cnt R.L x := by omega
    cases hc : insB R.L s y
    · rw [toI_no hc] at hle; omega
    · have hl := (insB_iff.1 hc).2
      have e : toI R.L s y = raisA R.L y (s.ja y).p := by
        unfold toI raisA
        rw [hc, if_pos hl]; rfl
      rw [e] at hle; omega
theorem idle_ends {R : Rn} {t T : Int} {s : Ms} {at_ : List Nat} (hq : QR R t s at_) (hE : EI R T s at_) {x k : Nat} (hx : x < R.L.length) (h0 : s.qa x = []) (hk : k < (evA R x).length) (hr : relT (evA R x) k ≤ t) : 0 ≤ endF s.o x k ∧ endF s.o x k ≤ T := by
  have hil : x < at_.length := by rw [hq.len]; exact hx
  have ha := List.getElem?_eq_getElem hil
  obtain ⟨j, hj⟩ := List.getElem?_of_mem (ordE_mem (l := evA R x).2 ⟨show (0 : Int) ≤ (k : Int) by omega, by omega⟩)
  obtain ⟨g1, g2⟩ := hq.q x _ ha
  rw [h0] at g1
  have h2 := congrArg List.length g1
  rw [List.length_drop] at h2
  simp only [List.length_nil] at h2
  have hlt := ((outE_facts (evA R x) t).2 j _ hj).1 hr
  exact hE.old x _ j _ ha hj (by omega)
theorem RkI.work {R : Rn} {t : Int} {s : Ms} {at_ : List Nat} {i a : Nat} (h : RkI R s) (hE : EI R t s at_) (hm : MOk R s) (hq : QR R t s at_) (hch : Chosen R s i) (ha : at_[i]? = some a) : RkI R (wk1 R t i s) := by
  have ho : (wk1 R t i s).o = s.o ++ [⟨t, i, 4, (s.ja i).p, s.hd i⟩] := rfl
  refine ⟨fun e q w4 y p hy hp x k hA hk hr => ?_⟩
  have e1 : endF (wk1 R t i s).o x k = endF s.o x k := by rw [ho]; exact endF_app _ _ _ _ (fun e q r => by simp at q; subst q; simp at r)
  rw [e1]
  rw [ho, List.mem_append] at q
  rcases q with q | q
  · exact h.h e q w4 y p hy hp x k hA hk hr
  · simp at q; subst q
    simp only [] at hy hp hr ⊢
    obtain rfl : i = y := by omega
    obtain rfl : (s.ja i).p = p := by omega
    exact idle_ends hq hE hA.1 (ahead_idle hm hch hA) hk hr
theorem rk_steps {R : Rn} (hr : RnOk R) : Steps R (fun t s at_ => EI R t s at_ ∧ RkI R s) (fun t s at_ => EI R (t + 1) s at_ ∧ RkI R s) := by
  have hE := ends_steps hr
  refine ⟨?_, ?_, ?_, ?_, ?_, ?_, ?_, ?_⟩
  · intro t s at_ hm hq hp
    obtain ⟨l, h1, h2⟩ := relA_newE t R.ev 0 s
    exact ⟨hE.rel t s at_ hm hq hp.1, hp.2.of h1 (fun e q => by rw [(h2 e q).2]; decide)⟩
  · intro t s at_ i hm hq hi hn hp
    exact ⟨hE.sig t s at_ i hm hq hi hn hp.1, hp.2.of (l := [⟨t, i, 2, 0, 0⟩]) rfl (fun e q => by simp at q; subst q; simp)⟩
  · intro t s at_ i a hm hq hi hn ha hs hin hp
    exact ⟨hE.fin t s at_ i a hm hq hi hn ha hs hin hp.1, hp.2.fin hp.1 hi ha (hq.event ha hn)⟩
  · intro t s at_ hm hq hs hg hp
    exact ⟨hE.gc t s at_ hm hq hs hg hp.1, hp.2.of (l := [⟨t, -1, 3, 0, 0⟩]) rfl (fun e q => by simp at q; subst q; simp)⟩
  · intro t s at_ hm hq hs hg hn hp
    exact ⟨hE.idle t s at_ hm hq hs hg hn hp.1, hp.2⟩
  · intro t s at_ i a hm hq hs hg hch ha hfin hp
    refine ⟨hE.w0 t s at_ i a hm hq hs hg hch ha hfin hp.1, ?_⟩
    have h1 := hp.1.work hm hq hch ha
    exact (hp.2.work hp.1 hm hq hch ha).fin (s := wk1 R t i s) h1 hch.lt ha (hq.event ha hch.rd)
  · intro t s at_ i a hm hq hs hg hch ha hpl hbu hp
    exact ⟨hE.w1 t s at_ i a hm hq hs hg hch ha hpl hbu hp.1, hp.2.work hp.1 hm hq hch ha⟩
  · intro t s at_ i a hm hq hs hg hch ha hpl hbu hp
    refine ⟨hE.w2 t s at_ i a hm hq hs hg hch ha hpl hbu hp.1, ?_⟩
    exact (hp.2.work hp.1 hm hq hch ha).of (s' := wk2 R t i s) (l := [⟨t + 1, i, 6, s.hd i, 0⟩]) rfl (fun e q => by simp at q; subst q; simp)
theorem plM_rk {R : Rn} (hr : RnOk R) (k : Nat) : RkI R (plM R k) := by
  obtain ⟨at_, _, h1, h2⟩ := (rk_steps hr).run hr ⟨EI.zero hr, ⟨fun e q => by simp [ms0] at q⟩⟩ k
  exact h2
/-- those ahead of both, as the law takes them from the ranks -/
theorem ranks_before {L : List Ta} {i : Nat} {x : Int} (hx : (rankL L)[i]? = some x) {y r : Int} (hy0 : 0 ≤ y ∧ y < L.length) (hr0 : 0 ≤ r ∧ r < L.length) (h : ∀ j, j ≤ i → (rankL L)[j]? ≠ some r ∧ (rankL L)[j]? ≠ some y) : cnt L x < cnt L y ∧ cnt L x < cnt L r := by
  have e := rank_cnt hx
  have ey := rank_at hy0.1 hy0.2
  have er := rank_at hr0.1 hr0.2
  constructor
  · rcases Nat.lt_or_ge (cnt L x) (cnt L y) with q | q
    · exact q
    · exact absurd ey (h _ (by omega)).2
  · rcases Nat.lt_or_ge (cnt L x) (cnt L r) with q | q
    · exact q
    · exact absurd er (h _ (by omega)).1
end Go.Proofs.Ytlhnhmimhpcoaaa
namespace Go.Proofs.Ytlhnhmimhpcoaaa
open Go.RowKit
set_option linter.unusedSimpArgs false
set_option linter.unusedVariables false
theorem raised_A {L : List Ta} (h : Right L) {y p : Nat} (hy : y < L.length) (hp : p < (taAt L y).pcs.length) : raisedR L y p = (raisA L y p, 0) := by
  unfold raisedR
  rw [if_pos (by rw [Bool.and_eq_true, isTk_iff, inB_iff]; exact ⟨⟨right_B h, by omega, by omega⟩, by omega, by omega⟩), Int.toNat_natCast]
  have e : (((taAt L y).pcs)[p]?).getD default = pcA L y p := rfl
  rw [e]
  unfold raisA lkA
  by_cases hk : (pcA L y p).2 < 0
  · rw [if_pos hk, if_neg (by omega)]
  · rw [if_neg hk, if_pos (by omega)]
theorem raisA_in {L : List Ta} {y p : Nat} (hy : y < L.length) (hp : p < (taAt L y).pcs.length) : 0 ≤ raisA L y p ∧ raisA L y p < L.length := by
  unfold raisA
  split
  · exact (ceil_le hy (pc_uses hp)).1
  · omega
theorem rRaisedW_is {a : Option Addr} {n c : Nat} {L : List Ta} {t p x y : Int} {w : World} (hL : RdL w a n L) (h : raisedR L t p = (x, y)) :
    Calls Try.prog 25 #[.slice a n c, .int .i64 t, .int .i64 p] w fun e w' => e = rII x y ∧ Below w.heap.size w w' := by
  have := rRaised_any a n c L t p w hL
  rw [h] at this; exact this
theorem rRanksW_is {a : Option Addr} {n c : Nat} {L : List Ta} {xs : List Int} {y : Int} {w : World} (hL : RdL w a n L) (h : ranksR L = (xs, y)) : Calls Try.prog 24 #[.slice a n c] w (OutTE w.heap.size w xs y) := by
  have := rRanks_any a n c L w hL
  rw [h] at this; exact this
set_option maxRecDepth 100000 in
set_option maxHeartbeats 8000000 in
theorem ranks_walk {w : World} (H : RunH) (R : Rn) (hR : ReadRun w H R) (hS : RunS H R) (t : Int) (ht : -9223372036854775808 ≤ t ∧ t ≤ 9223372036854775807) :
    Calls Try.prog 8 #[runV H R.fr R.sl, .int .i64 t] w fun e w' => e = .returned (.bool true) ∧ Below w.heap.size w w' := by
  have HH := Lib.hid (fun w1 (hb : Below w.heap.size w w1) => heavy_any H R w1 (hR.ext hb) hS)
  have HS := Lib.hid (fun w1 (hb : Below w.heap.size w w1) => Simulate_any H R t w1 (hR.ext hb))
  have HE := Lib.hid (fun w1 (hb : Below w.heap.size w w1) => Ends_any H R t w1 (hR.ext hb))
  obtain ⟨B, hB⟩ : ∃ B, heavyB R = B := ⟨_, rfl⟩
  rw [hB] at HH
  obtain ⟨C, hC⟩ : ∃ C, (runB R && inB t 0 2000) = C := ⟨_, rfl⟩
  unfold simR at HS
  unfold endN endE at HE
  rw [hC] at HS HE
  cases B
  · cases C
    · have HAS := Lib.hid (as_any H R.fr R.sl)
      have HRS := Lib.hid (fun w1 (hb : Below w.heap.size w w1) => rSim_bad H R t w1 (hR.ext hb) hC)
      obtain ⟨fr, hfr⟩ : ∃ x, R.fr = x := ⟨_, rfl⟩
      obtain ⟨sl_, hsl⟩ : ∃ x, R.sl = x := ⟨_, rfl⟩
      rw [hfr, hsl] at HH HS HE HAS HRS ⊢
      obtain ⟨tA, tN, tC, eA, eN, eC, bA, bN, bC, sA, sN, sC⟩ := H
      unfold runV at HH HS HE HAS HRS ⊢
      simp only [] at HH HS HE HAS HRS ⊢
      clear hR hS hB hfr hsl hC
      go_enter Try.func8, Try.ntmps8
      go_wp2_with (first | (go_at_call 13; (with_reducible refine (HH.out _ (by (repeat' (first | (with_reducible exact Below.refl _ _) | (with_reducible assumption) | (with_reducible refine Below.alloc ?_ ?_ _) | (with_reducible refine Below.drew ?_) | (with_reducible refine Below.draws ?_ _) | (with_reducible refine Below.setCell ?_ ?_ _) | (refine Below.then ?_ (by with_reducible assumption)) | go_size)))).mono ?_); rintro e w1 ⟨rfl, hb1⟩; have B1 : Hid (Below w.heap.size w w1) := Lib.hid (Below.trans (by (repeat' (first | (with_reducible exact Below.refl _ _) | (with_reducible assumption) | (with_reducible refine Below.alloc ?_ ?_ _) | (with_reducible refine Below.drew ?_) | (with_reducible refine Below.draws ?_ _) | (with_reducible refine Below.setCell ?_ ?_ _) | (refine Below.then ?_ (by with_reducible assumption)) | go_size))) (hb1.mono (by simp))); have z1 : w.heap.size < w1.heap.size := Nat.lt_of_lt_of_le (by simp) hb1.size; have c1_0 := (hb1.cell (p := ⟨w.heap.size, 0, none⟩) (by simp)).trans (by simp [go_sem]; rfl); have c1_1 := (hb1.cell (p := ⟨w.heap.size, 1, none⟩) (by simp)).trans (by simp [go_sem]; rfl); have c1_2 := (hb1.cell (p := ⟨w.heap.size, 2, none⟩) (by simp)).trans (by simp [go_sem]; rfl); have c1_3 := (hb1.cell (p := ⟨w.heap.size, 3, none⟩) (by simp)).trans (by simp [go_sem]; rfl); have c1_4 := (hb1.cell (p := ⟨w.heap.size, 4, none⟩) (by simp)).trans (by simp [go_sem]; rfl); have c1_5 := (hb1.cell (p := ⟨w.heap.size, 5, none⟩) (by simp)).trans (by simp [go_sem]; rfl); clear hb1) | (go_at_call 16; (with_reducible refine (HRS.out _ B4.out).mono ?_); rintro e w5 ⟨rfl, hb5⟩; have B5 := Lib.hid (Below.then B4.out hb5); clear hb5) | (go_at_call 17; (with_reducible refine (HAS.out _).mono ?_); rintro e w4 ⟨rfl, hb4⟩; have B4 := Lib.hid (Below.then B3.out hb4); clear hb4) | (go_at_call 23; (with_reducible refine (HE.out _ B2.out).mono ?_); rintro e w3 ⟨a3, x3, rfl, h3, hb3⟩; have HX3 := Lib.hid h3; have HO3 := Lib.hid (HO2.out.ext hb3); clear h3; have B3 := Lib.hid (Below.then B2.out hb3); have z3 : w.heap.size < w3.heap.size := Nat.lt_of_lt_of_le z2 hb3.size; have c3_0 := (hb3.cell (p := ⟨w.heap.size, 0, none⟩) z2).trans c2_0; have c3_1 := (hb3.cell (p := ⟨w.heap.size, 1, none⟩) z2).trans c2_1; have c3_2 := (hb3.cell (p := ⟨w.heap.size, 2, none⟩) z2).trans c2_2; have c3_3 := (hb3.cell (p := ⟨w.heap.size, 3, none⟩) z2).trans c2_3; have c3_4 := (hb3.cell (p := ⟨w.heap.size, 4, none⟩) z2).trans c2_4; have c3_5 := (hb3.cell (p := ⟨w.heap.size, 5, none⟩) z2).trans c2_5; clear hb3 c2_0 c2_1 c2_2 c2_3 c2_4 c2_5) | (go_at_call 15; (with_reducible refine (HS.out _ B1.out).mono ?_); rintro e w2 ⟨a2, n2, x2, rfl, h2, hb2⟩; have HO2 := Lib.hid (Rd.of_owns encE_len (by decide) h2); clear h2; have B2 := Lib.hid (Below.then B1.out hb2); have z2 : w.heap.size < w2.heap.size := Nat.lt_of_lt_of_le z1 hb2.size; have c2_0 := (hb2.cell (p := ⟨w.heap.size, 0, none⟩) z1).trans c1_0; have c2_1 := (hb2.cell (p := ⟨w.heap.size, 1, none⟩) z1).trans c1_1; have c2_2 := (hb2.cell (p := ⟨w.heap.size, 2, none⟩) z1).trans c1_2; have c2_3 := (hb2.cell (p := ⟨w.heap.size, 3, none⟩) z1).trans c1_3; have c2_4 := (hb2.cell (p := ⟨w.heap.size, 4, none⟩) z1).trans c1_4; have c2_5 := (hb2.cell (p := ⟨w.heap.size, 5, none⟩) z1).trans c1_5; clear hb2 c1_0 c1_1 c1_2 c1_3 c1_4 c1_5) | (go_at_call 14; (with_reducible refine (sane_any _).mono ?_); rintro e w9 ⟨rfl, hb9⟩))
      go_ret
      exact ⟨rfl, Below.then B5.out hb9⟩
    · rw [if_pos rfl] at HS
      rw [if_pos rfl, if_pos rfl] at HE
      rw [Bool.and_eq_true, inB_iff] at hC
      obtain ⟨hr, hvl, _⟩ := run_ok hC.1
      unfold endX at HE
      have hrk0 := plM_rk hr t.toNat
      obtain ⟨_, _, hei⟩ := plM_ei hr t.toNat
      have hok4 := hei.ok4
      have hol := plM_olen hr (k := t.toNat) (by omega)
      obtain ⟨o, ho⟩ : ∃ o, (plM R t.toNat).o = o := ⟨_, rfl⟩
      have hrk : ∀ e ∈ o, e.w = 4 → ∀ y p : Nat, e.k = (y : Int) → e.a = (p : Int) → ∀ x k : Nat, AheadW R.L x y p → k < (evA R x).length → relT (evA R x) k ≤ e.m → 0 ≤ endF o x k ∧ endF o x k ≤ e.m := by rw [← ho]; exact hrk0.h
      rw [ho] at HS HE hok4 hol
      have HRKI := Lib.hid hrk; have HOK4 := Lib.hid hok4
      have HR := Lib.hid hR.rd; have HRN := Lib.hid hr
      have HRK : Hid (ranksR R.L = (rankL R.L, 0)) := Lib.hid (ranks_ok hr.r)
      have hL5 := hr.r.len
      have htn := hR.rd.t.length
      have hen := hR.rd.e.len
      have hev := hr.ev
      obtain ⟨nL, hnL⟩ : ∃ x, R.L.length = x := ⟨_, rfl⟩
      have HNL := Lib.hid hnL
      have htN : H.tN = nL := by omega
      have heN : H.eN = nL := by omega
      rw [hnL] at HE
      have hn5 : nL ≤ 5 := by omega
      obtain ⟨fr, hfr⟩ : ∃ x, R.fr = x := ⟨_, rfl⟩
      obtain ⟨sl_, hsl⟩ : ∃ x, R.sl = x := ⟨_, rfl⟩
      rw [hfr, hsl] at HH HS HE ⊢
      obtain ⟨tA, tN, tC, eA, eN, eC, bA, bN, bC, sA, sN, sC⟩ := H
      unfold runV at HH HS HE ⊢
      simp only [] at HH HS HE HR htN heN ⊢
      subst htN
      subst heN
      clear hR hS hB hfr hsl hC hnL hr hvl hrk0 hei hok4 hrk ho htn hen hev hL5
      go_enter Try.func8, Try.ntmps8
      go_wp2_with (first | (go_at_call 13; (with_reducible refine (HH.out _ (by (repeat' (first | (with_reducible exact Below.refl _ _) | (with_reducible assumption) | (with_reducible refine Below.alloc ?_ ?_ _) | (with_reducible refine Below.drew ?_) | (with_reducible refine Below.draws ?_ _) | (with_reducible refine Below.setCell ?_ ?_ _) | (refine Below.then ?_ (by with_reducible assumption)) | go_size)))).mono ?_); rintro e w1 ⟨rfl, hb1⟩; have B1 : Hid (Below w.heap.size w w1) := Lib.hid (Below.trans (by (repeat' (first | (with_reducible exact Below.refl _ _) | (with_reducible assumption) | (with_reducible refine Below.alloc ?_ ?_ _) | (with_reducible refine Below.drew ?_) | (with_reducible refine Below.draws ?_ _) | (with_reducible refine Below.setCell ?_ ?_ _) | (refine Below.then ?_ (by with_reducible assumption)) | go_size))) (hb1.mono (by simp))); have z1 : w.heap.size < w1.heap.size := Nat.lt_of_lt_of_le (by simp) hb1.size; have c1_0 := (hb1.cell (p := ⟨w.heap.size, 0, none⟩) (by simp)).trans (by simp [go_sem]; rfl); have c1_1 := (hb1.cell (p := ⟨w.heap.size, 1, none⟩) (by simp)).trans (by simp [go_sem]; rfl); have c1_2 := (hb1.cell (p := ⟨w.heap.size, 2, none⟩) (by simp)).trans (by simp [go_sem]; rfl); have c1_3 := (hb1.cell (p := ⟨w.heap.size, 3, none⟩) (by simp)).trans (by simp [go_sem]; rfl); have c1_4 := (hb1.cell (p := ⟨w.heap.size, 4, none⟩) (by simp)).trans (by simp [go_sem]; rfl); have c1_5 := (hb1.cell (p := ⟨w.heap.size, 5, none⟩) (by simp)).trans (by simp [go_sem]; rfl); clear hb1) | (go_at_call 24; (with_reducible refine (rRanksW_is (HR.out.t.ext B3.out) HRK.out).mono ?_); rintro e w4 ⟨a4, n4, x4, rfl, h4, hb4⟩; have HK4 := Lib.hid (ownsI_rd h4); have HX4 := Lib.hid (HX3.out.ext hb4); have HO4 := Lib.hid (HO3.out.ext hb4); clear h4; have B4 := Lib.hid (Below.then B3.out hb4); have z4 : w.heap.size < w4.heap.size := Nat.lt_of_lt_of_le z3 hb4.size; have c4_0 := (hb4.cell (p := ⟨w.heap.size, 0, none⟩) z3).trans c3_0; have c4_1 := (hb4.cell (p := ⟨w.heap.size, 1, none⟩) z3).trans c3_1; have c4_2 := (hb4.cell (p := ⟨w.heap.size, 2, none⟩) z3).trans c3_2; have c4_3 := (hb4.cell (p := ⟨w.heap.size, 3, none⟩) z3).trans c3_3; have c4_4 := (hb4.cell (p := ⟨w.heap.size, 4, none⟩) z3).trans c3_4; have c4_5 := (hb4.cell (p := ⟨w.heap.size, 5, none⟩) z3).trans c3_5; clear hb4 c3_0 c3_1 c3_2 c3_3 c3_4 c3_5) | (go_at_call 23; (with_reducible refine (HE.out _ B2.out).mono ?_); rintro e w3 ⟨a3, x3, rfl, h3, hb3⟩; have HX3 := Lib.hid h3; have HO3 := Lib.hid (HO2.out.ext hb3); clear h3; have B3 := Lib.hid (Below.then B2.out hb3); have z3 : w.heap.size < w3.heap.size := Nat.lt_of_lt_of_le z2 hb3.size; have c3_0 := (hb3.cell (p := ⟨w.heap.size, 0, none⟩) z2).trans c2_0; have c3_1 := (hb3.cell (p := ⟨w.heap.size, 1, none⟩) z2).trans c2_1; have c3_2 := (hb3.cell (p := ⟨w.heap.size, 2, none⟩) z2).trans c2_2; have c3_3 := (hb3.cell (p := ⟨w.heap.size, 3, none⟩) z2).trans c2_3; have c3_4 := (hb3.cell (p := ⟨w.heap.size, 4, none⟩) z2).trans c2_4; have c3_5 := (hb3.cell (p := ⟨w.heap.size, 5, none⟩) z2).trans c2_5; clear hb3 c2_0 c2_1 c2_2 c2_3 c2_4 c2_5) | (go_at_call 15; (with_reducible refine (HS.out _ B1.out).mono ?_); rintro e w2 ⟨a2, n2, x2, rfl, h2, hb2⟩; have HO2 := Lib.hid (Rd.of_owns encE_len (by decide) h2); clear h2; have B2 := Lib.hid (Below.then B1.out hb2); have z2 : w.heap.size < w2.heap.size := Nat.lt_of_lt_of_le z1 hb2.size; have c2_0 := (hb2.cell (p := ⟨w.heap.size, 0, none⟩) z1).trans c1_0; have c2_1 := (hb2.cell (p := ⟨w.heap.size, 1, none⟩) z1).trans c1_1; have c2_2 := (hb2.cell (p := ⟨w.heap.size, 2, none⟩) z1).trans c1_2; have c2_3 := (hb2.cell (p := ⟨w.heap.size, 3, none⟩) z1).trans c1_3; have c2_4 := (hb2.cell (p := ⟨w.heap.size, 4, none⟩) z1).trans c1_4; have c2_5 := (hb2.cell (p := ⟨w.heap.size, 5, none⟩) z1).trans c1_5; clear hb2 c1_0 c1_1 c1_2 c1_3 c1_4 c1_5))
      have hn4 : n4 = eN := by have := HK4.out.length; rw [rank_len, HNL.out] at this; exact this.symm
      subst hn4
      have hn2 : n2 ≤ 504000 := by have := HO4.out.length; omega
      clear HH HS HE c4_1 c4_2 c4_4 c4_5
      go_loopw [13] (fun v wr => ∃ n : Nat, n ≤ n2 ∧ v = .int .i64 n ∧ Below w4.heap.size w4 wr) (fun v _ => n2 - (intOf v).toNat)
      case atStart => exact ⟨0, Nat.zero_le _, rfl, Below.refl _ _⟩
      case round =>
        obtain ⟨n, hn, rfl, hB⟩ := hrel
        have HB := Lib.hid hB
        by_cases hlt : n < n2
        · obtain ⟨e, b1, o1, rfl, hb1, he, q0, q1, q2, q3, q4⟩ := (HO4.out.ext hB).en_at n hlt
          obtain ⟨m1, k1, w1', p1, x1⟩ := e
          simp only [] at q0 q1 q2 q3 q4
          by_cases h4 : w1' = 4
          · subst h4
            obtain ⟨y, p, xx, hy, hp, _, hyl, hpl, _⟩ := HOK4.out _ (List.mem_of_getElem? he) rfl
            have hK := HRKI.out _ (List.mem_of_getElem? he) rfl y p hy hp
            simp only [] at hy hp hK
            subst hy; subst hp
            have HK := Lib.hid hK
            have hra := raised_A HRN.out.r hyl hpl
            have hrin := raisA_in hyl hpl
            obtain ⟨rz, hrz⟩ : ∃ x, raisA R.L y p = x := ⟨_, rfl⟩
            rw [hrz] at hra hrin
            have HRA := Lib.hid hra; have HRZ := Lib.hid hrz
            have hyn : y < n4 := by rw [← HNL.out]; exact hyl
            have HBW := Lib.hid (B4.out.trans (hB.mono B4.out.size))
            obtain ⟨tb, toff, pb, po, pn, pc, hta, htb, hpb, hpn, hpl', k5, _, _⟩ := (HR.out.t.ext HBW.out).pcell hyl hpl
            simp only [] at hta
            subst hta
            have HYL := Lib.hid hyl
            have d0 := (hB.cell (p := ⟨w.heap.size, 0, none⟩) z4).trans c4_0
            have d3 := (hB.cell (p := ⟨w.heap.size, 3, none⟩) z4).trans c4_3
            have zz := Nat.lt_of_lt_of_le z4 hB.size
            clear hB he hK hra hrz hyl hpl hpl'
            go_upto_region 16 with fail
            obtain ⟨wa, hwa⟩ : ∃ x, x = wr.alloc (.cells #[.int .i64 m1, .int .i64 (y : Int), .int .i64 4, .int .i64 (p : Int), .int .i64 x1] 43) := ⟨_, rfl⟩
            have hba : Below wr.heap.size wr wa := by rw [hwa]; (repeat' (first | (with_reducible exact Below.refl _ _) | (with_reducible assumption) | (with_reducible refine Below.alloc ?_ ?_ _) | (with_reducible refine Below.drew ?_) | (with_reducible refine Below.draws ?_ _) | (with_reducible refine Below.setCell ?_ ?_ _) | (refine Below.then ?_ (by with_reducible assumption)) | go_size))
            have e0 : wa.cell? ⟨wr.heap.size, 0, none⟩ = some (.int .i64 m1) := by rw [hwa]; simp [go_sem]
            have e1 : wa.cell? ⟨wr.heap.size, 1, none⟩ = some (.int .i64 (y : Int)) := by rw [hwa]; simp [go_sem]
            have e3 : wa.cell? ⟨wr.heap.size, 3, none⟩ = some (.int .i64 (p : Int)) := by rw [hwa]; simp [go_sem]
            have hez : wr.heap.size < wa.heap.size := by rw [hwa]; simp
            rw [← hwa]
            obtain ⟨eb, heb⟩ : ∃ x, wr.heap.size = x := ⟨_, rfl⟩
            rw [heb] at e0 e1 e3 hez ⊢
            have f0 := keep_c hba d0
            have f3 := keep_c hba d3
            have f5 := keep_c hba k5
            have zw : w.heap.size < wa.heap.size := Nat.lt_of_lt_of_le zz hba.size
            have ztb : tb < wa.heap.size := Nat.lt_of_lt_of_le htb hba.size
            have HF : Hid (∀ wz, Below wa.heap.size wa wz → wz.cell? ⟨eb, 0, none⟩ = some (.int .i64 m1) ∧ wz.cell? ⟨eb, 1, none⟩ = some (.int .i64 (y : Int)) ∧ wz.cell? ⟨eb, 3, none⟩ = some (.int .i64 (p : Int)) ∧ wz.cell? ⟨w.heap.size, 0, none⟩ = some (.slice (some ⟨tb, toff, none⟩) n4 tC) ∧ wz.cell? ⟨w.heap.size, 3, none⟩ = some (.slice eA n4 eC)) := Lib.hid (fun wz hz => ⟨keep_c hz e0, keep_c hz e1, keep_c hz e3, keep_c hz f0, keep_c hz f3⟩)
            have HBA := Lib.hid (Below.then HB.out hba)
            have HBWA := Lib.hid (Below.then HBW.out hba)
            have hy0 : decide ((y : Int) < 0) = false := by simp
            have hy1 : decide ((n4 : Int) ≤ (y : Int)) = false := by simp; omega
            have hy2 : decide (n4 ≤ y) = false := by simp; omega
            have hp0 : decide ((p : Int) < 0) = false := by simp
            have hp1 : decide ((pn : Int) ≤ (p : Int)) = false := by simp; omega
            have hp2 : decide (pn ≤ p) = false := by simp; omega
            clear hwa hba d0 d3 k5 heb q0 q1 q2 q3 q4
            go_wp2_with (first
              | ((refine wp_region_later_lit (by kernel_rfl) (by kernel_rfl) ?_; (repeat (go_big_quiet_step (fail))); refine wpQuiet_nil ?_; intro w7 hb7); have HB7 := Lib.hid hb7; obtain ⟨g0, g1, g3, g4, g5⟩ := HF.out _ hb7; have HT7 := Lib.hid (HR.out.t.ext (Below.then HBWA.out hb7)))
              | (go_at_call 25; (with_reducible refine (rRaisedW_is HT7.out HRA.out).mono ?_); rintro e w8 ⟨rfl, hb8⟩; have HB8 := Lib.hid (Below.then HB7.out hb8); clear hb8))
            go_loopw [17] (fun v wr => ∃ i : Nat, i ≤ n4 ∧ v = .int .i64 i ∧ Hid (∀ j, j < i → (rankL R.L)[j]? ≠ some rz ∧ (rankL R.L)[j]? ≠ some (y : Int)) ∧ Below wa.heap.size wa wr) (fun v _ => n4 - (intOf v).toNat)
            case atStart => exact ⟨0, Nat.zero_le _, rfl, Lib.hid (fun j hj => absurd hj (Nat.not_lt_zero j)), HB8.out⟩
            case round =>
              clear g0 g1 g3 g4 g5 e0 e1 e3 f0 f3 f5 HB7 HB8 HT7
              obtain ⟨i, hi, rfl, hpre, hB2⟩ := hrel
              have HB2 := Lib.hid hB2
              obtain ⟨g0, g1, g3, g4, g5⟩ := HF.out _ hB2
              by_cases hin : i < n4
              · obtain ⟨r, kb, ko, rfl, hkb, hkc, hrk⟩ := (HK4.out.ext (Below.then HBA.out hB2)).idx i hin
                have hrm := rank_mem.1 (List.mem_of_getElem? hrk)
                obtain ⟨rn, rfl⟩ := Int.eq_ofNat_of_zero_le hrm.1
                have hrn : rn < n4 := by rw [← HNL.out]; omega
                have i1 : decide ((i : Int) < (n4 : Int)) = true := by simp; omega
                have seb := Nat.lt_of_lt_of_le hez hB2.size
                by_cases a1 : (rn : Int) = rz
                · have a1' : ((rn : Int) != rz) = false := by simpa using a1
                  clear hB2 hrk hrm
                  go_wp2_with (refine wp_region_later_lit (by kernel_rfl) (by kernel_rfl) ?_; (repeat (go_big_quiet_step (fail))); refine wpQuiet_nil ?_; intro w17 hb17)
                  go_roundw
                  case rel => exact ⟨n + 1, hlt, by go_num, Below.then HBA.out (Below.then HB2.out (Below.then (by (repeat' (first | (with_reducible exact Below.refl _ _) | (with_reducible assumption) | (with_reducible refine Below.alloc ?_ ?_ _) | (with_reducible refine Below.drew ?_) | (with_reducible refine Below.draws ?_ _) | (with_reducible refine Below.setCell ?_ ?_ _) | (refine Below.then ?_ (by with_reducible assumption)) | go_size))) hb17))⟩
                  case measure => simp [intOf]; omega
                · have a1' : ((rn : Int) != rz) = true := by simpa using a1
                  by_cases a2 : rn = y
                  · subst a2
                    have a2' : ((rn : Int) != (rn : Int)) = false := by simp
                    clear hB2 hrk hrm
                    go_wp2_with (refine wp_region_later_lit (by kernel_rfl) (by kernel_rfl) ?_; (repeat (go_big_quiet_step (fail))); refine wpQuiet_nil ?_; intro w17 hb17)
                    go_roundw
                    case rel => exact ⟨n + 1, hlt, by go_num, Below.then HBA.out (Below.then HB2.out (Below.then (by (repeat' (first | (with_reducible exact Below.refl _ _) | (with_reducible assumption) | (with_reducible refine Below.alloc ?_ ?_ _) | (with_reducible refine Below.drew ?_) | (with_reducible refine Below.draws ?_ _) | (with_reducible refine Below.setCell ?_ ?_ _) | (refine Below.then ?_ (by with_reducible assumption)) | go_size))) hb17))⟩
                    case measure => simp [intOf]; omega
                  · have a2' : ((rn : Int) != (y : Int)) = true := by simp; omega
                    have a2'' : (rn != y) = true := by simp; omega
                    have hrL : rn < R.L.length := by rw [HNL.out]; exact hrn
                    have hrev : rn < R.ev.length := by rw [HRN.out.ev]; exact hrL
                    have hpre2 : ∀ j, j ≤ i → (rankL R.L)[j]? ≠ some rz ∧ (rankL R.L)[j]? ≠ some (y : Int) := fun j hj => by
                      rcases Nat.lt_or_eq_of_le hj with q | q
                      · exact hpre.out j q
                      · subst q
                        rw [hrk]
                        exact ⟨fun q => a1 (Option.some.inj q), fun q => a2 (by have := Option.some.inj q; omega)⟩
                    have hbf := ranks_before hrk (y := (y : Int)) (r := rz) ⟨by omega, by have := HYL.out; omega⟩ hrin hpre2
                    have hAW : AheadW R.L rn y p := ⟨hrL, hbf.1, by rw [HRZ.out]; exact hbf.2⟩
                    have HKK := Lib.hid (fun k => HK.out rn k hAW)
                    have HPR2 : Hid (∀ j, j < i + 1 → (rankL R.L)[j]? ≠ some rz ∧ (rankL R.L)[j]? ≠ some (y : Int)) := Lib.hid (fun j hj => hpre2 j (by omega))
                    obtain ⟨vb, vo, ea, en, ec, rfl, hvb, hvc, hRd⟩ := HR.out.e.at_ rn hrn
                    have hBWb := Below.then HBWA.out hB2
                    obtain ⟨xb, xo, xa, xn, xc, rfl, hxb, hxc, hxR⟩ := (HX4.out.ext (Below.then HBA.out hB2)).at_ rn hrn
                    have hxl := hxR.length
                    have hlen : (evA R rn).length = en := hRd.length
                    rw [endsRow_len, hlen] at hxl
                    subst hxl
                    have HLEN := Lib.hid hlen
                    have hvc' := (hBWb.cell (p := ⟨vb, vo + rn, none⟩) hvb).trans hvc
                    have HRD := Lib.hid (hRd.ext hBWb); have HXR := Lib.hid hxR
                    have hens := hRd.small
                    have HE1 : Hid (∀ wz, Below wr.heap.size wr wz → wz.cell? ⟨kb, ko + i, none⟩ = some (.int .i64 (rn : Int)) ∧ wz.cell? ⟨vb, vo + rn, none⟩ = some (.slice ea en ec) ∧ wz.cell? ⟨xb, xo + rn, none⟩ = some (.slice xa en xc)) := Lib.hid (fun wz hz => ⟨keep_c hz hkc, keep_c hz hvc', keep_c hz hxc⟩)
                    have hvz := World.block_lt_of_cell? _ _ hvc'
                    simp only [] at hvz
                    have zwb := Nat.lt_of_lt_of_le zw hB2.size
                    have zeb := Nat.lt_of_lt_of_le hez hB2.size
                    have hel := HRN.out.el (evA R rn) (by unfold evA; rw [List.getElem?_eq_getElem hrev]; exact List.getElem_mem hrev)
                    have HEL := Lib.hid hel.2
                    clear hB2 hrk hrm hpre hpre2 hbf hAW hRd hxR hlen hBWb hvc hel
                    obtain ⟨wb, rfl⟩ : ∃ wb : World, wb = wr := ⟨_, rfl⟩
                    go_wp2_with (refine wp_region_later_lit (by kernel_rfl) (by kernel_rfl) ?_; (repeat (go_big_quiet_step (fail))); refine wpQuiet_nil ?_; intro w17 hb17)
                    go_loopw [18] (fun v wr => ∃ k : Nat, k ≤ en ∧ v = .int .i64 k ∧ Below wb.heap.size wb wr) (fun v _ => en - (intOf v).toNat)
                    case atStart => exact ⟨0, Nat.zero_le _, rfl, Below.then (by (repeat' (first | (with_reducible exact Below.refl _ _) | (with_reducible assumption) | (with_reducible refine Below.alloc ?_ ?_ _) | (with_reducible refine Below.drew ?_) | (with_reducible refine Below.draws ?_ _) | (with_reducible refine Below.setCell ?_ ?_ _) | (refine Below.then ?_ (by with_reducible assumption)) | go_size))) hb17⟩
                    case round =>
                      clear g0 g1 g3 g4 g5 hvc' hxc hkc hb17
                      obtain ⟨k, hk, rfl, hB3⟩ := hrel
                      have HB3 := Lib.hid hB3
                      obtain ⟨g0, g1, g3, g4, g5⟩ := HF.out _ (Below.then HB2.out hB3)
                      obtain ⟨j1, j2, j3⟩ := HE1.out _ hB3
                      have s1 := Nat.lt_of_lt_of_le zwb hB3.size
                      have s2 := Nat.lt_of_lt_of_le hkb hB3.size
                      have s3 := Nat.lt_of_lt_of_le hvz hB3.size
                      have s4 := Nat.lt_of_lt_of_le hxb hB3.size
                      by_cases hkn : k < en
                      · have k1 : decide ((k : Int) < (en : Int)) = true := by simp; omega
                        clear hB3
                        go_upto_region 27 with (refine wp_region_later_lit (by kernel_rfl) (by kernel_rfl) ?_; (repeat (go_big_quiet_step (fail))); refine wpQuiet_nil ?_; intro w18 hb18)
                        have hB4 : Below wb.heap.size wb w18 := Below.then HB3.out (Below.then (by (repeat' (first | (with_reducible exact Below.refl _ _) | (with_reducible assumption) | (with_reducible refine Below.alloc ?_ ?_ _) | (with_reducible refine Below.drew ?_) | (with_reducible refine Below.draws ?_ _) | (with_reducible refine Below.setCell ?_ ?_ _) | (refine Below.then ?_ (by with_reducible assumption)) | go_size))) hb18)
                        have HB4 := Lib.hid hB4
                        clear g0 g1 g3 g4 g5 j1 j2 j3
                        obtain ⟨g0, g1, g3, g4, g5⟩ := HF.out _ (Below.then HB2.out hB4)
                        obtain ⟨j1, j2, j3⟩ := HE1.out _ hB4
                        obtain ⟨ex, ey, v2, v2o, rfl, hv2, c0, c1, hg, _⟩ := (HRD.out.ext hB4).pc_at' k hkn
                        obtain ⟨z, zb, zo, rfl, hzb, hzc, hzx⟩ := (HXR.out.ext hB4).idx k hkn
                        have l1 := HEL.out _ (List.mem_of_getElem? hg)
                        simp only [] at l1
                        have we : IntKind.i64.wrap (ex + ey) = ex + ey := IntWalk.i64_in _ (by omega)
                        have hrT : relT (evA R rn) (k : Int) = ex + ey := relT_of hg
                        rw [endsRow_get (by rw [HLEN.out]; exact hkn)] at hzx
                        have hzz : endF o rn (k : Int) = z := by simpa using hzx
                        have hKK := HKK.out k (by rw [HLEN.out]; exact hkn)
                        rw [hrT, hzz] at hKK
                        have t1 : w.heap.size < w18.heap.size := Nat.lt_of_lt_of_le zwb hB4.size
                        have t2 := Nat.lt_of_lt_of_le hkb hB4.size
                        have t3 := Nat.lt_of_lt_of_le hvz hB4.size
                        have t4 := Nat.lt_of_lt_of_le hxb hB4.size
                        have t5 := Nat.lt_of_lt_of_le zeb hB4.size
                        clear hB4 hg l1 hrT hzx hzz hb18
                        go_region
                        all_goals
                          by_cases b1 : ex + ey ≤ m1
                          · have b1' : decide (ex + ey ≤ m1) = true := by simpa using b1
                            have b2 := hKK b1
                            have b2' : decide (z < 0) = false := by simp; omega
                            have b3' : decide (m1 < z) = false := by simp; omega
                            clear hKK b2
                            go_wp2_with fail
                            go_roundw
                            case rel => exact ⟨k + 1, hkn, by go_num, Below.then HB4.out (by (repeat' (first | (with_reducible exact Below.refl _ _) | (with_reducible assumption) | (with_reducible refine Below.alloc ?_ ?_ _) | (with_reducible refine Below.drew ?_) | (with_reducible refine Below.draws ?_ _) | (with_reducible refine Below.setCell ?_ ?_ _) | (refine Below.then ?_ (by with_reducible assumption)) | go_size)))⟩
                            case measure => simp [intOf]; omega
                          · have b1' : decide (ex + ey ≤ m1) = false := by simpa using b1
                            clear hKK
                            go_wp2_with fail
                            go_roundw
                            case rel => exact ⟨k + 1, hkn, by go_num, Below.then HB4.out (by (repeat' (first | (with_reducible exact Below.refl _ _) | (with_reducible assumption) | (with_reducible refine Below.alloc ?_ ?_ _) | (with_reducible refine Below.drew ?_) | (with_reducible refine Below.draws ?_ _) | (with_reducible refine Below.setCell ?_ ?_ _) | (refine Below.then ?_ (by with_reducible assumption)) | go_size)))⟩
                            case measure => simp [intOf]; omega
                      · have hke : k = en := by omega
                        subst hke
                        have k1 : decide ((k : Int) < (k : Int)) = false := by simp
                        clear hB3
                        go_wp2_with (refine wp_region_later_lit (by kernel_rfl) (by kernel_rfl) ?_; (repeat (go_big_quiet_step (fail))); refine wpQuiet_nil ?_; intro w18 hb18)
                        go_roundw
                        case rel => exact ⟨i + 1, hin, by go_num, HPR2.out, Below.then HB2.out (Below.then HB3.out (Below.then (by (repeat' (first | (with_reducible exact Below.refl _ _) | (with_reducible assumption) | (with_reducible refine Below.alloc ?_ ?_ _) | (with_reducible refine Below.drew ?_) | (with_reducible refine Below.draws ?_ _) | (with_reducible refine Below.setCell ?_ ?_ _) | (refine Below.then ?_ (by with_reducible assumption)) | go_size))) hb18))⟩
                        case measure => simp [intOf]; omega
              · have hie : i = n4 := by omega
                subst hie
                clear hB2
                go_wp2_with (refine wp_region_later_lit (by kernel_rfl) (by kernel_rfl) ?_; (repeat (go_big_quiet_step (fail))); refine wpQuiet_nil ?_; intro w17 hb17)
                go_roundw
                case rel => exact ⟨n + 1, hlt, by go_num, Below.then HBA.out (Below.then HB2.out (Below.then (by (repeat' (first | (with_reducible exact Below.refl _ _) | (with_reducible assumption) | (with_reducible refine Below.alloc ?_ ?_ _) | (with_reducible refine Below.drew ?_) | (with_reducible refine Below.draws ?_ _) | (with_reducible refine Below.setCell ?_ ?_ _) | (refine Below.then ?_ (by with_reducible assumption)) | go_size))) hb17))⟩
                case measure => simp [intOf]; omega
          · have h4' : (w1' != 4) = true := by simpa using h4
            clear hB he
            go_wp2
            go_roundw
            case rel => exact ⟨n + 1, hlt, by go_num, Below.then HB.out (by (repeat' (first | (with_reducible exact Below.refl _ _) | (with_reducible assumption) | (with_reducible refine Below.alloc ?_ ?_ _) | (with_reducible refine Below.drew ?_) | (with_reducible refine Below.draws ?_ _) | (with_reducible refine Below.setCell ?_ ?_ _) | (refine Below.then ?_ (by with_reducible assumption)) | go_size)))⟩
            case measure => simp [intOf]; omega
        · clear hB
          go_wp2_with (go_at_call 14; (with_reducible refine (sane_any _).mono ?_); rintro e w9 ⟨rfl, hb9⟩)
          go_ret
          exact ⟨rfl, Below.then (B4.out.trans (HB.out.mono B4.out.size)) hb9⟩
  · obtain ⟨fr, hfr⟩ : ∃ x, R.fr = x := ⟨_, rfl⟩
    obtain ⟨sl_, hsl⟩ : ∃ x, R.sl = x := ⟨_, rfl⟩
    rw [hfr, hsl] at HH ⊢
    obtain ⟨tA, tN, tC, eA, eN, eC, bA, bN, bC, sA, sN, sC⟩ := H
    unfold runV at HH ⊢
    simp only [] at HH ⊢
    clear hR hS hB hfr hsl hC HS HE
    go_enter Try.func8, Try.ntmps8
    go_wp2_with (first | (go_at_call 13; (with_reducible refine (HH.out _ (by (repeat' (first | (with_reducible exact Below.refl _ _) | (with_reducible assumption) | (with_reducible refine Below.alloc ?_ ?_ _) | (with_reducible refine Below.drew ?_) | (with_reducible refine Below.draws ?_ _) | (with_reducible refine Below.setCell ?_ ?_ _) | (refine Below.then ?_ (by with_reducible assumption)) | go_size)))).mono ?_); rintro e w1 ⟨rfl, hb1⟩; have B1 : Hid (Below w.heap.size w w1) := Lib.hid (Below.trans (by (repeat' (first | (with_reducible exact Below.refl _ _) | (with_reducible assumption) | (with_reducible refine Below.alloc ?_ ?_ _) | (with_reducible refine Below.drew ?_) | (with_reducible refine Below.draws ?_ _) | (with_reducible refine Below.setCell ?_ ?_ _) | (refine Below.then ?_ (by with_reducible assumption)) | go_size))) (hb1.mono (by simp))); have z1 : w.heap.size < w1.heap.size := Nat.lt_of_lt_of_le (by simp) hb1.size; have c1_0 := (hb1.cell (p := ⟨w.heap.size, 0, none⟩) (by simp)).trans (by simp [go_sem]; rfl); have c1_1 := (hb1.cell (p := ⟨w.heap.size, 1, none⟩) (by simp)).trans (by simp [go_sem]; rfl); have c1_2 := (hb1.cell (p := ⟨w.heap.size, 2, none⟩) (by simp)).trans (by simp [go_sem]; rfl); have c1_3 := (hb1.cell (p := ⟨w.heap.size, 3, none⟩) (by simp)).trans (by simp [go_sem]; rfl); have c1_4 := (hb1.cell (p := ⟨w.heap.size, 4, none⟩) (by simp)).trans (by simp [go_sem]; rfl); have c1_5 := (hb1.cell (p := ⟨w.heap.size, 5, none⟩) (by simp)).trans (by simp [go_sem]; rfl); clear hb1) | (go_at_call 14; (with_reducible refine (sane_any _).mono ?_); rintro e w9 ⟨rfl, hb9⟩))
    go_ret
    exact ⟨rfl, Below.then B1.out hb9⟩
end Go.Proofs.Ytlhnhmimhpcoaaa
