/- The contract of Ask of the reference. The conditions: the graph reads as named. -/
import Derived.Test.YtmdjbnicjohkjaaLkAskG
import Derived.Test.YtmdjbnicjohkjaaLkAskW
import Derived.Test.YtmdjbnicjohkjaaLkRcopy
namespace Go.Proofs.Ytmdjbnicjohkjaa
open Go.RowKit
set_option linter.unusedSimpArgs false
set_option linter.unusedVariables false
section
variable {a : Option Addr} {n c : Nat} {g : List ThV} {w : World} {G : List Th} {t l : Int}
theorem ready_is {b : Bool} (hG : RdG w a n g) (hg : g.map ThV.th = G) (h : isTh G t = b) : Calls Try.prog 50 #[.slice a n c, .int .i64 t] w fun e w' => e = .returned (.int .i64 (if b then 0 else 1)) ∧ Below w.heap.size w w' := by subst hg; subst h; exact ready_any a n c g t w hG
theorem risLock_is {b : Bool} (h : inB l 0 5 = b) : Calls Try.prog 56 #[.int .i64 l] w fun e w' => e = .returned (.bool b) ∧ w = w' := by subst h; exact risLock_any l w
theorem rholder_is {x : Int} (hG : RdG w a n g) (hg : g.map ThV.th = G) (h : holderG G l = x) : Calls Try.prog 57 #[.slice a n c, .int .i64 l] w fun e w' => e = .returned (.int .i64 x) ∧ Below w.heap.size w w' := by subst hg; subst h; exact rholder_any a n c g l w hG
def OutGN (T n B : Nat) (w : World) (G : List Th) (e : Ending) (w' : World) : Prop :=
  ∃ a c g', e = .returned (.slice a n c) ∧ OwnG T B w' a n c g' ∧ g'.map ThV.th = G ∧ Below B w w'
theorem rCopy_is (hn : n ≤ 1000) (hH : ∀ t ∈ g, t.n ≤ 1000) (hG : RdG w a n g) (hg : g.map ThV.th = G) : Calls Try.prog 66 #[.slice a n c] w (OutGN 45 n w.heap.size w G) := by
  subst hg
  refine (rCopy_any a n c g hn hH w hG).mono ?_
  rintro e w' ⟨a', n', c', g', rfl, ho, hg', hb⟩
  have h1 := ho.rd.length
  have h2 : g'.length = g.length := by have := congrArg List.length hg'; simpa using this
  have h3 := hG.length
  obtain rfl : n' = n := by omega
  exact ⟨_, _, _, rfl, ho, hg', hb⟩
theorem circled_is {i : Nat} {b : Bool} (hi : i < n) (hG : RdG w a n g) (hg : g.map ThV.th = G) (h : circG G i = b) : Calls Try.prog 53 #[.slice a n c, .int .i64 i] w fun e w' => e = .returned (.bool b) ∧ Below w.heap.size w w' := by subst hg; subst h; exact circled_any a n c g i hi w hG
end
theorem owns3_at' {T : Nat} {w : World} {B q n c : Nat} {g : List ThV} (h : w.ownsRow B T 3 (.slice (some ⟨q, 0, none⟩) n c) n (g.flatMap encTh)) {k : Nat} {t : ThV} (hk : g[k]? = some t) :
    w.cell? ⟨q, k * 3, none⟩ = some (.int .i64 t.pri) ∧ w.cell? ⟨q, k * 3 + 1, none⟩ = some (.slice t.a t.n t.c) ∧ w.cell? ⟨q, k * 3 + 2, none⟩ = some (.int .i64 t.waits) := by
  obtain ⟨hi, rfl⟩ := List.getElem?_eq_some_iff.1 hk
  have hl := (Rd.of_owns encTh_len (by decide) h).length
  have h0 := flat_get encTh_len g k 0 hi (by omega)
  have h1 := flat_get encTh_len g k 1 hi (by omega)
  have h2 := flat_get encTh_len g k 2 hi (by omega)
  rw [Nat.add_zero] at h0
  rw [h.cellAt (k * 3) (by omega), h.cellAt (k * 3 + 1) (by omega), h.cellAt (k * 3 + 2) (by omega), h0, h1, h2]
  exact ⟨rfl, rfl, rfl⟩
/-- another list of locks in one thread of an own graph -/
theorem head_own {T B b k n c : Nat} {w : World} {g2 : List ThV} {t : ThV} {a' : Option Addr} {n' c' : Nat} {xs : List Int} (hT : 3 ≠ T) (hO : OwnG T B w (some ⟨b, 0, none⟩) n c g2) (hk : g2[k]? = some t)
    (hx : w.ownsRow B 3 1 (.slice a' n' c') n' (xs.flatMap enc1)) (hBb : B ≤ b) :
    OwnG T B (w.setCell ⟨b, k * 3 + 1, none⟩ (.slice a' n' c')) (some ⟨b, 0, none⟩) n c (g2.set k ⟨t.pri, a', n', c', t.waits, xs⟩) ∧ Below B w (w.setCell ⟨b, k * 3 + 1, none⟩ (.slice a' n' c')) := by
  have hs := hO.own.stored (k * 3 + 1) (.slice a' n' c')
  rw [flat_setH _ k t _ _ _ xs hk] at hs
  refine ⟨⟨hs.1, fun u hu => ?_⟩, Below.setCell (p := ⟨b, k * 3 + 1, none⟩) (Below.refl B w) hBb _⟩
  rcases mem_set hu with rfl | ⟨j, hj, hju⟩
  · exact owns_kept (show ThO B w ⟨t.pri, a', n', c', t.waits, xs⟩ from hx) hO.own hT hs.2
  · exact owns_kept (hO.ok u (List.mem_of_getElem? hju)) hO.own hT hs.2
set_option maxRecDepth 10000 in
set_option maxHeartbeats 4000000 in
theorem rAsk_any (a : Option Addr) (n c : Nat) (g : List ThV) (G : List Th) (t l : Int) (w : World) (hG : RdG w a n g) (hg : g.map ThV.th = G) (hH : ∀ t ∈ g, t.n ≤ 1000) :
    Calls Try.prog 32 #[.slice a n c, .int .i64 t, .int .i64 l] w (OutA 45 w.heap.size w (raskR G t l).1 (raskR G t l).2.1 (raskR G t l).2.2) := by
  have hgl : G.length = n := by rw [← hg]; simp [hG.length]
  have HR := Lib.hid hG; have Hg := Lib.hid hg; have HH := Lib.hid hH
  obtain ⟨R, hRR⟩ : ∃ R, raskR G t l = R := ⟨_, rfl⟩
  rw [hRR]
  unfold raskR at hRR
  cases ht : isTh G t
  · rw [ht] at hRR
    have hr : R = ([], false, 1) := by rw [← hRR]; rfl
    subst hr
    have HT := Lib.hid ht
    clear hRR ht hG hg hgl hH
    go_enter Try.func32, Try.ntmps32
    go_wp2_with (first
      | (go_at_call 50; (with_reducible refine (ready_is HR.out Hg.out HT.out).mono ?_); rintro e w1 ⟨rfl, hb1⟩; have W1 := Lib.hid hb1; clear hb1))
    refine bodyPost_ret (results_tmp3 rfl _ _ _) rfl ?_
    exact .none W1.out
  · obtain ⟨hv, ht0, htn⟩ := isTh_iff.1 ht
    have hn8 := validG_len hv
    rw [hgl] at htn hn8
    obtain ⟨k, rfl⟩ := Int.eq_ofNat_of_zero_le ht0
    have hk : k < n := by omega
    have HT := Lib.hid ht
    have HV := Lib.hid hv
    cases hl : inB l 0 5
    · rw [ht, hl] at hRR
      have hr : R = ([], false, 1) := by rw [← hRR]; rfl
      subst hr
      have HL := Lib.hid hl
      clear hRR ht hG hg hgl hl hv ht0 htn hH
      go_enter Try.func32, Try.ntmps32
      go_wp2_with (first
        | (go_at_call 50; (with_reducible refine (ready_is HR.out Hg.out HT.out).mono ?_); rintro e w1 ⟨rfl, hb1⟩; have W1 := Lib.hid hb1; clear hb1)
        | (go_at_call 56; refine (risLock_is HL.out).mono ?_; rintro e w1 ⟨rfl, rfl⟩))
      refine bodyPost_ret (results_tmp3 rfl _ _ _) rfl ?_
      exact .none W1.out
    · rw [ht, hl] at hRR
      rw [show (true && true) = true from rfl, if_pos rfl, Int.toNat_natCast] at hRR
      have HL := Lib.hid hl
      obtain ⟨⟨pri, ta, tn, tc, waits, holds⟩, b, off, rfl, hb, h1, h2, h3, hok, hgi, _⟩ := hG.at_ k hk
      simp only [] at h1 h2 h3
      have hth : thAt G k = ⟨pri, holds, waits⟩ := by rw [← hg, thAt_of hgi]; rfl
      rw [hth] at hRR
      simp only [] at hRR
      have HT1 : Hid (Rd w ta tn 1 (holds.map enc1)) := Lib.hid hok.1
      have HGI := Lib.hid hgi
      have h3' : ∀ (w1 : World), Below w.heap.size w w1 → w1.cell? ⟨b, off + k * 3 + 2, none⟩ = some (.int .i64 waits) := fun _ h => (h.cell (p := ⟨b, off + k * 3 + 2, none⟩) hb).trans h3
      have h2' : ∀ (w1 : World), Below w.heap.size w w1 → w1.cell? ⟨b, off + k * 3 + 1, none⟩ = some (.slice ta tn tc) := fun _ h => (h.cell (p := ⟨b, off + k * 3 + 1, none⟩) hb).trans h2
      have H2 := Lib.hid h2'
      have H3 := Lib.hid h3'
      clear ht hG hg hl hv ht0 htn hH hok hgi hth h1 h2 h3 h2' h3'
      by_cases hw : 0 ≤ waits
      · rw [if_pos (.inl hw)] at hRR
        subst hRR
        go_enter Try.func32, Try.ntmps32
        go_wp2_with (first
          | (go_at_call 50; (with_reducible refine (ready_is HR.out Hg.out HT.out).mono ?_); rintro e w1 ⟨rfl, hb1⟩; have W1 := Lib.hid hb1; have d2 := H2.out _ hb1; have d3 := H3.out _ hb1; clear hb1)
          | (go_at_call 56; refine (risLock_is HL.out).mono ?_; rintro e w1 ⟨rfl, rfl⟩))
        refine bodyPost_ret (results_tmp3 rfl _ _ _) rfl ?_
        exact .none W1.out
      · have hw' : waits < 0 := by omega
        cases hh : hasB holds l
        · have HH1 := Lib.hid hh
          rw [if_neg (by rw [hh]; simp; omega)] at hRR
          obtain ⟨o, ho⟩ : ∃ o, holderG G l = o := ⟨_, rfl⟩
          have HHD := Lib.hid ho
          rw [ho] at hRR
          clear ho hh
          by_cases ho0 : o < 0
          · rw [if_pos ho0] at hRR
            subst hRR
            go_enter Try.func32, Try.ntmps32
            go_wp2_with (first
              | (go_at_call 50; (with_reducible refine (ready_is HR.out Hg.out HT.out).mono ?_); rintro e w1 ⟨rfl, hb1⟩; have W1 := Lib.hid hb1; have d2 := H2.out _ hb1; have d3 := H3.out _ hb1; clear hb1)
              | (go_at_call 56; refine (risLock_is HL.out).mono ?_; rintro e w1 ⟨rfl, rfl⟩)
              | (go_at_call 61; (with_reducible refine (has_is _ _ _ _ _ _ (HT1.out.ext W1.out) HH1.out).mono ?_); rintro e w2 ⟨rfl, rfl⟩)
              | (go_at_call 66; (with_reducible refine (rCopy_is (by omega) HH.out (HR.out.ext W1.out) Hg.out).mono ?_); rintro e w2 ⟨a2, c2, g2, rfl, ho2, hg2, hb2⟩; have HO2 := Lib.hid ho2; have HG2 := Lib.hid hg2; have W2 := Lib.hid (Below.then W1.out hb2); (obtain ⟨b2, rfl, hq1, hq2⟩ := owns_addr ho2.own (by omega)); clear ho2 hg2 hb2)
              | (go_at_call 57; (with_reducible refine (rholder_is (HR.out.ext W2.out) Hg.out HHD.out).mono ?_); rintro e w3 ⟨rfl, hb3⟩; have W3 := Lib.hid (Below.then W2.out hb3); have hz3 := hb3.size; have HO3 := Lib.hid (HO2.out.ext hb3)
                 obtain ⟨t2, ht2, e2⟩ := th_back HG2.out (thAt_get Hg.out HGI.out)
                 have f3 := (owns3_at' HO3.out.own ht2).2.1
                 have HT2 := Lib.hid ht2; have HE2 := Lib.hid e2
                 have HRd : Hid (Rd w3 t2.a t2.n 1 (t2.holds.map enc1)) := Lib.hid (ownsI_rd (HO3.out.ok t2 (List.mem_of_getElem? ht2)))
                 clear hb3 ht2 e2)
              | (go_at_call 67; (with_reducible refine (with_any _ _ _ t2.holds l _ HRd.out).mono ?_); rintro e w4 ⟨a4, n4, c4, rfl, ho4, hb4⟩; have HX := Lib.hid ho4; have W4 := Lib.hid (Below.then W3.out hb4); have HO4 := Lib.hid (HO3.out.ext hb4); have f4 := (owns3_at' HO4.out.own HT2.out).2.1; have f5 := HO4.out.own.frozenAt (k * 3 + 1); clear ho4 hb4))
            refine bodyPost_ret (results_tmp3 rfl _ _ _) rfl ?_
            obtain ⟨hO', hB'⟩ := head_own (by decide) HO4.out HT2.out (owns_mono HX.out (by omega)) hq1
            refine ⟨_, _, _, _, rfl, hO'.mono W1.out.size, ?_, W4.out.trans (hB'.mono W1.out.size)⟩
            rw [map_set_th, HG2.out]
            have := HE2.out
            simp only [ThV.th]
            rw [show t2.pri = pri from congrArg Th.pri this, show t2.holds = holds from congrArg Th.holds this, show t2.waits = waits from congrArg Th.waits this]
          · rw [if_neg ho0] at hRR
            obtain ⟨C, hC⟩ : ∃ C, circG (G.set k ⟨pri, holds, l⟩) k = C := ⟨_, rfl⟩
            rw [hC] at hRR
            have HC := Lib.hid hC
            clear hC
            cases C
            · rw [if_neg (by simp)] at hRR
              subst hRR
              go_enter Try.func32, Try.ntmps32
              go_wp2_with (first
              | (go_at_call 50; (with_reducible refine (ready_is HR.out Hg.out HT.out).mono ?_); rintro e w1 ⟨rfl, hb1⟩; have W1 := Lib.hid hb1; have d2 := H2.out _ hb1; have d3 := H3.out _ hb1; clear hb1)
              | (go_at_call 56; refine (risLock_is HL.out).mono ?_; rintro e w1 ⟨rfl, rfl⟩)
              | (go_at_call 61; (with_reducible refine (has_is _ _ _ _ _ _ (HT1.out.ext W1.out) HH1.out).mono ?_); rintro e w2 ⟨rfl, rfl⟩)
              | (go_at_call 66; (with_reducible refine (rCopy_is (by omega) HH.out (HR.out.ext W1.out) Hg.out).mono ?_); rintro e w2 ⟨a2, c2, g2, rfl, ho2, hg2, hb2⟩; have HO2 := Lib.hid ho2; have HG2 := Lib.hid hg2; have W2 := Lib.hid (Below.then W1.out hb2); (obtain ⟨b2, rfl, hq1, hq2⟩ := owns_addr ho2.own (by omega)); clear ho2 hg2 hb2)
              | (go_at_call 57; (with_reducible refine (rholder_is (HR.out.ext W2.out) Hg.out HHD.out).mono ?_); rintro e w3 ⟨rfl, hb3⟩; have W3 := Lib.hid (Below.then W2.out hb3); have hz3 := hb3.size; have HO3 := Lib.hid (HO2.out.ext hb3)
                 obtain ⟨t2, ht2, e2⟩ := th_back HG2.out (thAt_get Hg.out HGI.out)
                 have f3 := (owns3_at' HO3.out.own ht2).2.2
                 have f5 := HO3.out.own.frozenAt (k * 3 + 2)
                 have HW := Lib.hid (wait_own (x := l) (by decide) HO3.out ht2 hq1 (by omega))
                 have HGW : Hid ((g2.set k ⟨t2.pri, t2.a, t2.n, t2.c, l, t2.holds⟩).map ThV.th = G.set k ⟨pri, holds, l⟩) := Lib.hid (by
                   rw [map_set_th, HG2.out]
                   simp only [ThV.th]
                   rw [show t2.pri = pri from congrArg Th.pri e2, show t2.holds = holds from congrArg Th.holds e2])
                 have W5 := Lib.hid (W3.out.trans (HW.out.2.mono W1.out.size))
                 clear hb3 ht2 e2)
              | (go_at_call 53; (with_reducible refine (circled_is hk HW.out.1.rd HGW.out HC.out).mono ?_); rintro e w6 ⟨rfl, hb6⟩; have HB6 := Lib.hid hb6; have W6 := Lib.hid (Below.then W5.out hb6); clear hb6))
              refine bodyPost_ret (results_tmp3 rfl _ _ _) rfl ?_
              exact ⟨_, _, _, _, rfl, (HW.out.1.ext HB6.out).mono W1.out.size, HGW.out, W6.out⟩
            · rw [if_pos rfl] at hRR
              subst hRR
              go_enter Try.func32, Try.ntmps32
              go_wp2_with (first
              | (go_at_call 50; (with_reducible refine (ready_is HR.out Hg.out HT.out).mono ?_); rintro e w1 ⟨rfl, hb1⟩; have W1 := Lib.hid hb1; have d2 := H2.out _ hb1; have d3 := H3.out _ hb1; clear hb1)
              | (go_at_call 56; refine (risLock_is HL.out).mono ?_; rintro e w1 ⟨rfl, rfl⟩)
              | (go_at_call 61; (with_reducible refine (has_is _ _ _ _ _ _ (HT1.out.ext W1.out) HH1.out).mono ?_); rintro e w2 ⟨rfl, rfl⟩)
              | (go_at_call 66; (with_reducible refine (rCopy_is (by omega) HH.out (HR.out.ext W1.out) Hg.out).mono ?_); rintro e w2 ⟨a2, c2, g2, rfl, ho2, hg2, hb2⟩; have HO2 := Lib.hid ho2; have HG2 := Lib.hid hg2; have W2 := Lib.hid (Below.then W1.out hb2); (obtain ⟨b2, rfl, hq1, hq2⟩ := owns_addr ho2.own (by omega)); clear ho2 hg2 hb2)
              | (go_at_call 57; (with_reducible refine (rholder_is (HR.out.ext W2.out) Hg.out HHD.out).mono ?_); rintro e w3 ⟨rfl, hb3⟩; have W3 := Lib.hid (Below.then W2.out hb3); have hz3 := hb3.size; have HO3 := Lib.hid (HO2.out.ext hb3)
                 obtain ⟨t2, ht2, e2⟩ := th_back HG2.out (thAt_get Hg.out HGI.out)
                 have f3 := (owns3_at' HO3.out.own ht2).2.2
                 have f5 := HO3.out.own.frozenAt (k * 3 + 2)
                 have HW := Lib.hid (wait_own (x := l) (by decide) HO3.out ht2 hq1 (by omega))
                 have HGW : Hid ((g2.set k ⟨t2.pri, t2.a, t2.n, t2.c, l, t2.holds⟩).map ThV.th = G.set k ⟨pri, holds, l⟩) := Lib.hid (by
                   rw [map_set_th, HG2.out]
                   simp only [ThV.th]
                   rw [show t2.pri = pri from congrArg Th.pri e2, show t2.holds = holds from congrArg Th.holds e2])
                 have W5 := Lib.hid (W3.out.trans (HW.out.2.mono W1.out.size))
                 clear hb3 ht2 e2)
              | (go_at_call 53; (with_reducible refine (circled_is hk HW.out.1.rd HGW.out HC.out).mono ?_); rintro e w6 ⟨rfl, hb6⟩; have HB6 := Lib.hid hb6; have W6 := Lib.hid (Below.then W5.out hb6); clear hb6))
              refine bodyPost_ret (results_tmp3 rfl _ _ _) rfl ?_
              exact .none W6.out
        · have HH1 := Lib.hid hh
          rw [if_pos (.inr hh)] at hRR
          subst hRR
          clear hh
          go_enter Try.func32, Try.ntmps32
          go_wp2_with (first
            | (go_at_call 50; (with_reducible refine (ready_is HR.out Hg.out HT.out).mono ?_); rintro e w1 ⟨rfl, hb1⟩; have W1 := Lib.hid hb1; have d2 := H2.out _ hb1; have d3 := H3.out _ hb1; clear hb1)
            | (go_at_call 56; refine (risLock_is HL.out).mono ?_; rintro e w1 ⟨rfl, rfl⟩)
            | (go_at_call 61; (with_reducible refine (has_is _ _ _ _ _ _ (HT1.out.ext W1.out) HH1.out).mono ?_); rintro e w2 ⟨rfl, rfl⟩))
          refine bodyPost_ret (results_tmp3 rfl _ _ _) rfl ?_
          exact .none W1.out
end Go.Proofs.Ytmdjbnicjohkjaa
