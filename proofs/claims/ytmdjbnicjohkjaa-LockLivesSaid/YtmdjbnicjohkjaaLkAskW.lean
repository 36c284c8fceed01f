/- The contract of Ask of the program. The conditions: the graph reads as named. -/
import Derived.Test.YtmdjbnicjohkjaaLkAsk
namespace Go.Proofs.Ytmdjbnicjohkjaa
open Go.RowKit
set_option linter.unusedSimpArgs false
set_option linter.unusedVariables false
theorem thAt_of {g : List ThV} {k : Nat} {t : ThV} (h : g[k]? = some t) : thAt (g.map ThV.th) k = t.th := by simp [thAt, List.getElem?_map, h]
theorem valid_asc {g : List Th} (h : validG g = true) {t : Th} (ht : t ∈ g) : Asc t.holds := ((validG_iff.1 h).2.1 t ht).2.1
theorem thAt_get {g : List ThV} {G : List Th} {k : Nat} {t : ThV} (hg : g.map ThV.th = G) (h : g[k]? = some t) : G[k]? = some t.th := by rw [← hg, List.getElem?_map, h]; rfl
theorem th_back {g : List ThV} {G : List Th} {k : Nat} {u : Th} (hg : g.map ThV.th = G) (h : G[k]? = some u) : ∃ t, g[k]? = some t ∧ t.th = u := by
  rw [← hg, List.getElem?_map] at h
  cases q : g[k]? with
  | none => rw [q] at h; simp at h
  | some t2 => rw [q] at h; simp at h; exact ⟨t2, rfl, h⟩
theorem hold_is {B b k n c : Nat} {w3 : World} {g2 : List ThV} {t : ThV} {l : Int} (hO : OwnG 52 B w3 (some ⟨b, 0, none⟩) n c g2) (hk : g2[k]? = some t) (hs : Asc t.holds) (hBw : B ≤ w3.heap.size) :
    Calls Try.prog 65 #[.pointer (some ⟨b, k * 3, none⟩), .int .i64 l] w3 (HoldP B b (k * 3) w3 (.slice t.a t.n t.c) (insL t.holds (cntLt t.holds l) l)) := by
  have ht := hO.ok t (List.mem_of_getElem? hk)
  have hl := (ownsI_rd ht).length
  have := asc_len hs
  exact hold_any B b (k * 3) n c t.a t.n t.c t.holds _ l w3 (by omega) (asc_le hs.1) ht hBw hO.own (owns3_at hO.own hk).2.1 (hO.own.frozenAt (k * 3 + 1))
set_option maxRecDepth 10000 in
set_option maxHeartbeats 4000000 in
theorem Ask_any (a : Option Addr) (n c : Nat) (g : List ThV) (G : List Th) (t l : Int) (w : World) (hG : RdG w a n g) (hg : g.map ThV.th = G) (hH : ∀ t ∈ g, t.n ≤ 1000) :
    Calls Try.prog 31 #[.slice a n c, .int .i64 t, .int .i64 l] w (OutA 52 w.heap.size w (askR G t l).1 (askR G t l).2.1 (askR G t l).2.2) := by
  have hgl : G.length = n := by rw [← hg]; simp [hG.length]
  have HR := Lib.hid hG; have Hg := Lib.hid hg; have HH := Lib.hid hH
  obtain ⟨R, hRR⟩ : ∃ R, askR G t l = R := ⟨_, rfl⟩
  rw [hRR]
  unfold askR at hRR
  cases ht : isTh G t
  · rw [ht] at hRR
    have hr : R = ([], false, 1) := by rw [← hRR]; rfl
    subst hr
    have HT := Lib.hid ht
    clear hRR ht hG hg hgl hH
    go_enter Try.func31, Try.ntmps31
    go_wp2_with (first
      | (go_at_call 48; (with_reducible refine (isThread_is HR.out Hg.out HT.out).mono ?_); rintro e w1 ⟨rfl, hb1⟩; have W1 := Lib.hid hb1; clear hb1))
    refine bodyPost_ret (results_tmp3 rfl _ _ _) rfl ?_
    exact .none W1.out
  · obtain ⟨hv, ht0, htn⟩ := isTh_iff.1 ht
    have hn8 := validG_len hv
    rw [hgl] at htn hn8
    obtain ⟨k, rfl⟩ := Int.eq_ofNat_of_zero_le ht0
    have hk : k < n := by omega
    have HT := Lib.hid ht
    have HV := Lib.hid hv
    cases hl : inB l 0 5
    · rw [ht, hl] at hRR
      have hr : R = ([], false, 1) := by rw [← hRR]; rfl
      subst hr
      have HL := Lib.hid hl
      clear hRR ht hG hg hgl hl hv ht0 htn hH
      go_enter Try.func31, Try.ntmps31
      go_wp2_with (first
        | (go_at_call 48; (with_reducible refine (isThread_is HR.out Hg.out HT.out).mono ?_); rintro e w1 ⟨rfl, hb1⟩; have W1 := Lib.hid hb1; clear hb1)
        | (go_at_call 54; refine (isLock_is HL.out).mono ?_; rintro e w1 ⟨rfl, rfl⟩))
      refine bodyPost_ret (results_tmp3 rfl _ _ _) rfl ?_
      exact .none W1.out
    · rw [ht, hl] at hRR
      rw [show (true && true) = true from rfl, if_pos rfl, Int.toNat_natCast] at hRR
      have HL := Lib.hid hl
      obtain ⟨⟨pri, ta, tn, tc, waits, holds⟩, b, off, rfl, hb, h1, h2, h3, hok, hgi, _⟩ := hG.at_ k hk
      simp only [] at h1 h2 h3
      have hth : thAt G k = ⟨pri, holds, waits⟩ := by rw [← hg, thAt_of hgi]; rfl
      rw [hth] at hRR
      simp only [] at hRR
      have HT1 : Hid (Rd w ta tn 1 (holds.map enc1)) := Lib.hid hok.1
      have HGI := Lib.hid hgi
      have h3' : ∀ (w1 : World), Below w.heap.size w w1 → w1.cell? ⟨b, off + k * 3 + 2, none⟩ = some (.int .i64 waits) := fun _ h => (h.cell (p := ⟨b, off + k * 3 + 2, none⟩) hb).trans h3
      have h2' : ∀ (w1 : World), Below w.heap.size w w1 → w1.cell? ⟨b, off + k * 3 + 1, none⟩ = some (.slice ta tn tc) := fun _ h => (h.cell (p := ⟨b, off + k * 3 + 1, none⟩) hb).trans h2
      have H2 := Lib.hid h2'
      have H3 := Lib.hid h3'
      have hasc := valid_asc hv (t := ⟨pri, holds, waits⟩) (by rw [← hg]; exact List.mem_map.2 ⟨_, List.mem_of_getElem? hgi, rfl⟩)
      have HASC : Hid (Asc holds) := Lib.hid hasc
      clear ht hG hg hl hv ht0 htn hH hok hgi hth h1 h2 h3 h2' h3' hasc
      by_cases hw : 0 ≤ waits
      · rw [if_pos (.inl hw)] at hRR
        subst hRR
        go_enter Try.func31, Try.ntmps31
        go_wp2_with (first
              | (go_at_call 48; (with_reducible refine (isThread_is HR.out Hg.out HT.out).mono ?_); rintro e w1 ⟨rfl, hb1⟩; have W1 := Lib.hid hb1; have d2 := H2.out _ hb1; have d3 := H3.out _ hb1; clear hb1)
              | (go_at_call 54; refine (isLock_is HL.out).mono ?_; rintro e w1 ⟨rfl, rfl⟩))
        refine bodyPost_ret (results_tmp3 rfl _ _ _) rfl ?_
        exact .none W1.out
      · have hw' : waits < 0 := by omega
        cases hh : hasB holds l
        · have HH1 := Lib.hid hh
          rw [if_neg (by rw [hh]; simp; omega)] at hRR
          obtain ⟨o, ho⟩ : ∃ o, holderG G l = o := ⟨_, rfl⟩
          have HHD := Lib.hid ho
          have hor := holderG_range G l
          rw [ho] at hRR hor
          rw [hgl] at hor
          clear ho hh
          by_cases ho0 : o < 0
          · rw [if_pos ho0] at hRR
            subst hRR
            go_enter Try.func31, Try.ntmps31
            go_wp2_with (first
              | (go_at_call 48; (with_reducible refine (isThread_is HR.out Hg.out HT.out).mono ?_); rintro e w1 ⟨rfl, hb1⟩; have W1 := Lib.hid hb1; have d2 := H2.out _ hb1; have d3 := H3.out _ hb1; clear hb1)
              | (go_at_call 54; refine (isLock_is HL.out).mono ?_; rintro e w1 ⟨rfl, rfl⟩)
              | (go_at_call 60; (with_reducible refine (contains_is (HT1.out.ext W1.out) HH1.out).mono ?_); rintro e w2 ⟨rfl, rfl⟩)
              | (go_at_call 64; (with_reducible refine (copied_is (by omega) (by omega) HH.out (HR.out.ext W1.out) Hg.out).mono ?_); rintro e w2 ⟨a2, c2, g2, rfl, ho2, hg2, hap2, hb2⟩; have HO2 := Lib.hid ho2; have HG2 := Lib.hid hg2; have HAP := Lib.hid hap2; have B2 := Lib.hid hb2; have W2 := Lib.hid (Below.then W1.out hb2); (obtain ⟨b2, rfl, hq1, hq2⟩ := owns_addr ho2.own (by omega)); clear ho2 hg2 hap2 hb2)
              | (go_at_call 55; (with_reducible refine (holder_is (HR.out.ext W2.out) Hg.out HHD.out).mono ?_); rintro e w3 ⟨rfl, hb3⟩; have B3 := Lib.hid hb3; have W3 := Lib.hid (Below.then W2.out hb3); have hz3 := hb3.size; clear hb3))
            obtain ⟨t2, ht2, e2⟩ := th_back HG2.out (thAt_get Hg.out HGI.out)
            have HO3 := Lib.hid (HO2.out.ext B3.out)
            have hth : t2.holds = holds := congrArg Th.holds e2
            have HE2 := Lib.hid e2; have HT2 := Lib.hid ht2
            refine (hold_is HO3.out ht2 (by rw [hth]; exact HASC.out) (by omega)).mono ?_
            rintro e w4 hp
            have HP := Lib.hid hp
            obtain ⟨rfl, _⟩ := hp
            clear ht2 e2
            go_wp2
            refine bodyPost_ret (results_tmp3 rfl _ _ _) rfl ?_
            obtain ⟨t', ht', hO', hB'⟩ := hold_own HO3.out HAP.out HT2.out HP.out hq1 (by omega)
            refine ⟨_, _, _, g2.set k t', rfl, hO'.mono W1.out.size, ?_, ?_⟩
            · rw [map_set_th, HG2.out, ht', hth]
              have := HE2.out
              rw [show t2.pri = pri from congrArg Th.pri this, show t2.waits = waits from congrArg Th.waits this]
            · exact W3.out.trans (hB'.mono W1.out.size)
          · rw [if_neg ho0] at hRR
            obtain ⟨q, rfl⟩ := Int.eq_ofNat_of_zero_le (Int.not_lt.1 ho0)
            rw [Int.toNat_natCast] at hRR
            have hq : q < n := by omega
            obtain ⟨L, hL⟩ : ∃ L, chainG G q = L := ⟨_, rfl⟩
            rw [hL] at hRR
            have HLL := Lib.hid hL
            clear hL
            cases hc : hasB L k
            · rw [hc] at hRR
              rw [if_neg (by simp)] at hRR
              have HCC := Lib.hid hc
              clear hc
              subst hRR
              go_enter Try.func31, Try.ntmps31
              go_wp2_with (first
                | (go_at_call 48; (with_reducible refine (isThread_is HR.out Hg.out HT.out).mono ?_); rintro e w1 ⟨rfl, hb1⟩; have W1 := Lib.hid hb1; have d2 := H2.out _ hb1; have d3 := H3.out _ hb1; clear hb1)
                | (go_at_call 54; refine (isLock_is HL.out).mono ?_; rintro e w1 ⟨rfl, rfl⟩)
                | (go_at_call 60; (with_reducible refine (contains_is (HT1.out.ext W1.out) HH1.out).mono ?_); rintro e w2 ⟨rfl, rfl⟩)
                | (go_at_call 64; (with_reducible refine (copied_is (by omega) (by omega) HH.out (HR.out.ext W1.out) Hg.out).mono ?_); rintro e w2 ⟨a2, c2, g2, rfl, ho2, hg2, hap2, hb2⟩; have HO2 := Lib.hid ho2; have HG2 := Lib.hid hg2; have HAP := Lib.hid hap2; have B2 := Lib.hid hb2; have W2 := Lib.hid (Below.then W1.out hb2); (obtain ⟨b2, rfl, hq1, hq2⟩ := owns_addr ho2.own (by omega)); clear ho2 hg2 hap2 hb2)
                | (go_at_call 55; (with_reducible refine (holder_is (HR.out.ext W2.out) Hg.out HHD.out).mono ?_); rintro e w3 ⟨rfl, hb3⟩; have B3 := Lib.hid hb3; have W3 := Lib.hid (Below.then W2.out hb3); have hz3 := hb3.size; clear hb3)
                | (go_at_call 49; (with_reducible refine (chain_is hq (by omega) (HR.out.ext W3.out) Hg.out HLL.out).mono ?_); rintro e w4 ⟨a4, n4, c4, rfl, ho4, hb4⟩; have HO4 := Lib.hid ho4; have B4 := Lib.hid hb4; have W4 := Lib.hid (Below.then W3.out hb4); have hz4 := hb4.size
                   obtain ⟨t2, ht2, e2⟩ := th_back HG2.out (thAt_get Hg.out HGI.out)
                   have HO5 := Lib.hid ((HO2.out.ext B3.out).ext hb4)
                   have f3 := (owns3_at HO5.out.own ht2).2.2
                   have f4 := HO5.out.own.frozenAt (k * 3 + 2)
                   have HT2 := Lib.hid ht2; have HE2 := Lib.hid e2
                   clear ho4 hb4 ht2 e2)
                | (go_at_call 60; (with_reducible refine (contains_is (ownsI_rd HO4.out) HCC.out).mono ?_); rintro e w5 ⟨rfl, rfl⟩))
              refine bodyPost_ret (results_tmp3 rfl _ _ _) rfl ?_
              obtain ⟨hO', hB'⟩ := wait_own (x := l) (by decide) HO5.out HT2.out hq1 (by omega)
              refine ⟨_, _, _, _, rfl, hO'.mono W1.out.size, ?_, ?_⟩
              · rw [map_set_th, HG2.out]
                have := HE2.out
                simp only [ThV.th]
                rw [show t2.pri = pri from congrArg Th.pri this, show t2.holds = holds from congrArg Th.holds this]
              · exact W4.out.trans (hB'.mono W1.out.size)
            · rw [hc] at hRR
              rw [if_pos rfl] at hRR
              have HCC := Lib.hid hc
              clear hc
              subst hRR
              go_enter Try.func31, Try.ntmps31
              go_wp2_with (first
                | (go_at_call 48; (with_reducible refine (isThread_is HR.out Hg.out HT.out).mono ?_); rintro e w1 ⟨rfl, hb1⟩; have W1 := Lib.hid hb1; have d2 := H2.out _ hb1; have d3 := H3.out _ hb1; clear hb1)
                | (go_at_call 54; refine (isLock_is HL.out).mono ?_; rintro e w1 ⟨rfl, rfl⟩)
                | (go_at_call 60; (with_reducible refine (contains_is (HT1.out.ext W1.out) HH1.out).mono ?_); rintro e w2 ⟨rfl, rfl⟩)
                | (go_at_call 64; (with_reducible refine (copied_is (by omega) (by omega) HH.out (HR.out.ext W1.out) Hg.out).mono ?_); rintro e w2 ⟨a2, c2, g2, rfl, ho2, hg2, hap2, hb2⟩; have HO2 := Lib.hid ho2; have HG2 := Lib.hid hg2; have HAP := Lib.hid hap2; have B2 := Lib.hid hb2; have W2 := Lib.hid (Below.then W1.out hb2); (obtain ⟨b2, rfl, hq1, hq2⟩ := owns_addr ho2.own (by omega)); clear ho2 hg2 hap2 hb2)
                | (go_at_call 55; (with_reducible refine (holder_is (HR.out.ext W2.out) Hg.out HHD.out).mono ?_); rintro e w3 ⟨rfl, hb3⟩; have B3 := Lib.hid hb3; have W3 := Lib.hid (Below.then W2.out hb3); have hz3 := hb3.size; clear hb3)
                | (go_at_call 49; (with_reducible refine (chain_is hq (by omega) (HR.out.ext W3.out) Hg.out HLL.out).mono ?_); rintro e w4 ⟨a4, n4, c4, rfl, ho4, hb4⟩; have HO4 := Lib.hid ho4; have W4 := Lib.hid (Below.then W3.out hb4); clear ho4 hb4)
                | (go_at_call 60; (with_reducible refine (contains_is (ownsI_rd HO4.out) HCC.out).mono ?_); rintro e w5 ⟨rfl, rfl⟩))
              refine bodyPost_ret (results_tmp3 rfl _ _ _) rfl ?_
              exact .none W4.out
        · have HH1 := Lib.hid hh
          rw [if_pos (.inr hh)] at hRR
          subst hRR
          clear hh
          go_enter Try.func31, Try.ntmps31
          go_wp2_with (first
            | (go_at_call 48; (with_reducible refine (isThread_is HR.out Hg.out HT.out).mono ?_); rintro e w1 ⟨rfl, hb1⟩; have W1 := Lib.hid hb1; have d2 := H2.out _ hb1; have d3 := H3.out _ hb1; clear hb1)
              | (go_at_call 54; refine (isLock_is HL.out).mono ?_; rintro e w1 ⟨rfl, rfl⟩)
              | (go_at_call 60; (with_reducible refine (contains_is (HT1.out.ext W1.out) HH1.out).mono ?_); rintro e w2 ⟨rfl, rfl⟩))
          refine bodyPost_ret (results_tmp3 rfl _ _ _) rfl ?_
          exact .none W1.out
end Go.Proofs.Ytmdjbnicjohkjaa
