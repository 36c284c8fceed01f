/- The walk of LockGoes: it returns true. The conditions: the graph reads as named; its lists are no longer than memory bears. -/
import Derived.Test.YtmdjbnicjohkjaaWEff
import Derived.Test.YtmdjbnicjohkjaaLkGoes
namespace Go.Proofs.Ytmdjbnicjohkjaa
open Go.RowKit
set_option linter.unusedSimpArgs false
set_option linter.unusedVariables false
theorem to_is {a : Option Addr} {n c : Nat} {g : List ThV} {w : World} {G : List Th} (hG : RdG w a n g) (hg : g.map ThV.th = G) (hn : n < 400) (hH : ∀ t ∈ g, t.n ≤ 1000) : Calls Try.prog 15 #[.slice a n c] w (OutG 52 w.heap.size w G) := by subst hg; exact to_any a n c g (by omega) hH w hG
set_option maxRecDepth 10000 in
set_option maxHeartbeats 4000000 in
theorem lockGoes_walk {w : World} (a : Option Addr) (n c : Nat) (g : List ThV) (hG : RdG w a n g) (hT : ∀ t ∈ g, t.n ≤ 281474976710656) :
    Calls Try.prog 5 #[.slice a n c] w fun e w' => e = .returned (.bool true) ∧ Below w.heap.size w w' := by
  have HL := Lib.hid (large_any a n c g w hG hT)
  have HR := Lib.hid hG
  cases hl : largeG n g
  · rw [hl] at HL
    obtain ⟨hn, hH⟩ := large_no g n (by simpa [largeG] using hl)
    have HH : Hid (∀ t ∈ g, t.n ≤ 1000) := Lib.hid (fun t ht => by have := hH t ht; omega)
    have hgl : (g.map ThV.th).length = n := by simp [hG.length]
    clear hG hT hl hH
    obtain ⟨G, hg⟩ : ∃ G, g.map ThV.th = G := ⟨_, rfl⟩
    rw [hg] at hgl
    have Hg := Lib.hid hg; have HGL := Lib.hid hgl
    clear hg hgl
    cases hv : validG G
    · have HV := Lib.hid hv; clear hv
      go_enter Try.func5, Try.ntmps5
      go_wp2_with (first
        | (go_at_call 13; refine (HL.out).mono ?_; rintro e w1 ⟨rfl, rfl⟩)
        | (go_at_call 23; (with_reducible refine (rValid_is HR.out Hg.out HV.out).mono ?_); rintro e w1 ⟨rfl, hb1⟩; have W1 := Lib.hid hb1; clear hb1)
        | (go_at_call 14; (with_reducible refine (sane_any _).mono ?_); rintro e w14 ⟨rfl, hb14⟩; have W14 := Lib.hid (Below.then W1.out hb14); clear hb14))
      go_ret
      exact ⟨rfl, W14.out⟩
    · have HV := Lib.hid hv
      by_cases h0 : n = 0
      · subst h0
        clear hv
        go_enter Try.func5, Try.ntmps5
        go_wp2_with (first
          | (go_at_call 13; refine (HL.out).mono ?_; rintro e w1 ⟨rfl, rfl⟩)
          | (go_at_call 23; (with_reducible refine (rValid_is HR.out Hg.out HV.out).mono ?_); rintro e w1 ⟨rfl, hb1⟩; have W1 := Lib.hid hb1; clear hb1)
          | (go_at_call 14; (with_reducible refine (sane_any _).mono ?_); rintro e w14 ⟨rfl, hb14⟩; have W14 := Lib.hid (Below.then W1.out hb14); clear hb14))
        go_ret
        exact ⟨rfl, W14.out⟩
      · have hne : ((n : Int) == 0) = false := by simpa using h0
        rcases circleR_cases hv with h1 | ⟨h1, h2⟩
        · obtain ⟨KR, hk⟩ : ∃ R, circleR G = R := ⟨_, rfl⟩
          rw [hk] at h1
          obtain ⟨k1, k2⟩ := KR
          obtain rfl : k2 = 0 := h1
          have HK := Lib.hid hk
          clear hk hv
          go_enter Try.func5, Try.ntmps5
          go_wp2_with (first
            | (go_at_call 13; refine (HL.out).mono ?_; rintro e w1 ⟨rfl, rfl⟩)
            | (go_at_call 23; (with_reducible refine (rValid_is HR.out Hg.out HV.out).mono ?_); rintro e w1 ⟨rfl, hb1⟩; have W1 := Lib.hid hb1; clear hb1)
            | (go_at_call 15; (with_reducible refine (to_is (HR.out.ext W1.out) Hg.out hn HH.out).mono ?_); rintro e w2 ⟨a2, n2, c2, g2, rfl, ho2, hg2, hb2⟩; have HO2 := Lib.hid ho2; have Hg2 := Lib.hid hg2; have W2 := Lib.hid (Below.then W1.out hb2); clear ho2 hg2 hb2)
            | (go_at_call 18; (with_reducible refine (Circle_is HO2.out.rd Hg2.out HK.out).mono ?_); rintro e w4 ⟨a4, n4, c4, rfl, ho4, hb4⟩; have W4 := Lib.hid (Below.then W2.out hb4); clear ho4 hb4)
            | (go_at_call 14; (with_reducible refine (sane_any _).mono ?_); rintro e w14 ⟨rfl, hb14⟩; have W14 := Lib.hid (Below.then W4.out hb14); clear hb14))
          go_ret
          exact ⟨rfl, W14.out⟩
        · have HK := Lib.hid h1
          obtain ⟨b, hb, hN, ⟨t, ht, hw⟩, heff⟩ := goes_pure hv (by rw [HGL.out]; omega) h2
          have hER : effR G = (effL G, 0) := by rw [effR, hv, if_pos rfl]
          have HER := Lib.hid hER; have HN := Lib.hid hN; have HEF := Lib.hid heff
          have HEG : Hid (∀ j, j < n → (effL G)[j]? = some (effV G j)) := Lib.hid (fun j hj => effL_get (validG_pri hv) j (by rw [HGL.out]; exact hj))
          rw [HGL.out] at hb
          obtain ⟨⟨pri, ta, tn, tc, waits, holds⟩, bb, off, rfl, hbb, k1, k2, k3, kt, kgi, _⟩ := HR.out.at_ b hb
          simp only [] at k1 k2 k3
          obtain rfl : t = ⟨pri, holds, waits⟩ := by rw [← Hg.out, List.getElem?_map, kgi] at ht; simpa [ThV.th] using ht.symm
          simp only [] at hw
          have q1 : decide (0 ≤ waits) = false := decide_eq_false (by omega)
          clear h1 h2 hN hER heff kt kgi ht hv
          go_enter Try.func5, Try.ntmps5
          go_wp2_with (first
            | (go_at_call 13; refine (HL.out).mono ?_; rintro e w1 ⟨rfl, rfl⟩)
            | (go_at_call 23; (with_reducible refine (rValid_is HR.out Hg.out HV.out).mono ?_); rintro e w1 ⟨rfl, hb1⟩; have W1 := Lib.hid hb1; clear hb1)
            | (go_at_call 15; (with_reducible refine (to_is (HR.out.ext W1.out) Hg.out hn HH.out).mono ?_); rintro e w2 ⟨a2, n2, c2, g2, rfl, ho2, hg2, hb2⟩; have HO2 := Lib.hid ho2; have Hg2 := Lib.hid hg2; have W2 := Lib.hid (Below.then W1.out hb2); clear ho2 hg2 hb2)
            | (go_at_call 18; (with_reducible refine (Circle_is HO2.out.rd Hg2.out HK.out).mono ?_); rintro e w3 ⟨a3, n3, c3, rfl, ho3, hb3⟩; have V3 := Lib.hid hb3; have W3 := Lib.hid (Below.then W2.out hb3); clear ho3 hb3)
            | (go_at_call 29; (with_reducible refine (Next_is (HO2.out.ext V3.out).rd Hg2.out HN.out).mono ?_); rintro e w4 ⟨rfl, hb4⟩; have V4 := Lib.hid (Below.then V3.out hb4); have W4 := Lib.hid (Below.then W3.out hb4); clear hb4)
            | (go_at_call 27; (with_reducible refine (Effective_is (HO2.out.ext V4.out).rd Hg2.out HER.out).mono ?_); rintro e w5 ⟨a5, n5, c5, rfl, ho5, hb5⟩; have R5 := Lib.hid (ownsI_rd ho5); have W5 := Lib.hid (Below.then W4.out hb5); obtain ⟨hc5, hf5, hz5, hr5⟩ := bfacts W5.out; (have hn5 : n5 = n := by have := R5.out.length; rw [effL_len, HGL.out] at this; exact this.symm); (have hbb5 : bb < w5.heap.size := by omega); subst hn5; clear ho5 hb5))
          clear hc5 hf5 hz5 hr5
          go_loopw [10] (fun i wr => ∃ s : Nat, s ≤ n5 ∧ i = .int .i64 s ∧ Below w5.heap.size w5 wr) (fun i _ => n5 - (intOf i).toNat)
          case atStart => exact ⟨0, Nat.zero_le _, rfl, by (repeat' (first | (with_reducible exact Below.refl _ _) | (with_reducible assumption) | (with_reducible refine Below.alloc ?_ ?_ _) | (with_reducible refine Below.drew ?_) | (with_reducible refine Below.draws ?_ _) | (with_reducible refine Below.setCell ?_ ?_ _) | (refine Below.then ?_ (by with_reducible assumption)) | go_size))⟩
          case round =>
            obtain ⟨s, hs, rfl, hB⟩ := hrel
            have HB := Lib.hid hB
            clear hB
            by_cases hlt : s < n5
            · obtain ⟨x, bl, ol, rfl, hbl, hcx, hx⟩ := R5.out.idx s hlt
              obtain ⟨y, bl2, ol2, e2, hbl2, hcy, hy⟩ := R5.out.idx b hb
              simp at e2
              obtain ⟨rfl, rfl⟩ := e2
              obtain rfl : x = effV G s := by rw [HEG.out s hlt] at hx; simpa using hx.symm
              obtain rfl : y = effV G b := by rw [HEG.out b hb] at hy; simpa using hy.symm
              have hle := HEF.out s (by rw [HGL.out]; exact hlt)
              clear hx hy
              generalize effV G s = X at *
              generalize effV G b = Y at *
              have q2 : decide (Y < X) = false := decide_eq_false (by omega)
              obtain ⟨hcr, hfr, hzr, hrr⟩ := bfacts HB.out
              have hblr : bl < wr.heap.size := by omega
              go_wp2_with (refine wp_region_later_lit (by kernel_rfl) (by kernel_rfl) ?_; (repeat (go_big_quiet_step (fail))); refine wpQuiet_nil ?_; intro w1 hb1; obtain ⟨hc1, hf1, hz1, hr1⟩ := bfacts hb1; (try simp only [World.size_alloc, World.size_setCell, World.size_drew, World.size_drewN] at hz1 hr1); (try have hw0 : w.heap.size < w1.heap.size := by omega); (try have hw1 : w.heap.size + 1 < w1.heap.size := by omega); (try have hw2 : w.heap.size + 1 + 1 < w1.heap.size := by omega))
              go_roundw
              case rel => exact ⟨s + 1, by omega, by go_num, Below.then HB.out (by assumption)⟩
              case measure => simp [intOf]; omega
            · go_wp2_with (go_at_call 14; (with_reducible refine (sane_any _).mono ?_); rintro e w14 ⟨rfl, hb14⟩)
              go_ret
              exact ⟨rfl, Below.then (Below.then W5.out HB.out) hb14⟩
  · rw [hl] at HL
    clear hG hT hl
    go_enter Try.func5, Try.ntmps5
    go_wp2_with (first | (go_at_call 13; refine (HL.out).mono ?_; rintro e w1 ⟨rfl, rfl⟩) | (go_at_call 14; refine (sane_any _).mono ?_; rintro e w1 ⟨rfl, hb1⟩; obtain ⟨hc1, hf1, hz1, hr1⟩ := bfacts hb1; (try simp only [World.size_alloc, World.size_setCell, World.size_drew, World.size_drewN] at hz1 hr1); (try have hw0 : w.heap.size < w1.heap.size := by omega); (try have hw1 : w.heap.size + 1 < w1.heap.size := by omega); (try have hw2 : w.heap.size + 1 + 1 < w1.heap.size := by omega)))
    go_ret
    exact ⟨rfl, by (repeat' (first | (with_reducible exact Below.refl _ _) | (with_reducible assumption) | (with_reducible refine Below.alloc ?_ ?_ _) | (with_reducible refine Below.drew ?_) | (with_reducible refine Below.draws ?_ _) | (with_reducible refine Below.setCell ?_ ?_ _) | (refine Below.then ?_ (by with_reducible assumption)) | go_size))⟩
end Go.Proofs.Ytmdjbnicjohkjaa
