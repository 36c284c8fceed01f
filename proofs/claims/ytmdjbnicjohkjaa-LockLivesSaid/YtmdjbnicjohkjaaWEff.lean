/- The walk of LockEffective: it returns true. The conditions: the graph reads as named; its lists are no longer than memory bears. -/
import Derived.Test.YtmdjbnicjohkjaaLkIs
import Derived.Test.YtmdjbnicjohkjaaLkSeq
namespace Go.Proofs.Ytmdjbnicjohkjaa
open Go.RowKit
set_option linter.unusedSimpArgs false
set_option linter.unusedVariables false
theorem Effective_is {a : Option Addr} {n c : Nat} {g : List ThV} {w : World} {G : List Th} {R : List Int × Int} (hG : RdG w a n g) (hg : g.map ThV.th = G) (h : effR G = R) : Calls Try.prog 27 #[.slice a n c] w (OutIE w.heap.size w R.1 R.2) := by subst hg; subst h; exact Effective_any a n c g w hG
theorem rEffective_is {a : Option Addr} {n c : Nat} {g : List ThV} {w : World} {G : List Th} {R : List Int × Int} (hG : RdG w a n g) (hg : g.map ThV.th = G) (h : effR G = R) : Calls Try.prog 28 #[.slice a n c] w (OutIE w.heap.size w R.1 R.2) := by subst hg; subst h; exact rEffective_any a n c g w hG
theorem Next_is {a : Option Addr} {n c : Nat} {g : List ThV} {w : World} {G : List Th} {R : Int × Int} (hG : RdG w a n g) (hg : g.map ThV.th = G) (h : nextR G = R) : Calls Try.prog 29 #[.slice a n c] w fun e w' => e = rII R.1 R.2 ∧ Below w.heap.size w w' := by subst hg; subst h; exact Next_any a n c g w hG
theorem rNext_is {a : Option Addr} {n c : Nat} {g : List ThV} {w : World} {G : List Th} {R : Int × Int} (hG : RdG w a n g) (hg : g.map ThV.th = G) (h : nextR G = R) : Calls Try.prog 30 #[.slice a n c] w fun e w' => e = rII R.1 R.2 ∧ Below w.heap.size w w' := by subst hg; subst h; exact rNext_any a n c g w hG
set_option maxRecDepth 10000 in
set_option maxHeartbeats 4000000 in
theorem lockEffective_walk {w : World} (a : Option Addr) (n c : Nat) (g : List ThV) (hG : RdG w a n g) (hT : ∀ t ∈ g, t.n ≤ 281474976710656) :
    Calls Try.prog 4 #[.slice a n c] w fun e w' => e = .returned (.bool true) ∧ Below w.heap.size w w' := by
  have HL := Lib.hid (large_any a n c g w hG hT)
  have HR := Lib.hid hG
  cases hl : largeG n g
  · rw [hl] at HL
    obtain ⟨hn, hH⟩ := large_no g n (by simpa [largeG] using hl)
    have HTO := Lib.hid (to_any a n c g (by omega) (fun t ht => by have := hH t ht; omega) w hG)
    have hgl : (g.map ThV.th).length = n := by simp [hG.length]
    clear hG hT hl hH
    obtain ⟨G, hg⟩ : ∃ G, g.map ThV.th = G := ⟨_, rfl⟩
    obtain ⟨ER, h1⟩ : ∃ R, effR G = R := ⟨_, rfl⟩
    obtain ⟨NR, h2⟩ : ∃ R, nextR G = R := ⟨_, rfl⟩
    rw [hg] at HTO hgl
    have Hg := Lib.hid hg; have H1 := Lib.hid h1; have H2 := Lib.hid h2; have HGL := Lib.hid hgl
    clear hg h1 h2 hgl
    go_enter Try.func4, Try.ntmps4
    go_wp2_with (first
      | (go_at_call 13; refine (HL.out).mono ?_; rintro e w1 ⟨rfl, rfl⟩)
      | (go_at_call 15; (with_reducible refine HTO.out.mono ?_); rintro e w1 ⟨a1, n1, c1, g1, rfl, ho1, hg1, hb1⟩; have HO1 := Lib.hid ho1; have Hg1 := Lib.hid hg1; have W1 := Lib.hid hb1; clear ho1 hg1 hb1)
      | (go_at_call 27; (with_reducible refine (Effective_is HO1.out.rd Hg1.out H1.out).mono ?_); rintro e w2 ⟨a2, n2, c2, rfl, ho2, hb2⟩; have R2 := Lib.hid (ownsI_rd ho2); have B2 := Lib.hid hb2; have W2 := Lib.hid (Below.then W1.out hb2); have V2 := Lib.hid hb2; clear ho2 hb2)
      | (go_at_call 28; (with_reducible refine (rEffective_is (HR.out.ext W2.out) Hg.out H1.out).mono ?_); rintro e w3 ⟨a3, n3, c3, rfl, ho3, hb3⟩; have R3 := Lib.hid (ownsI_rd ho3); have B3 := Lib.hid hb3; have W3 := Lib.hid (Below.then W2.out hb3); have V3 := Lib.hid (Below.then V2.out hb3); clear ho3 hb3)
      | (go_at_call 29; (with_reducible refine (Next_is (HO1.out.ext V3.out).rd Hg1.out H2.out).mono ?_); rintro e w4 ⟨rfl, hb4⟩; have B4 := Lib.hid hb4; have W4 := Lib.hid (Below.then W3.out hb4); have V4 := Lib.hid (Below.then V3.out hb4); clear hb4)
      | (go_at_call 30; (with_reducible refine (rNext_is (HR.out.ext W4.out) Hg.out H2.out).mono ?_); rintro e w5 ⟨rfl, hb5⟩; have B5 := Lib.hid hb5; have W5 := Lib.hid (Below.then W4.out hb5); have V5 := Lib.hid (Below.then V4.out hb5); clear hb5)
      | (go_at_call 24; (with_reducible refine (ints_eq _ _ _ _ _ _ ER.1 _ (R2.out.ext (Below.then (Below.then B3.out B4.out) B5.out)) (R3.out.ext (Below.then B4.out B5.out))).mono ?_); rintro e w6 ⟨rfl, hb6⟩; have W6 := Lib.hid (Below.then W5.out hb6); have V6 := Lib.hid (Below.then V5.out hb6); have R6 := Lib.hid (R2.out.ext (Below.then (Below.then (Below.then B3.out B4.out) B5.out) hb6)); clear hb6))
    have hER : (validG G = true ∧ ER = (effL G, 0) ∧ n2 = n) ∨ n2 = 0 := by
      have hl2 := R6.out.length
      have h1 := H1.out
      unfold effR at h1
      cases hv : validG G
      · rw [hv] at h1; simp at h1; subst h1; right; simpa using hl2.symm
      · rw [hv, if_pos rfl] at h1
        subst h1
        left
        rw [effL_len, HGL.out] at hl2
        exact ⟨rfl, rfl, hl2.symm⟩
    have HER := Lib.hid hER
    clear hER
    go_loopw [12] (fun i wr => ∃ t : Nat, t ≤ n2 ∧ i = .int .i64 t ∧ Below w6.heap.size w6 wr) (fun i _ => n2 - (intOf i).toNat)
    case atStart => exact ⟨0, Nat.zero_le _, rfl, by (repeat' (first | (with_reducible exact Below.refl _ _) | (with_reducible assumption) | (with_reducible refine Below.alloc ?_ ?_ _) | (with_reducible refine Below.drew ?_) | (with_reducible refine Below.draws ?_ _) | (with_reducible refine Below.setCell ?_ ?_ _) | (refine Below.then ?_ (by with_reducible assumption)) | go_size))⟩
    case round =>
      obtain ⟨t, ht, rfl, hB⟩ := hrel
      have HB := Lib.hid hB
      clear hB
      by_cases hlt : t < n2
      · obtain ⟨hv, hERe, hnn⟩ : validG G = true ∧ ER = (effL G, 0) ∧ n2 = n := HER.out.resolve_right (by omega)
        have hnn1 : n2 ≤ n := by omega
        have hnn2 : n ≤ n2 := by omega
        have htn : t < n := by omega
        have hpri := validG_pri hv
        have HEG : Hid (∀ j, j < n → (effL G)[j]? = some (effV G j)) := Lib.hid (fun j hj => effL_get hpri j (by rw [HGL.out]; exact hj))
        have hCR : chainR G t = (chainG G t, 0) := by rw [chainR, if_pos (isTh_iff.2 ⟨hv, by omega, by rw [HGL.out]; omega⟩), Int.toNat_natCast]
        have HCR := Lib.hid hCR
        have HV := Lib.hid hv
        have HRL : Hid (Rd w6 a2 n2 1 ((effL G).map enc1)) := Lib.hid (by have := R6.out; rw [hERe] at this; exact this)
        have HCN : Hid (∀ x ∈ chainG G t, 0 ≤ x ∧ x < n) := Lib.hid (by have := chainG_rng G t (by rw [HGL.out]; omega); rw [HGL.out] at this; exact this)
        obtain ⟨⟨pri, ta, tn, tc, waits, holds⟩, b, off, rfl, hb, k1, k2, k3, kt, kgi, _⟩ := HR.out.at_ t htn
        simp only [] at k1 k2 k3
        obtain ⟨x, bl, ol, rfl, hbl, hcx, hx⟩ := HRL.out.idx t hlt
        obtain rfl : x = effV G t := by rw [HEG.out t htn] at hx; simpa using hx.symm
        have hown : decide (effV G t < pri) = false := by
          have h1 := effV_own G t
          rw [← Hg.out, priG_at kgi] at h1
          rw [Hg.out] at h1
          exact decide_eq_false (by simp only [] at h1; omega)
        have HPR : Hid (priG G t = pri) := Lib.hid (by rw [← Hg.out, priG_at kgi])
        clear hx kt kgi hv hpri hCR hERe hnn
        obtain ⟨E, hE⟩ : ∃ E, E = effV G t := ⟨_, rfl⟩
        rw [← hE] at hcx hown
        have HE := Lib.hid hE
        clear hE
        obtain ⟨C, hC⟩ : ∃ C, C = chainG G t := ⟨_, rfl⟩
        rw [← hC] at HCR HCN
        have HCE := Lib.hid hC
        clear hC
        obtain ⟨hc6, hf6, hz6, hr6⟩ := bfacts W6.out
        obtain ⟨hcr, hfr, hzr, hrr⟩ := bfacts HB.out
        have hb6 : b < w6.heap.size := by omega
        have hbr : b < wr.heap.size := by omega
        have hblr : bl < wr.heap.size := by omega
        go_wp2_with (first
          | (go_at_call 16; (with_reducible refine (Chain_is (HO1.out.ext (Below.then V6.out HB.out)).rd Hg1.out HCR.out).mono ?_); rintro e w7 ⟨a7, n7, c7, rfl, ho7, hb7⟩; have R7 := Lib.hid (ownsI_rd ho7); have B7 := Lib.hid (Below.then HB.out hb7); obtain ⟨hc7, hf7, hz7, hr7⟩ := bfacts hb7; clear ho7 hb7)
          | (refine wp_region_later_lit (by kernel_rfl) (by kernel_rfl) ?_; (repeat (go_big_quiet_step (fail))); refine wpQuiet_nil ?_; intro w1 hb1; obtain ⟨hc1, hf1, hz1, hr1⟩ := bfacts hb1; (try simp only [World.size_alloc, World.size_setCell, World.size_drew, World.size_drewN] at hz1 hr1); (try have hw0 : w.heap.size < w1.heap.size := by omega); (try have hw1 : w.heap.size + 1 < w1.heap.size := by omega); (try have hw2 : w.heap.size + 1 + 1 < w1.heap.size := by omega)))
        have B1 := Lib.hid (Below.then B7.out hb1)
        have R1 := Lib.hid (R7.out.ext hb1)
        have HLC := Lib.hid R7.out.length
        have hs7 := R7.out.small
        have HST : Hid (E = effV G (lastOf t (C.take 0)).toNat) := Lib.hid (by rw [HE.out]; simp [lastOf])
        clear hb1 hc1 hf1 hz1 hr1 hc7 hf7 hz7 hr7 hcr hfr hzr hrr R7 B7 HB
        go_loopw [15, 16] (fun v i wi => ∃ (s : Nat) (L : Int), s ≤ n7 ∧ v = .int .i64 L ∧ i = .int .i64 s ∧ L = effV G (lastOf t (C.take s)).toNat ∧ Below w1.heap.size w1 wi) (fun _ i _ => n7 - (intOf i).toNat)
        case atStart => exact ⟨0, _, Nat.zero_le _, rfl, rfl, HST.out, by (repeat' (first | (with_reducible exact Below.refl _ _) | (with_reducible assumption) | (with_reducible refine Below.alloc ?_ ?_ _) | (with_reducible refine Below.drew ?_) | (with_reducible refine Below.draws ?_ _) | (with_reducible refine Below.setCell ?_ ?_ _) | (refine Below.then ?_ (by with_reducible assumption)) | go_size))⟩
        case round =>
          obtain ⟨s, L, hs, rfl, rfl, hL, hB⟩ := hrel
          have HL := Lib.hid hL; have HB := Lib.hid hB
          clear hL hB HST
          by_cases hsl : s < n7
          · obtain ⟨y, b7, o7, rfl, hb7, hcy, hy⟩ := (R1.out.ext HB.out).idx s hsl
            have hyr := HCN.out y (List.mem_of_getElem? hy)
            obtain ⟨m, rfl⟩ := Int.eq_ofNat_of_zero_le hyr.1
            have hmn : m < n2 := by omega
            obtain ⟨z, b8, o8, e8, hb8, hcz, hz⟩ := (HRL.out.ext (Below.then B1.out HB.out)).idx m hmn
            simp at e8
            obtain ⟨rfl, rfl⟩ := e8
            obtain rfl : z = effV G m := by rw [HEG.out m (by omega)] at hz; simpa using hz.symm
            have hnx := chain_seq (g := G) (i := t) (s := s) (y := (m : Int)) (by rw [← HCE.out]; exact hy)
            rw [← HCE.out] at hnx
            have hlast : (lastOf t (C.take s)).toNat < n := by
              unfold lastOf
              cases hq : (C.take s).getLast? with
              | none => simp; exact htn
              | some x =>
                have := HCN.out x (List.mem_of_mem_take (List.mem_of_getLast? hq))
                simp; omega
            have hle := effV_next (g := G) (by rw [HGL.out]; exact hlast) hnx
            rw [← HL.out] at hle
            have htk : C.take (s + 1) = C.take s ++ [(m : Int)] := by
              rw [List.take_add_one, hy]; rfl
            have HN : Hid (effV G m = effV G (lastOf t (C.take (s + 1))).toNat) := Lib.hid (by rw [htk, lastOf_snoc]; simp)
            generalize effV G m = F at *
            have q1 : decide (F < L) = false := decide_eq_false (by omega)
            clear hnx hlast htk hz hy hyr hle
            go_wp2
            go_roundw
            case rel => exact ⟨s + 1, F, by omega, rfl, by go_num, HN.out, HB.out⟩
            case measure => simp [intOf]; omega
          · go_wp2
            have B2' := Lib.hid (Below.then B1.out HB.out)
            go_loopw [17, 18] (fun v i wi => ∃ (s : Nat) (al : Bool), s ≤ n ∧ v = .bool al ∧ i = .int .i64 s ∧ (al = true → ∀ j, j < s → nextG G j ≠ t) ∧ Below w6.heap.size w6 wi) (fun _ i _ => n - (intOf i).toNat)
            case atStart => exact ⟨0, true, Nat.zero_le _, rfl, rfl, fun _ j hj => by omega, B2'.out⟩
            case round =>
              obtain ⟨s, al, hs, rfl, rfl, hal, hB⟩ := hrel
              have HA := Lib.hid hal; have HB := Lib.hid hB
              clear hal hB B2'
              by_cases hsl : s < n
              · obtain ⟨⟨pri2, ta2, tn2, tc2, waits2, holds2⟩, b2, off2, e2, hb2, j1, j2, j3, jt, jgi, _⟩ := (HR.out.ext (Below.then W6.out HB.out)).at_ s hsl
                simp at e2
                obtain ⟨rfl, rfl⟩ := e2
                simp only [] at j1 j2 j3
                have jgi2 : G[s]? = some (⟨pri2, holds2, waits2⟩ : Th) := by rw [← Hg.out, List.getElem?_map, jgi]; rfl
                obtain ⟨OR, hOR⟩ : ∃ R, ownerR G waits2 = R := ⟨_, rfl⟩
                have HW : Hid (nextG G s = t → OR = ((t : Int), 0)) := Lib.hid (fun h => by rw [← hOR]; exact owner_next HV.out jgi2 h)
                have HOR := Lib.hid hOR
                clear jt jgi jgi2 hOR
                obtain ⟨o1, o2⟩ := OR
                cases al
                · go_wp2_with (go_at_call 20; (with_reducible refine (Owner_is (HO1.out.ext (Below.then V6.out HB.out)).rd Hg1.out HOR.out).mono ?_); rintro e w9 ⟨rfl, hb9⟩; have HB9 := Lib.hid (Below.then HB.out hb9); clear hb9)
                  go_roundw
                  case rel => exact ⟨s + 1, false, by omega, rfl, by go_num, (fun h => by cases h), HB9.out⟩
                  case measure => simp [intOf]; omega
                · cases p1 : (o2 == 0)
                  · go_wp2_with (go_at_call 20; (with_reducible refine (Owner_is (HO1.out.ext (Below.then V6.out HB.out)).rd Hg1.out HOR.out).mono ?_); rintro e w9 ⟨rfl, hb9⟩; have HB9 := Lib.hid (Below.then HB.out hb9); clear hb9)
                    go_roundw
                    case rel => exact ⟨s + 1, true, by omega, rfl, by go_num, fun _ j hj => (by
                      by_cases e : j = s
                      · subst e; intro h; have := HW.out h; simp at this; rw [this.2] at p1; simp at p1
                      · exact HA.out (by trivial) j (by omega)), HB9.out⟩
                    case measure => simp [intOf]; omega
                  · cases p2 : (o1 == (t : Int))
                    · go_wp2_with (go_at_call 20; (with_reducible refine (Owner_is (HO1.out.ext (Below.then V6.out HB.out)).rd Hg1.out HOR.out).mono ?_); rintro e w9 ⟨rfl, hb9⟩; have HB9 := Lib.hid (Below.then HB.out hb9); clear hb9)
                      go_roundw
                      case rel => exact ⟨s + 1, true, by omega, rfl, by go_num, fun _ j hj => (by
                        by_cases e : j = s
                        · subst e; intro h; have := HW.out h; simp at this; rw [this.1] at p2; simp at p2
                        · exact HA.out (by trivial) j (by omega)), HB9.out⟩
                      case measure => simp [intOf]; omega
                    · go_wp2_with (go_at_call 20; (with_reducible refine (Owner_is (HO1.out.ext (Below.then V6.out HB.out)).rd Hg1.out HOR.out).mono ?_); rintro e w9 ⟨rfl, hb9⟩; have HB9 := Lib.hid (Below.then HB.out hb9); clear hb9)
                      go_roundw
                      case rel => exact ⟨s + 1, false, by omega, rfl, by go_num, (fun h => by cases h), HB9.out⟩
                      case measure => simp [intOf]; omega
              · obtain ⟨hcr, hfr, hzr, hrr⟩ := bfacts HB.out
                cases al
                · go_wp2_with (refine wp_region_later_lit (by kernel_rfl) (by kernel_rfl) ?_; (repeat (go_big_quiet_step (fail))); refine wpQuiet_nil ?_; intro w1 hb1; obtain ⟨hc1, hf1, hz1, hr1⟩ := bfacts hb1; (try simp only [World.size_alloc, World.size_setCell, World.size_drew, World.size_drewN] at hz1 hr1); (try have hw0 : w.heap.size < w1.heap.size := by omega); (try have hw1 : w.heap.size + 1 < w1.heap.size := by omega); (try have hw2 : w.heap.size + 1 + 1 < w1.heap.size := by omega))
                  go_roundw
                  case rel => exact ⟨t + 1, by omega, by go_num, Below.then HB.out (by assumption)⟩
                  case measure => simp [intOf]; omega
                · have hEp : E = pri := by
                    rw [HE.out, ← HPR.out]
                    exact effV_alone (fun s' hs' => HA.out (by trivial) s' (by rw [HGL.out] at hs'; omega))
                  subst hEp
                  go_wp2_with (refine wp_region_later_lit (by kernel_rfl) (by kernel_rfl) ?_; (repeat (go_big_quiet_step (fail))); refine wpQuiet_nil ?_; intro w1 hb1; obtain ⟨hc1, hf1, hz1, hr1⟩ := bfacts hb1; (try simp only [World.size_alloc, World.size_setCell, World.size_drew, World.size_drewN] at hz1 hr1); (try have hw0 : w.heap.size < w1.heap.size := by omega); (try have hw1 : w.heap.size + 1 < w1.heap.size := by omega); (try have hw2 : w.heap.size + 1 + 1 < w1.heap.size := by omega))
                  go_roundw
                  case rel => exact ⟨t + 1, by omega, by go_num, Below.then HB.out (by assumption)⟩
                  case measure => simp [intOf]; omega
      · go_wp2_with (go_at_call 14; (with_reducible refine (sane_any _).mono ?_); rintro e w14 ⟨rfl, hb14⟩)
        go_ret
        exact ⟨rfl, Below.then (Below.then W6.out HB.out) hb14⟩
  · rw [hl] at HL
    clear hG hT hl
    go_enter Try.func4, Try.ntmps4
    go_wp2_with (first | (go_at_call 13; refine (HL.out).mono ?_; rintro e w1 ⟨rfl, rfl⟩) | (go_at_call 14; refine (sane_any _).mono ?_; rintro e w1 ⟨rfl, hb1⟩; obtain ⟨hc1, hf1, hz1, hr1⟩ := bfacts hb1; (try simp only [World.size_alloc, World.size_setCell, World.size_drew, World.size_drewN] at hz1 hr1); (try have hw0 : w.heap.size < w1.heap.size := by omega); (try have hw1 : w.heap.size + 1 < w1.heap.size := by omega); (try have hw2 : w.heap.size + 1 + 1 < w1.heap.size := by omega)))
    go_ret
    exact ⟨rfl, by (repeat' (first | (with_reducible exact Below.refl _ _) | (with_reducible assumption) | (with_reducible refine Below.alloc ?_ ?_ _) | (with_reducible refine Below.drew ?_) | (with_reducible refine Below.draws ?_ _) | (with_reducible refine Below.setCell ?_ ?_ _) | (refine Below.then ?_ (by with_reducible assumption)) | go_size))⟩
end Go.Proofs.Ytmdjbnicjohkjaa
