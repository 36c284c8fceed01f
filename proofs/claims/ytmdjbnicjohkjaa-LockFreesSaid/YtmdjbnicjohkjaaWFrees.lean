/- The walk of LockFrees: it returns true. The conditions: the graph reads as named; its lists are no longer than memory bears. -/
import Derived.Test.YtmdjbnicjohkjaaLkLets
import Derived.Test.YtmdjbnicjohkjaaWAsks
namespace Go.Proofs.Ytmdjbnicjohkjaa
open Go.RowKit
set_option linter.unusedSimpArgs false
set_option linter.unusedVariables false
/-- how far thread k has let go -/
structure FrInv (H : List Th) (n k : Nat) (pri waits : Int) (holds : List Int) : Prop where
  v : validG H = true
  len : H.length = n
  at_ : H[k]? = some ⟨pri, holds, waits⟩
theorem outL_head {x : Int} {r : List Int} (h : (x :: r).Pairwise (· < ·)) : outL (x :: r) x = r := by
  unfold outL
  rw [List.filter_cons_of_neg (by simp)]
  exact List.filter_eq_self.2 (fun y hy => by have := (List.pairwise_cons.1 h).1 y hy; simp; omega)
theorem free_step {H : List Th} {n k : Nat} {pri waits x : Int} {r : List Int} (h : FrInv H n k pri waits (x :: r)) (hw : waits < 0) :
    ∃ A b, letR H k x = (A, b, 0) ∧ FrInv A n k pri waits r := by
  obtain ⟨h1, h2, h3⟩ := h
  have hth : thAt H k = ⟨pri, x :: r, waits⟩ := thAt_eq h3
  have ha := valid_asc h1 (List.mem_of_getElem? h3)
  have hkl := (List.getElem?_eq_some_iff.1 h3).1
  have ht : isTh H k = true := isTh_iff.2 ⟨h1, by omega, by omega⟩
  have hx : inB x 0 5 = true := inB_iff.2 (ha.2 x (by simp))
  have hhas : hasB (x :: r) x = true := hasB_iff.2 (by simp)
  have h0 : (letR H k x).2.2 = 0 := by
    unfold letR
    rw [ht, hx, Int.toNat_natCast, hth]
    simp only [Bool.and_self, if_true]
    rw [if_neg (by rw [hhas]; simp; omega)]
    split <;> rfl
  have hf := let_full h0
  have ho := hf.own
  rw [Int.toNat_natCast, hth] at ho
  simp only [] at ho
  rw [outL_head ha.1] at ho
  exact ⟨_, _, by rw [← h0], ⟨hf.keeps.v, hf.keeps.len.trans h2, ho⟩⟩
theorem free_end {H : List Th} {n k : Nat} {pri waits : Int} (h : FrInv H n k pri waits []) : (effL H)[k]? = some pri := by
  obtain ⟨h1, h2, h3⟩ := h
  have hkl := (List.getElem?_eq_some_iff.1 h3).1
  rw [effL_get (validG_pri h1) k hkl]
  congr 1
  rw [effV_alone, priG, h3]
  · rfl
  · intro s hs e
    unfold nextG at e
    rw [List.getElem?_eq_getElem hs] at e
    simp only [] at e
    split at e
    · omega
    · obtain ⟨u, hu, hm⟩ := holderG_some e
      rw [h3] at hu
      simp at hu
      subst hu
      simp at hm
set_option maxRecDepth 10000 in
set_option maxHeartbeats 8000000 in
theorem lockFrees_walk {w : World} (a : Option Addr) (n c : Nat) (g : List ThV) (hG : RdG w a n g) (hT : ∀ t ∈ g, t.n ≤ 281474976710656) (t : Int) (_ : -9223372036854775808 ≤ t ∧ t ≤ 9223372036854775807) :
    Calls Try.prog 7 #[.slice a n c, .int .i64 t] w fun e w' => e = .returned (.bool true) ∧ Below w.heap.size w w' := by
  have HL := Lib.hid (large_any a n c g w hG hT)
  have HR := Lib.hid hG
  cases hl : largeG n g
  · rw [hl] at HL
    obtain ⟨hn, hH⟩ := large_no g n (by simpa [largeG] using hl)
    have hn' : n ≤ 1000 := by omega
    have HH : Hid (∀ t ∈ g, t.n ≤ 1000) := Lib.hid (fun t ht => by have := hH t ht; omega)
    have hgl : (g.map ThV.th).length = n := by simp [hG.length]
    clear hT hl hH
    obtain ⟨G, hg⟩ : ∃ G, g.map ThV.th = G := ⟨_, rfl⟩
    rw [hg] at hgl
    have Hg := Lib.hid hg
    have H3 : Hid (∀ (w1 : World), Below w.heap.size w w1 → True) := Lib.hid (fun _ _ => trivial)
    cases hv : validG G
    · have HV := Lib.hid hv
      clear hg hgl hv hG
      go_enter Try.func7, Try.ntmps7
      go_wp2_with (first
      | (go_at_call 13; refine (HL.out).mono ?_; rintro e w1 ⟨rfl, rfl⟩)
      | (go_at_call 23; (with_reducible refine (rValid_is HR.out Hg.out HV.out).mono ?_); rintro e w1 ⟨rfl, hb1⟩; have B1 := Lib.hid hb1; have d3 := H3.out _ hb1; clear hb1)
      | (go_at_call 14; (with_reducible refine (sane_any _).mono ?_); rintro e w14 ⟨rfl, hb14⟩; have B14 := Lib.hid hb14; clear hb14))
      go_ret
      exact ⟨rfl, (by repeat (first | (with_reducible exact Below.refl _ _) | (refine Below.then ?_ (Hid.out (by with_reducible assumption)))))⟩
    · have HV := Lib.hid hv
      by_cases ht0 : t < 0
      · clear hg hgl hv hG
        go_enter Try.func7, Try.ntmps7
        go_wp2_with (first
      | (go_at_call 13; refine (HL.out).mono ?_; rintro e w1 ⟨rfl, rfl⟩)
      | (go_at_call 23; (with_reducible refine (rValid_is HR.out Hg.out HV.out).mono ?_); rintro e w1 ⟨rfl, hb1⟩; have B1 := Lib.hid hb1; have d3 := H3.out _ hb1; clear hb1)
      | (go_at_call 14; (with_reducible refine (sane_any _).mono ?_); rintro e w14 ⟨rfl, hb14⟩; have B14 := Lib.hid hb14; clear hb14))
        go_ret
        exact ⟨rfl, (by repeat (first | (with_reducible exact Below.refl _ _) | (refine Below.then ?_ (Hid.out (by with_reducible assumption)))))⟩
      · by_cases htn : (n : Int) ≤ t
        · clear hg hgl hv hG
          go_enter Try.func7, Try.ntmps7
          go_wp2_with (first
      | (go_at_call 13; refine (HL.out).mono ?_; rintro e w1 ⟨rfl, rfl⟩)
      | (go_at_call 23; (with_reducible refine (rValid_is HR.out Hg.out HV.out).mono ?_); rintro e w1 ⟨rfl, hb1⟩; have B1 := Lib.hid hb1; have d3 := H3.out _ hb1; clear hb1)
      | (go_at_call 14; (with_reducible refine (sane_any _).mono ?_); rintro e w14 ⟨rfl, hb14⟩; have B14 := Lib.hid hb14; clear hb14))
          go_ret
          exact ⟨rfl, (by repeat (first | (with_reducible exact Below.refl _ _) | (refine Below.then ?_ (Hid.out (by with_reducible assumption)))))⟩
        · clear H3
          obtain ⟨k, rfl⟩ := Int.eq_ofNat_of_zero_le (Int.not_lt.1 ht0)
          have hk : k < n := by omega
          obtain ⟨⟨pri, ta, tn, tc, waits, holds⟩, b, off, rfl, hb, h1, h2, h3, hok, hgi, _⟩ := hG.at_ k hk
          simp only [] at h1 h2 h3
          have h1' : ∀ (w1 : World), Below w.heap.size w w1 → w1.cell? ⟨b, off + k * 3, none⟩ = some (.int .i64 pri) := fun _ h => (h.cell (p := ⟨b, off + k * 3, none⟩) hb).trans h1
          have h2' : ∀ (w1 : World), Below w.heap.size w w1 → w1.cell? ⟨b, off + k * 3 + 1, none⟩ = some (.slice ta tn tc) := fun _ h => (h.cell (p := ⟨b, off + k * 3 + 1, none⟩) hb).trans h2
          have h3' : ∀ (w1 : World), Below w.heap.size w w1 → w1.cell? ⟨b, off + k * 3 + 2, none⟩ = some (.int .i64 waits) := fun _ h => (h.cell (p := ⟨b, off + k * 3 + 2, none⟩) hb).trans h3
          have H1 := Lib.hid h1'
          have H2 := Lib.hid h2'
          have H3 := Lib.hid h3'
          have htn2 : ¬ (n : Int) ≤ (k : Int) := htn
          have hkz : ¬ ((k : Int) < 0) := ht0
          by_cases hw : 0 ≤ waits
          · clear hg hgl hv hG h1 h2 h3 h1' h2' h3' hok hgi
            go_enter Try.func7, Try.ntmps7
            go_wp2_with (first
      | (go_at_call 13; refine (HL.out).mono ?_; rintro e w1 ⟨rfl, rfl⟩)
      | (go_at_call 23; (with_reducible refine (rValid_is HR.out Hg.out HV.out).mono ?_); rintro e w1 ⟨rfl, hb1⟩; have B1 := Lib.hid hb1; have d3 := H3.out _ hb1; clear hb1)
      | (go_at_call 14; (with_reducible refine (sane_any _).mono ?_); rintro e w14 ⟨rfl, hb14⟩; have B14 := Lib.hid hb14; clear hb14))
            go_ret
            exact ⟨rfl, (by repeat (first | (with_reducible exact Below.refl _ _) | (refine Below.then ?_ (Hid.out (by with_reducible assumption)))))⟩
          · have hw' : decide (0 ≤ waits) = false := by simpa using hw
            have HT1 : Hid (Rd w ta tn 1 (holds.map enc1)) := Lib.hid hok.1
            have HTL := Lib.hid hok.1.length
            have htn1 : tn ≤ 1000 := HH.out _ (List.mem_of_getElem? hgi)
            have HF : Hid (FrInv G n k pri waits (holds.drop 0)) := Lib.hid ⟨hv, hgl, thAt_get hg hgi⟩
            clear hg hgl hv hG h1 h2 h3 h1' h2' h3' hok hgi
            go_enter Try.func7, Try.ntmps7
            go_wp2_with (first
      | (go_at_call 13; refine (HL.out).mono ?_; rintro e w1 ⟨rfl, rfl⟩)
      | (go_at_call 23; (with_reducible refine (rValid_is HR.out Hg.out HV.out).mono ?_); rintro e w1 ⟨rfl, hb1⟩; have B1 := Lib.hid hb1; have d3 := H3.out _ hb1; clear hb1)
      | (go_at_call 15; (with_reducible refine (to_sm (HR.out.ext (by repeat (first | (with_reducible exact Below.refl _ _) | (refine Below.then ?_ (Hid.out (by with_reducible assumption)))))) Hg.out hn HH.out).mono ?_); rintro e w2 ⟨a2, c2, g2, rfl, ho2, hg2, hs2, hb2⟩; have HO2 := Lib.hid ho2; have Hg2 := Lib.hid hg2; have HS2 := Lib.hid hs2; have B2 := Lib.hid hb2; clear ho2 hg2 hb2 hs2))
            clear d3
            have hz2 : w.heap.size ≤ w2.heap.size := (show Below w.heap.size w w2 from (by repeat (first | (with_reducible exact Below.refl _ _) | (refine Below.then ?_ (Hid.out (by with_reducible assumption)))))).size
            have HO2' := Lib.hid (HO2.out.mono (show w.heap.size ≤ _ from B1.out.size))
            go_loopw [5, 6] (fun v i wr => ∃ (q : Nat) (a' : Option Addr) (c' : Nat) (g' : List ThV) (H : List Th), q ≤ tn ∧ v = .slice a' n c' ∧ i = .int .i64 q ∧ OwnG 52 w.heap.size wr a' n c' g' ∧ g'.map ThV.th = H ∧ (∀ t ∈ g', t.n ≤ 1000) ∧ FrInv H n k pri waits (holds.drop q) ∧ Below w2.heap.size w2 wr) (fun _ i _ => tn - (intOf i).toNat)
            case atStart => exact ⟨0, _, _, _, _, Nat.zero_le _, rfl, rfl, HO2'.out, Hg2.out, HS2.out, HF.out, Below.refl _ _⟩
            case round =>
              obtain ⟨q, a', c', g', H, hq, rfl, rfl, ho, hg', hs', hf, hB⟩ := hrel
              have HO := Lib.hid ho; have Hg' := Lib.hid hg'; have HS' := Lib.hid hs'; have HB := Lib.hid hB; have HFQ := Lib.hid hf
              have d2 := H2.out wr (by repeat (first | (with_reducible exact Below.refl _ _) | (refine Below.then ?_ (Hid.out (by with_reducible assumption)))))
              clear ho hg' hs' hB hf
              by_cases hlt : q < tn
              · obtain ⟨x, bx, ox, rfl, hbx, hcx, HD⟩ := (HT1.out.ext (show Below w.heap.size w wr from (by repeat (first | (with_reducible exact Below.refl _ _) | (refine Below.then ?_ (Hid.out (by with_reducible assumption))))))).next1 q hlt
                have hf2 := HFQ.out
                rw [HD.out] at hf2
                obtain ⟨A, bb, hA, hFA⟩ := free_step hf2 (by omega)
                have HA := Lib.hid hA; have HFA := Lib.hid hFA
                clear hf2 hA hFA
                go_wp2_with (first
                  | (go_at_call 33; (with_reducible refine (Let_is HO.out.rd Hg'.out HS'.out HA.out).mono ?_); rintro e w3 ⟨a3, n3, c3, g3, rfl, ho3, hg3, hb3⟩; have HO3 := Lib.hid (ho3.mono (show w.heap.size ≤ _ from Nat.le_trans hz2 HB.out.size)); have Hg3 := Lib.hid hg3; have HS3 := Lib.hid (let_small HA.out ho3.rd hg3).2; have B3 := Lib.hid hb3
                     obtain rfl : n3 = n := by
                       have q1 := ho3.rd.length
                       have q2 := congrArg List.length hg3
                       have q3 := HFA.out.len
                       simp at q2; omega
                     clear ho3 hg3 hb3))
                go_roundw
                case rel => exact ⟨q + 1, _, _, _, _, by omega, rfl, by go_num, HO3.out, Hg3.out, HS3.out, HFA.out, (by repeat (first | (with_reducible exact Below.refl _ _) | (refine Below.then ?_ (Hid.out (by with_reducible assumption)))))⟩
                case measure => simp [intOf]; omega
              · obtain rfl : q = tn := by omega
                have hde : holds.drop q = [] := List.drop_of_length_le (by have := HTL.out; omega)
                have hf2 := HFQ.out
                rw [hde] at hf2
                have HE := Lib.hid (free_end hf2)
                have HVH := Lib.hid hf2.v
                have HLH := Lib.hid hf2.len
                have HAT := Lib.hid hf2.at_
                clear hf2 hde
                go_wp2_with (first
                  | (go_at_call 27; (with_reducible refine (EffV_is HO.out.rd Hg'.out HVH.out HLH.out).mono ?_); rintro e w8 ⟨a8, c8, rfl, ho8, hb8⟩; have HE1 := Lib.hid ho8; have B8 := Lib.hid hb8
                     have y1 := H1.out w8 (by repeat (first | (with_reducible exact Below.refl _ _) | (refine Below.then ?_ (Hid.out (by with_reducible assumption)))))
                     have y3 : b < w8.heap.size := Nat.lt_of_lt_of_le hb (show Below w.heap.size w w8 from (by repeat (first | (with_reducible exact Below.refl _ _) | (refine Below.then ?_ (Hid.out (by with_reducible assumption)))))).size
                     obtain ⟨⟨pri5, ta5, tn5, tc5, waits5, holds5⟩, b5, off5, e5, hb5, f1, f2, f3, htk5, hgi5, HD5⟩ := (HO.out.rd.ext (show Below wr.heap.size wr w8 from (by repeat (first | (with_reducible exact Below.refl _ _) | (refine Below.then ?_ (Hid.out (by with_reducible assumption))))))).at_ k hk
                     simp only [] at f1 f2 f3
                     subst e5
                     have q5 : holds5 = [] := by
                       have := thAt_get Hg'.out hgi5
                       rw [HAT.out] at this
                       exact (congrArg Th.holds (Option.some.inj this)).symm
                     obtain rfl : tn5 = 0 := by have := htk5.1.length; simp only [] at this; rw [q5] at this; simpa using this.symm
                     obtain ⟨x1, bl1, o1, e6, hbl1, hc1, hx1⟩ := HE1.out.idx k hk
                     subst e6
                     obtain rfl : x1 = pri := by rw [HE.out] at hx1; simpa using hx1.symm
                     clear ho8 hb8 htk5 hgi5 HD5 q5 hx1)
                  | (refine wp_region_later_lit (by kernel_rfl) (by kernel_rfl) ?_; (repeat (go_big_quiet_step ((go_at_call 14; exact later_of (sane_any _))))); refine wpQuiet_nil ?_; intro w9 hb9))
                go_ret
                exact ⟨rfl, (by repeat' (first | (with_reducible exact Below.refl _ _) | (with_reducible assumption) | (with_reducible refine Below.alloc ?_ ?_ _) | (with_reducible refine Below.drew ?_) | (with_reducible refine Below.draws ?_ _) | (with_reducible refine Below.setCell ?_ ?_ _) | (refine Below.then ?_ (Hid.out (by with_reducible assumption))) | (refine Below.then ?_ (by with_reducible assumption)) | go_size))⟩
  · rw [hl] at HL
    clear hG hT hl
    go_enter Try.func7, Try.ntmps7
    go_wp2_with (first | (go_at_call 13; refine (HL.out).mono ?_; rintro e w1 ⟨rfl, rfl⟩) | (go_at_call 14; refine (sane_any _).mono ?_; rintro e w1 ⟨rfl, hb1⟩; obtain ⟨hc1, hf1, hz1, hr1⟩ := bfacts hb1; (try simp only [World.size_alloc, World.size_setCell, World.size_drew, World.size_drewN] at hz1 hr1); (try have hw0 : w.heap.size < w1.heap.size := by omega); (try have hw1 : w.heap.size + 1 < w1.heap.size := by omega); (try have hw2 : w.heap.size + 1 + 1 < w1.heap.size := by omega)))
    go_ret
    exact ⟨rfl, by (repeat' (first | (with_reducible exact Below.refl _ _) | (with_reducible assumption) | (with_reducible refine Below.alloc ?_ ?_ _) | (with_reducible refine Below.drew ?_) | (with_reducible refine Below.draws ?_ _) | (with_reducible refine Below.setCell ?_ ?_ _) | (refine Below.then ?_ (by with_reducible assumption)) | go_size))⟩
end Go.Proofs.Ytmdjbnicjohkjaa
