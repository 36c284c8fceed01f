/- The walk of LockLets: it returns true. The conditions: the graph reads as named; its lists are no longer than memory bears. -/
import Derived.Test.YtmdjbnicjohkjaaLkLets
import Derived.Test.YtmdjbnicjohkjaaWAsks
namespace Go.Proofs.Ytmdjbnicjohkjaa
open Go.RowKit
set_option linter.unusedSimpArgs false
set_option linter.unusedVariables false
set_option maxRecDepth 10000 in
set_option maxHeartbeats 8000000 in
theorem lockLets_walk {w : World} (a : Option Addr) (n c : Nat) (g : List ThV) (hG : RdG w a n g) (hT : ∀ t ∈ g, t.n ≤ 281474976710656) (t : Int) (_ : -9223372036854775808 ≤ t ∧ t ≤ 9223372036854775807) (l : Int) (_ : -9223372036854775808 ≤ l ∧ l ≤ 9223372036854775807) :
    Calls Try.prog 9 #[.slice a n c, .int .i64 t, .int .i64 l] w fun e w' => e = .returned (.bool true) ∧ Below w.heap.size w w' := by
  have HL := Lib.hid (large_any a n c g w hG hT)
  have HR := Lib.hid hG
  cases hl : largeG n g
  · rw [hl] at HL
    obtain ⟨hn, hH⟩ := large_no g n (by simpa [largeG] using hl)
    have hn' : n ≤ 1000 := by omega
    have HH : Hid (∀ t ∈ g, t.n ≤ 1000) := Lib.hid (fun t ht => by have := hH t ht; omega)
    have hgl : (g.map ThV.th).length = n := by simp [hG.length]
    clear hG hT hl hH
    obtain ⟨G, hg⟩ : ∃ G, g.map ThV.th = G := ⟨_, rfl⟩
    rw [hg] at hgl
    have Hg := Lib.hid hg; have HGL := Lib.hid hgl
    obtain ⟨A, b, x, hA⟩ : ∃ A b x, letR G t l = (A, b, x) := ⟨_, _, _, rfl⟩
    have HA := Lib.hid hA
    by_cases hx : x = 0
    · subst hx
      have hk : LetFull G A t l b := by
        have := let_full (G := G) (t := t) (l := l) (by rw [hA])
        rw [hA] at this; exact this
      have HK : Hid (LetFull G A t l b) := Lib.hid hk
      have HVG := Lib.hid hk.keeps.v0; have HVA : Hid (validG A = true) := Lib.hid hk.keeps.v
      obtain ⟨y1, hy1⟩ : ∃ y, (circleR G).2 = y := ⟨_, rfl⟩
      obtain ⟨y2, hy2⟩ : ∃ y, (circleR A).2 = y := ⟨_, rfl⟩
      have HC1 : Hid (circleR G = ((circleR G).1, y1)) := Lib.hid (circ2 rfl hy1)
      have HC2 : Hid (circleR A = ((circleR A).1, y2)) := Lib.hid (circ2 rfl hy2)
      have HY : Hid (y1 ≠ 0 → y2 = 3) := Lib.hid (fun q => by rw [← hy2]; exact circR_none hk.keeps (by rw [hy1]; exact q))
      have HEG : Hid (∀ j, j < n → (effL G)[j]? = some (effV G j)) := Lib.hid (fun j hj => effL_get (validG_pri hk.keeps.v0) j (by omega))
      have hbl := hk.lo
      have hbn := hk.hi
      rw [hgl] at hbn
      have hbd : decide ((n : Int) ≤ b) = false := decide_eq_false (by omega)
      clear hA hg hgl hk hy1 hy2
      go_enter Try.func9, Try.ntmps9
      go_wp2_with (first
        | (go_at_call 13; refine (HL.out).mono ?_; rintro e w1 ⟨rfl, rfl⟩)
        | (go_at_call 15; (with_reducible refine (to_sm HR.out Hg.out hn HH.out).mono ?_); rintro e w1 ⟨a1, c1, g1, rfl, ho1, hg1, hs1, hb1⟩; have HO1 := Lib.hid ho1; have Hg1 := Lib.hid hg1; have HS1 := Lib.hid hs1; have B1 := Lib.hid hb1; clear ho1 hg1 hb1 hs1)
        | (go_at_call 33; (with_reducible refine (Let_is HO1.out.rd Hg1.out HS1.out HA.out).mono ?_); rintro e w2 ⟨a2, n2, c2, g2, rfl, ho2, hg2, hb2⟩; have HO2 := Lib.hid ho2; have Hg2 := Lib.hid hg2; have HS2 := Lib.hid (let_small HA.out ho2.rd hg2); have B2 := Lib.hid hb2; clear ho2 hg2 hb2)
        | (go_at_call 38; (with_reducible refine (rLet_is (HR.out.ext (by repeat (first | (with_reducible exact Below.refl _ _) | (refine Below.then ?_ (Hid.out (by with_reducible assumption)))))) Hg.out HH.out HA.out).mono ?_); rintro e w3 ⟨a3, n3, c3, g3, rfl, ho3, hg3, hb3⟩; have HO3 := Lib.hid ho3; have Hg3 := Lib.hid hg3; have B3 := Lib.hid hb3; clear ho3 hg3 hb3)
        | (go_at_call 26; first
            | ((with_reducible refine (from_is (HO2.out.ext (by repeat (first | (with_reducible exact Below.refl _ _) | (refine Below.then ?_ (Hid.out (by with_reducible assumption)))))).rd Hg2.out HS2.out).mono ?_); rintro e w4 ⟨a4, n4, c4, g4, rfl, ho4, hg4, hb4⟩; have HO4 := Lib.hid ho4; have Hg4 := Lib.hid hg4; have B4 := Lib.hid hb4; clear ho4 hg4 hb4)
            | ((with_reducible refine (from_is (HO1.out.ext (by repeat (first | (with_reducible exact Below.refl _ _) | (refine Below.then ?_ (Hid.out (by with_reducible assumption)))))).rd Hg1.out ⟨hn', HS1.out⟩).mono ?_); rintro e w6 ⟨a6, n6, c6, g6, rfl, ho6, hg6, hb6⟩; have HO6 := Lib.hid ho6; have Hg6 := Lib.hid hg6; have B6 := Lib.hid hb6; clear ho6 hg6 hb6))
        | (go_at_call 25; first
            | ((with_reducible refine (same_is HO4.out.rd (HO3.out.ext (by repeat (first | (with_reducible exact Below.refl _ _) | (refine Below.then ?_ (Hid.out (by with_reducible assumption)))))).rd Hg4.out Hg3.out).mono ?_); rintro e w5 ⟨rfl, hb5⟩; have B5 := Lib.hid hb5; clear hb5)
            | ((with_reducible refine (same_is HO6.out.rd (HR.out.ext (by repeat (first | (with_reducible exact Below.refl _ _) | (refine Below.then ?_ (Hid.out (by with_reducible assumption)))))) Hg6.out Hg.out).mono ?_); rintro e w7 ⟨rfl, hb7⟩; have B7 := Lib.hid hb7; clear hb7))
        | (go_at_call 27; (with_reducible refine (EffV_is (HO1.out.ext (by repeat (first | (with_reducible exact Below.refl _ _) | (refine Below.then ?_ (Hid.out (by with_reducible assumption)))))).rd Hg1.out HVG.out HGL.out).mono ?_); rintro e w8 ⟨a8, c8, rfl, ho8, hb8⟩; have HE1 := Lib.hid ho8; have B8 := Lib.hid hb8; clear ho8 hb8)
        | (go_at_call 22; (with_reducible refine (Valid_is (HO2.out.ext (by repeat (first | (with_reducible exact Below.refl _ _) | (refine Below.then ?_ (Hid.out (by with_reducible assumption)))))).rd Hg2.out HVA.out).mono ?_); rintro e w9 ⟨rfl, hb9⟩; have B9 := Lib.hid hb9; clear hb9))
      go_loopw [16] (fun i wr => ∃ t : Nat, t ≤ n ∧ i = .int .i64 t ∧ Below w9.heap.size w9 wr) (fun i _ => n - (intOf i).toNat)
      case atStart => exact ⟨0, Nat.zero_le _, rfl, Below.refl _ _⟩
      case round =>
        obtain ⟨t, ht, rfl, hB⟩ := hrel
        have HB := Lib.hid hB
        clear hB
        by_cases hlt : t < n
        · obtain ⟨⟨pri2, ta2, tn2, tc2, waits2, holds2⟩, b3, off3, rfl, hb3, h1, h2, h3, htk, hgi, HD⟩ := (HR.out.ext (show Below w.heap.size w wr from (by repeat (first | (with_reducible exact Below.refl _ _) | (refine Below.then ?_ (Hid.out (by with_reducible assumption))))))).at_ t hlt
          simp only [] at h1 h2 h3
          obtain ⟨x1, b1, o1, rfl, hb1, hc1, hx1⟩ := (HE1.out.ext (show Below w8.heap.size w8 wr from (by repeat (first | (with_reducible exact Below.refl _ _) | (refine Below.then ?_ (Hid.out (by with_reducible assumption))))))).idx t hlt
          by_cases hw : waits2 = l
          · subst hw
            obtain ⟨m0, m1⟩ := HK.out.most t _ (thAt_get Hg.out hgi) rfl
            obtain ⟨y, rfl⟩ := Int.eq_ofNat_of_zero_le m0
            obtain ⟨x2, b2, o2, e2, hb2, hc2, hx2⟩ := (HE1.out.ext (show Below w8.heap.size w8 wr from (by repeat (first | (with_reducible exact Below.refl _ _) | (refine Below.then ?_ (Hid.out (by with_reducible assumption))))))).idx y (by omega)
            simp at e2
            obtain ⟨rfl, rfl⟩ := e2
            rw [Int.toNat_natCast] at m1
            have e1 : effV G t = x1 := by rw [HEG.out t hlt] at hx1; simpa using hx1
            have e2 : effV G y = x2 := by rw [HEG.out y (by omega)] at hx2; simpa using hx2
            rw [e1, e2] at m1
            have q1 : decide ((y : Int) < 0) = false := by simp
            have q2 : decide (x2 < x1) = false := decide_eq_false (by omega)
            clear hx1 hx2 e1 e2 htk hgi HD m0
            go_wp2_with (refine wp_region_later_lit (by kernel_rfl) (by kernel_rfl) ?_; (repeat (go_big_quiet_step (fail))); refine wpQuiet_nil ?_; intro w12 hb12)
            go_roundw
            case rel => exact ⟨t + 1, by omega, by go_num, Below.then HB.out hb12⟩
            case measure => simp [intOf]; omega
          · have q : (waits2 == l) = false := by simpa using hw
            clear hx1 htk hgi HD
            go_wp2_with (refine wp_region_later_lit (by kernel_rfl) (by kernel_rfl) ?_; (repeat (go_big_quiet_step (fail))); refine wpQuiet_nil ?_; intro w12 hb12)
            go_roundw
            case rel => exact ⟨t + 1, by omega, by go_num, Below.then HB.out hb12⟩
            case measure => simp [intOf]; omega
        · by_cases h1 : y1 = 0
          · subst h1
            go_wp2_with (first
          | (go_at_call 18; first
              | ((with_reducible refine (Circle_is (HO1.out.ext (by repeat (first | (with_reducible exact Below.refl _ _) | (refine Below.then ?_ (Hid.out (by with_reducible assumption)))))).rd Hg1.out HC1.out).mono ?_); rintro e w10 ⟨a10, n10, c10, rfl, ho10, hb10⟩; have B10 := Lib.hid hb10; clear ho10 hb10)
              | ((with_reducible refine (Circle_is (HO2.out.ext (by repeat (first | (with_reducible exact Below.refl _ _) | (refine Below.then ?_ (Hid.out (by with_reducible assumption)))))).rd Hg2.out HC2.out).mono ?_); rintro e w11 ⟨a11, n11, c11, rfl, ho11, hb11⟩; have B11 := Lib.hid hb11; clear ho11 hb11))
          | (go_at_call 14; (with_reducible refine (sane_any _).mono ?_); rintro e w14 ⟨rfl, hb14⟩; have B14 := Lib.hid hb14; clear hb14))
            go_ret
            exact ⟨rfl, (by repeat (first | (with_reducible exact Below.refl _ _) | (refine Below.then ?_ (Hid.out (by with_reducible assumption)))))⟩
          · obtain rfl := HY.out h1
            have q1 : (y1 == 0) = false := by simpa using h1
            go_wp2_with (first
          | (go_at_call 18; first
              | ((with_reducible refine (Circle_is (HO1.out.ext (by repeat (first | (with_reducible exact Below.refl _ _) | (refine Below.then ?_ (Hid.out (by with_reducible assumption)))))).rd Hg1.out HC1.out).mono ?_); rintro e w10 ⟨a10, n10, c10, rfl, ho10, hb10⟩; have B10 := Lib.hid hb10; clear ho10 hb10)
              | ((with_reducible refine (Circle_is (HO2.out.ext (by repeat (first | (with_reducible exact Below.refl _ _) | (refine Below.then ?_ (Hid.out (by with_reducible assumption)))))).rd Hg2.out HC2.out).mono ?_); rintro e w11 ⟨a11, n11, c11, rfl, ho11, hb11⟩; have B11 := Lib.hid hb11; clear ho11 hb11))
          | (go_at_call 14; (with_reducible refine (sane_any _).mono ?_); rintro e w14 ⟨rfl, hb14⟩; have B14 := Lib.hid hb14; clear hb14))
            go_ret
            exact ⟨rfl, (by repeat (first | (with_reducible exact Below.refl _ _) | (refine Below.then ?_ (Hid.out (by with_reducible assumption)))))⟩
    · have hxb : (x != 0) = true := by simpa using hx
      clear hA hg hgl
      go_enter Try.func9, Try.ntmps9
      go_wp2_with (first
        | (go_at_call 13; refine (HL.out).mono ?_; rintro e w1 ⟨rfl, rfl⟩)
        | (go_at_call 15; (with_reducible refine (to_sm HR.out Hg.out hn HH.out).mono ?_); rintro e w1 ⟨a1, c1, g1, rfl, ho1, hg1, hs1, hb1⟩; have HO1 := Lib.hid ho1; have Hg1 := Lib.hid hg1; have HS1 := Lib.hid hs1; have B1 := Lib.hid hb1; clear ho1 hg1 hb1 hs1)
        | (go_at_call 33; (with_reducible refine (Let_is HO1.out.rd Hg1.out HS1.out HA.out).mono ?_); rintro e w2 ⟨a2, n2, c2, g2, rfl, ho2, hg2, hb2⟩; have HO2 := Lib.hid ho2; have Hg2 := Lib.hid hg2; have HS2 := Lib.hid (let_small HA.out ho2.rd hg2); have B2 := Lib.hid hb2; clear ho2 hg2 hb2)
        | (go_at_call 38; (with_reducible refine (rLet_is (HR.out.ext (by repeat (first | (with_reducible exact Below.refl _ _) | (refine Below.then ?_ (Hid.out (by with_reducible assumption)))))) Hg.out HH.out HA.out).mono ?_); rintro e w3 ⟨a3, n3, c3, g3, rfl, ho3, hg3, hb3⟩; have HO3 := Lib.hid ho3; have Hg3 := Lib.hid hg3; have B3 := Lib.hid hb3; clear ho3 hg3 hb3)
        | (go_at_call 26; first
            | ((with_reducible refine (from_is (HO2.out.ext (by repeat (first | (with_reducible exact Below.refl _ _) | (refine Below.then ?_ (Hid.out (by with_reducible assumption)))))).rd Hg2.out HS2.out).mono ?_); rintro e w4 ⟨a4, n4, c4, g4, rfl, ho4, hg4, hb4⟩; have HO4 := Lib.hid ho4; have Hg4 := Lib.hid hg4; have B4 := Lib.hid hb4; clear ho4 hg4 hb4)
            | ((with_reducible refine (from_is (HO1.out.ext (by repeat (first | (with_reducible exact Below.refl _ _) | (refine Below.then ?_ (Hid.out (by with_reducible assumption)))))).rd Hg1.out ⟨hn', HS1.out⟩).mono ?_); rintro e w6 ⟨a6, n6, c6, g6, rfl, ho6, hg6, hb6⟩; have HO6 := Lib.hid ho6; have Hg6 := Lib.hid hg6; have B6 := Lib.hid hb6; clear ho6 hg6 hb6))
        | (go_at_call 25; first
            | ((with_reducible refine (same_is HO4.out.rd (HO3.out.ext (by repeat (first | (with_reducible exact Below.refl _ _) | (refine Below.then ?_ (Hid.out (by with_reducible assumption)))))).rd Hg4.out Hg3.out).mono ?_); rintro e w5 ⟨rfl, hb5⟩; have B5 := Lib.hid hb5; clear hb5)
            | ((with_reducible refine (same_is HO6.out.rd (HR.out.ext (by repeat (first | (with_reducible exact Below.refl _ _) | (refine Below.then ?_ (Hid.out (by with_reducible assumption)))))) Hg6.out Hg.out).mono ?_); rintro e w7 ⟨rfl, hb7⟩; have B7 := Lib.hid hb7; clear hb7))
        | (go_at_call 27; (with_reducible refine (EffV_is (HO1.out.ext (by repeat (first | (with_reducible exact Below.refl _ _) | (refine Below.then ?_ (Hid.out (by with_reducible assumption)))))).rd Hg1.out HVG.out HGL.out).mono ?_); rintro e w8 ⟨a8, c8, rfl, ho8, hb8⟩; have HE1 := Lib.hid ho8; have B8 := Lib.hid hb8; clear ho8 hb8)
        | (go_at_call 22; (with_reducible refine (Valid_is (HO2.out.ext (by repeat (first | (with_reducible exact Below.refl _ _) | (refine Below.then ?_ (Hid.out (by with_reducible assumption)))))).rd Hg2.out HVA.out).mono ?_); rintro e w9 ⟨rfl, hb9⟩; have B9 := Lib.hid hb9; clear hb9)
        | (go_at_call 14; (with_reducible refine (sane_any _).mono ?_); rintro e w14 ⟨rfl, hb14⟩; have B14 := Lib.hid hb14; clear hb14))
      go_ret
      exact ⟨rfl, (by repeat (first | (with_reducible exact Below.refl _ _) | (refine Below.then ?_ (Hid.out (by with_reducible assumption)))))⟩
  · rw [hl] at HL
    clear hG hT hl
    go_enter Try.func9, Try.ntmps9
    go_wp2_with (first | (go_at_call 13; refine (HL.out).mono ?_; rintro e w1 ⟨rfl, rfl⟩) | (go_at_call 14; refine (sane_any _).mono ?_; rintro e w1 ⟨rfl, hb1⟩; obtain ⟨hc1, hf1, hz1, hr1⟩ := bfacts hb1; (try simp only [World.size_alloc, World.size_setCell, World.size_drew, World.size_drewN] at hz1 hr1); (try have hw0 : w.heap.size < w1.heap.size := by omega); (try have hw1 : w.heap.size + 1 < w1.heap.size := by omega); (try have hw2 : w.heap.size + 1 + 1 < w1.heap.size := by omega)))
    go_ret
    exact ⟨rfl, by (repeat' (first | (with_reducible exact Below.refl _ _) | (with_reducible assumption) | (with_reducible refine Below.alloc ?_ ?_ _) | (with_reducible refine Below.drew ?_) | (with_reducible refine Below.draws ?_ _) | (with_reducible refine Below.setCell ?_ ?_ _) | (refine Below.then ?_ (by with_reducible assumption)) | go_size))⟩
end Go.Proofs.Ytmdjbnicjohkjaa
