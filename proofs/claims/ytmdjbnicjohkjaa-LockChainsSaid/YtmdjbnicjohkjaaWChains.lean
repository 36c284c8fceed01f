/- The walk of LockChains: it returns true. The conditions: the graph reads as named; its lists are no longer than memory bears. -/
import Derived.Test.YtmdjbnicjohkjaaLkIs
namespace Go.Proofs.Ytmdjbnicjohkjaa
open Go.RowKit
set_option linter.unusedSimpArgs false
set_option linter.unusedVariables false
set_option maxRecDepth 10000 in
set_option maxHeartbeats 2000000 in
theorem lockChains_walk {w : World} (a : Option Addr) (n c : Nat) (g : List ThV) (hG : RdG w a n g) (hT : ∀ t ∈ g, t.n ≤ 281474976710656) (thread : Int) (b1 : -9223372036854775808 ≤ thread ∧ thread ≤ 9223372036854775807) (l : Int) (b2 : -9223372036854775808 ≤ l ∧ l ≤ 9223372036854775807) :
    Calls Try.prog 3 #[.slice a n c, .int .i64 thread, .int .i64 l] w fun e w' => e = .returned (.bool true) ∧ Below w.heap.size w w' := by
  have HL := Lib.hid (large_any a n c g w hG hT)
  have HR := Lib.hid hG
  clear b1 b2
  cases hl : largeG n g
  · rw [hl] at HL
    obtain ⟨hn, hH⟩ := large_no g n (by simpa [largeG] using hl)
    have HTO := Lib.hid (to_any a n c g (by omega) (fun t ht => by have := hH t ht; omega) w hG)
    have HH : Hid (∀ t ∈ g, t.n ≤ 1000) := Lib.hid (fun t ht => by have := hH t ht; omega)
    clear hG hT hl hH
    obtain ⟨G, hg⟩ : ∃ G, g.map ThV.th = G := ⟨_, rfl⟩
    obtain ⟨CR, h1⟩ : ∃ R, chainR G thread = R := ⟨_, rfl⟩
    obtain ⟨KR, h2⟩ : ∃ R, circleR G = R := ⟨_, rfl⟩
    obtain ⟨OR, h3⟩ : ∃ R, ownerR G l = R := ⟨_, rfl⟩
    obtain ⟨V, h4⟩ : ∃ R, validG G = R := ⟨_, rfl⟩
    rw [hg] at HTO
    have Hg := Lib.hid hg; have H1 := Lib.hid h1; have H2 := Lib.hid h2; have H3 := Lib.hid h3; have H4 := Lib.hid h4
    clear hg h1 h2 h3 h4
    go_enter Try.func3, Try.ntmps3
    go_wp2_with (first
      | (go_at_call 13; refine (HL.out).mono ?_; rintro e w1 ⟨rfl, rfl⟩)
      | (go_at_call 15; (with_reducible refine HTO.out.mono ?_); rintro e w1 ⟨a1, n1, c1, g1, rfl, ho1, hg1, hb1⟩; have HO1 := Lib.hid ho1; have Hg1 := Lib.hid hg1; have W1 := Lib.hid hb1; clear ho1 hg1 hb1)
      | (go_at_call 16; (with_reducible refine (Chain_is HO1.out.rd Hg1.out H1.out).mono ?_); rintro e w2 ⟨a2, n2, c2, rfl, ho2, hb2⟩; have R2 := Lib.hid (ownsI_rd ho2); have B2 := Lib.hid hb2; have W2 := Lib.hid (Below.then W1.out hb2); have V2 := Lib.hid hb2; clear ho2 hb2)
      | (go_at_call 17; (with_reducible refine (rChain_is (HR.out.ext W2.out) Hg.out H1.out).mono ?_); rintro e w3 ⟨a3, n3, c3, rfl, ho3, hb3⟩; have R3 := Lib.hid (ownsI_rd ho3); have B3 := Lib.hid hb3; have W3 := Lib.hid (Below.then W2.out hb3); have V3 := Lib.hid (Below.then V2.out hb3); clear ho3 hb3)
      | (go_at_call 18; (with_reducible refine (Circle_is (HO1.out.ext V3.out).rd Hg1.out H2.out).mono ?_); rintro e w4 ⟨a4, n4, c4, rfl, ho4, hb4⟩; have R4 := Lib.hid (ownsI_rd ho4); have B4 := Lib.hid hb4; have W4 := Lib.hid (Below.then W3.out hb4); have V4 := Lib.hid (Below.then V3.out hb4); clear ho4 hb4)
      | (go_at_call 19; (with_reducible refine (rCircle_is (HR.out.ext W4.out) Hg.out H2.out).mono ?_); rintro e w5 ⟨a5, n5, c5, rfl, ho5, hb5⟩; have R5 := Lib.hid (ownsI_rd ho5); have B5 := Lib.hid hb5; have W5 := Lib.hid (Below.then W4.out hb5); have V5 := Lib.hid (Below.then V4.out hb5); clear ho5 hb5)
      | (go_at_call 20; (with_reducible refine (Owner_is (HO1.out.ext V5.out).rd Hg1.out H3.out).mono ?_); rintro e w6 ⟨rfl, hb6⟩; have B6 := Lib.hid hb6; have W6 := Lib.hid (Below.then W5.out hb6); have V6 := Lib.hid (Below.then V5.out hb6); clear hb6)
      | (go_at_call 21; (with_reducible refine (rOwner_is (HR.out.ext W6.out) Hg.out H3.out).mono ?_); rintro e w7 ⟨rfl, hb7⟩; have B7 := Lib.hid hb7; have W7 := Lib.hid (Below.then W6.out hb7); have V7 := Lib.hid (Below.then V6.out hb7); clear hb7)
      | (go_at_call 22; (with_reducible refine (Valid_is (HO1.out.ext V7.out).rd Hg1.out H4.out).mono ?_); rintro e w8 ⟨rfl, hb8⟩; have B8 := Lib.hid hb8; have W8 := Lib.hid (Below.then W7.out hb8); have V8 := Lib.hid (Below.then V7.out hb8); clear hb8)
      | (go_at_call 23; (with_reducible refine (rValid_is (HR.out.ext W8.out) Hg.out H4.out).mono ?_); rintro e w9 ⟨rfl, hb9⟩; have B9 := Lib.hid hb9; have W9 := Lib.hid (Below.then W8.out hb9); have V9 := Lib.hid (Below.then V8.out hb9); (have T4 : Hid (Below w4.heap.size w4 w9) := Lib.hid (Below.then (Below.then (Below.then (Below.then B5.out B6.out) B7.out) B8.out) hb9)); have T5 : Hid (Below w5.heap.size w5 w9) := Lib.hid (Below.then (Below.then (Below.then B6.out B7.out) B8.out) hb9); clear hb9)
      | (go_at_call 24; (with_reducible refine (ints_eq _ _ _ _ _ _ CR.1 _ (R2.out.ext (Below.then (Below.then B3.out B4.out) T4.out)) (R3.out.ext (Below.then B4.out T4.out))).mono ?_); rintro e w10 ⟨rfl, hb10⟩; have B10 := Lib.hid hb10; have W10 := Lib.hid (Below.then W9.out hb10); have V10 := Lib.hid (Below.then V9.out hb10); clear hb10)
      | (go_at_call 24; (with_reducible refine (ints_eq _ _ _ _ _ _ KR.1 _ (R4.out.ext (Below.then T4.out B10.out)) (R5.out.ext (Below.then T5.out B10.out))).mono ?_); rintro e w11 ⟨rfl, hb11⟩; have W11 := Lib.hid (Below.then W10.out hb11); have V11 := Lib.hid (Below.then V10.out hb11); clear hb11)
      | (go_at_call 26; (with_reducible refine (from_any _ _ _ g1 (by have := (small_of HR.out HO1.out.rd (Hg1.out.trans Hg.out.symm) HH.out).1; omega) (small_of HR.out HO1.out.rd (Hg1.out.trans Hg.out.symm) HH.out).2 _ (HO1.out.ext V11.out).rd).mono ?_); rintro e w12 ⟨a12, n12, c12, g12, rfl, ho12, hg12, hb12⟩; have HO12 := Lib.hid ho12; have Hg12 := Lib.hid hg12; have W12 := Lib.hid (Below.then W11.out hb12); clear ho12 hg12 hb12)
      | (go_at_call 25; (with_reducible refine (same_eq _ _ _ _ _ _ g12 g (Hg12.out.trans (Hg1.out.trans Hg.out.symm)) _ HO12.out.rd (HR.out.ext W12.out)).mono ?_); rintro e w13 ⟨rfl, hb13⟩; have W13 := Lib.hid (Below.then W12.out hb13); clear hb13)
      | (go_at_call 14; (with_reducible refine (sane_any _).mono ?_); rintro e w14 ⟨rfl, hb14⟩; have W14 := Lib.hid (Below.then W13.out hb14); clear hb14))
    go_ret
    exact ⟨ret_bool (by simp), W14.out⟩
  · rw [hl] at HL
    clear hG hT hl
    go_enter Try.func3, Try.ntmps3
    go_wp2_with (first | (go_at_call 13; refine (HL.out).mono ?_; rintro e w1 ⟨rfl, rfl⟩) | (go_at_call 14; refine (sane_any _).mono ?_; rintro e w1 ⟨rfl, hb1⟩; obtain ⟨hc1, hf1, hz1, hr1⟩ := bfacts hb1; (try simp only [World.size_alloc, World.size_setCell, World.size_drew, World.size_drewN] at hz1 hr1); (try have hw0 : w.heap.size < w1.heap.size := by omega); (try have hw1 : w.heap.size + 1 < w1.heap.size := by omega); (try have hw2 : w.heap.size + 1 + 1 < w1.heap.size := by omega)))
    go_ret
    exact ⟨rfl, by (repeat' (first | (with_reducible exact Below.refl _ _) | (with_reducible assumption) | (with_reducible refine Below.alloc ?_ ?_ _) | (with_reducible refine Below.drew ?_) | (with_reducible refine Below.draws ?_ _) | (with_reducible refine Below.setCell ?_ ?_ _) | (refine Below.then ?_ (by with_reducible assumption)) | go_size))⟩
end Go.Proofs.Ytmdjbnicjohkjaa
