/- The walk of LockAsks: it returns true. The conditions: the graph reads as named; its lists are no longer than memory bears. -/
import Derived.Test.YtmdjbnicjohkjaaLkRask
import Derived.Test.YtmdjbnicjohkjaaLkIs
namespace Go.Proofs.Ytmdjbnicjohkjaa
open Go.RowKit
set_option linter.unusedSimpArgs false
set_option linter.unusedVariables false
section
variable {a : Option Addr} {n c : Nat} {g : List ThV} {w : World} {G A : List Th} {t l x : Int} {b : Bool}
def OutTo (T n : Nat) (w : World) (G : List Th) (e : Ending) (w' : World) : Prop :=
  ∃ a c g', e = .returned (.slice a n c) ∧ OwnG T w.heap.size w' a n c g' ∧ g'.map ThV.th = G ∧ (∀ t ∈ g', t.n ≤ 1000) ∧ Below w.heap.size w w'
theorem to_sm (hG : RdG w a n g) (hg : g.map ThV.th = G) (hn : n < 400) (hH : ∀ t ∈ g, t.n ≤ 1000) : Calls Try.prog 15 #[.slice a n c] w (OutTo 52 n w G) := by
  subst hg
  refine (to_any a n c g (by omega) hH w hG).mono ?_
  rintro e w' ⟨a', n', c', g', rfl, ho, hg', hb⟩
  obtain ⟨rfl, hs⟩ := small_of hG ho.rd hg' hH
  exact ⟨_, _, _, rfl, ho, hg', hs, hb⟩
theorem from_is (hG : RdG w a n g) (hg : g.map ThV.th = G) (hs : n ≤ 1000 ∧ ∀ t ∈ g, t.n ≤ 1000) : Calls Try.prog 26 #[.slice a n c] w (OutG 45 w.heap.size w G) := by
  subst hg; exact from_any a n c g hs.1 hs.2 w hG
theorem same_is {a' : Option Addr} {n' c' : Nat} {h : List ThV} (hA : RdG w a n g) (hB : RdG w a' n' h) (hg : g.map ThV.th = G) (hh : h.map ThV.th = G) : Calls Try.prog 25 #[.slice a n c, .slice a' n' c'] w fun e w' => e = .returned (.bool true) ∧ Below w.heap.size w w' :=
  same_eq a a' n n' c c' g h (by rw [hg, hh]) w hA hB
theorem Ask_is (hG : RdG w a n g) (hg : g.map ThV.th = G) (hH : ∀ t ∈ g, t.n ≤ 1000) (h : askR G t l = (A, b, x)) : Calls Try.prog 31 #[.slice a n c, .int .i64 t, .int .i64 l] w (OutA 52 w.heap.size w A b x) := by
  have := Ask_any a n c g G t l w hG hg hH
  rw [h] at this; exact this
theorem rAsk_is (hG : RdG w a n g) (hg : g.map ThV.th = G) (hH : ∀ t ∈ g, t.n ≤ 1000) (h : askR G t l = (A, b, x)) : Calls Try.prog 32 #[.slice a n c, .int .i64 t, .int .i64 l] w (OutA 45 w.heap.size w A b x) := by
  have := rAsk_any a n c g G t l w hG hg hH
  rw [ask_eq, h] at this; exact this
theorem valid_small (hv : validG G = true) (hG : RdG w a n g) (hg : g.map ThV.th = G) : n ≤ 1000 ∧ ∀ t ∈ g, t.n ≤ 1000 := by
  have h8 := validG_len hv
  have hl := hG.length
  refine ⟨by rw [← hg] at h8; simp at h8; omega, fun t ht => ?_⟩
  have h1 := asc_len (valid_asc hv (t := t.th) (by rw [← hg]; exact List.mem_map_of_mem ht))
  have h2 := (hG.ok t ht).1.length
  have h3 : t.th.holds = t.holds := rfl
  rw [h3] at h1; omega
theorem askR_bad (h : askR G t l = (A, b, x)) (hx : x ≠ 0) : A = [] := by
  unfold askR at h
  split at h
  · split at h
    · simp at h; exact h.1
    · split at h
      · simp at h; omega
      · split at h
        · simp at h; exact h.1
        · simp at h; omega
  · simp at h; exact h.1
theorem ask_small {w2 : World} {a2 : Option Addr} {n2 : Nat} {g2 : List ThV} (h : askR G t l = (A, b, x)) (h2 : RdG w2 a2 n2 g2) (hg2 : g2.map ThV.th = A) : n2 ≤ 1000 ∧ ∀ t ∈ g2, t.n ≤ 1000 := by
  by_cases hx : x = 0
  · have := ask_keeps (G := G) (t := t) (l := l) (by rw [h]; exact hx)
    rw [h] at this
    exact valid_small this.v h2 hg2
  · have := askR_bad h hx
    subst this
    have hl := h2.length
    obtain rfl : g2 = [] := by simpa using hg2
    exact ⟨by simp at hl; omega, by simp⟩
def OutE (n : Nat) (w : World) (L : List Int) (e : Ending) (w' : World) : Prop :=
  ∃ a c, e = .returned (.tuple #[.slice a n c, .int .i64 0]) ∧ Rd w' a n 1 (L.map enc1) ∧ Below w.heap.size w w'
theorem EffV_is {N : Nat} (hG : RdG w a n g) (hg : g.map ThV.th = G) (hv : validG G = true) (hl : G.length = N) : Calls Try.prog 27 #[.slice a n c] w (OutE N w (effL G)) := by
  subst hg
  have := Effective_any a n c g w hG
  unfold effR at this
  rw [if_pos hv] at this
  refine this.mono ?_
  rintro e w' ⟨a', n', c', rfl, ho, hb⟩
  have h1 := (ownsI_rd ho).length
  rw [effL_len] at h1
  obtain rfl : n' = N := by omega
  exact ⟨_, _, rfl, ownsI_rd ho, hb⟩
theorem circ2 {R : List Int × Int} {y : Int} (h : circleR G = R) (hy : R.2 = y) : circleR G = (R.1, y) := by rw [h, ← hy]
end
set_option maxRecDepth 10000 in
set_option maxHeartbeats 8000000 in
theorem lockAsks_walk {w : World} (a : Option Addr) (n c : Nat) (g : List ThV) (hG : RdG w a n g) (hT : ∀ t ∈ g, t.n ≤ 281474976710656) (t : Int) (_ : -9223372036854775808 ≤ t ∧ t ≤ 9223372036854775807) (l : Int) (_ : -9223372036854775808 ≤ l ∧ l ≤ 9223372036854775807) :
    Calls Try.prog 6 #[.slice a n c, .int .i64 t, .int .i64 l] w fun e w' => e = .returned (.bool true) ∧ Below w.heap.size w w' := by
  have HL := Lib.hid (large_any a n c g w hG hT)
  have HR := Lib.hid hG
  cases hl : largeG n g
  · rw [hl] at HL
    obtain ⟨hn, hH⟩ := large_no g n (by simpa [largeG] using hl)
    have hn' : n ≤ 1000 := by omega
    have HH : Hid (∀ t ∈ g, t.n ≤ 1000) := Lib.hid (fun t ht => by have := hH t ht; omega)
    have hgl : (g.map ThV.th).length = n := by simp [hG.length]
    clear hG hT hl hH
    obtain ⟨G, hg⟩ : ∃ G, g.map ThV.th = G := ⟨_, rfl⟩
    rw [hg] at hgl
    have Hg := Lib.hid hg; have HGL := Lib.hid hgl
    obtain ⟨A, b, x, hA⟩ : ∃ A b x, askR G t l = (A, b, x) := ⟨_, _, _, rfl⟩
    have HA := Lib.hid hA
    by_cases hx : x = 0
    · subst hx
      have hk : AskKeeps G A b := by
        have := ask_keeps (G := G) (t := t) (l := l) (by rw [hA])
        rw [hA] at this; exact this
      have HK : Hid (AskKeeps G A b) := Lib.hid hk
      have HVG := Lib.hid hk.v0; have HVA : Hid (validG A = true) := Lib.hid hk.v
      have HAL : Hid (A.length = n) := Lib.hid (hk.len.trans hgl)
      obtain ⟨y, hy⟩ : ∃ y, (circleR G).2 = y := ⟨_, rfl⟩
      have HC1 : Hid (circleR G = ((circleR G).1, y)) := Lib.hid (circ2 rfl hy)
      have HC2 : Hid (circleR A = ((circleR A).1, y)) := Lib.hid (circ2 rfl (hk.circ.trans hy))
      have HEG : Hid (∀ j, j < n → (effL G)[j]? = some (effV G j)) := Lib.hid (fun j hj => effL_get (validG_pri hk.v0) j (by omega))
      have HEA : Hid (∀ j, j < n → (effL A)[j]? = some (effV A j)) := Lib.hid (fun j hj => effL_get (validG_pri hk.v) j (by have : A.length = n := hk.len.trans hgl; omega))
      clear hA hg hgl hk hy
      cases b
      · go_enter Try.func6, Try.ntmps6
        go_wp2_with (first
          | (go_at_call 13; refine (HL.out).mono ?_; rintro e w1 ⟨rfl, rfl⟩)
          | (go_at_call 15; (with_reducible refine (to_sm HR.out Hg.out hn HH.out).mono ?_); rintro e w1 ⟨a1, c1, g1, rfl, ho1, hg1, hs1, hb1⟩; have HO1 := Lib.hid ho1; have Hg1 := Lib.hid hg1; have HS1 := Lib.hid hs1; have W1 := Lib.hid hb1; clear ho1 hg1 hb1 hs1)
          | (go_at_call 31; (with_reducible refine (Ask_is HO1.out.rd Hg1.out HS1.out HA.out).mono ?_); rintro e w2 ⟨a2, n2, c2, g2, rfl, ho2, hg2, hb2⟩; have HO2 := Lib.hid ho2; have Hg2 := Lib.hid hg2; have HS2 := Lib.hid (ask_small HA.out ho2.rd hg2); have W2 := Lib.hid (Below.then W1.out hb2); have V2 := Lib.hid hb2; clear ho2 hg2 hb2)
          | (go_at_call 32; (with_reducible refine (rAsk_is (HR.out.ext W2.out) Hg.out HH.out HA.out).mono ?_); rintro e w3 ⟨a3, n3, c3, g3, rfl, ho3, hg3, hb3⟩; have HO3 := Lib.hid ho3; have Hg3 := Lib.hid hg3; have W3 := Lib.hid (Below.then W2.out hb3); have V3 := Lib.hid (Below.then V2.out hb3); have U3 := Lib.hid hb3; clear ho3 hg3 hb3)
          | (go_at_call 26; first
              | ((with_reducible refine (from_is (HO2.out.ext U3.out).rd Hg2.out HS2.out).mono ?_); rintro e w4 ⟨a4, n4, c4, g4, rfl, ho4, hg4, hb4⟩; have HO4 := Lib.hid ho4; have Hg4 := Lib.hid hg4; have W4 := Lib.hid (Below.then W3.out hb4); have V4 := Lib.hid (Below.then V3.out hb4); have U4 := Lib.hid (Below.then U3.out hb4); have T4 := Lib.hid hb4; clear ho4 hg4 hb4)
              | ((with_reducible refine (from_is (HO1.out.ext V5.out).rd Hg1.out ⟨hn', HS1.out⟩).mono ?_); rintro e w6 ⟨a6, n6, c6, g6, rfl, ho6, hg6, hb6⟩; have HO6 := Lib.hid ho6; have Hg6 := Lib.hid hg6; have W6 := Lib.hid (Below.then W5.out hb6); have V6 := Lib.hid (Below.then V5.out hb6); have U6 := Lib.hid (Below.then U5.out hb6); clear ho6 hg6 hb6))
          | (go_at_call 25; first
              | ((with_reducible refine (same_is HO4.out.rd (HO3.out.ext T4.out).rd Hg4.out Hg3.out).mono ?_); rintro e w5 ⟨rfl, hb5⟩; have W5 := Lib.hid (Below.then W4.out hb5); have V5 := Lib.hid (Below.then V4.out hb5); have U5 := Lib.hid (Below.then U4.out hb5); clear hb5)
              | ((with_reducible refine (same_is HO6.out.rd (HR.out.ext W6.out) Hg6.out Hg.out).mono ?_); rintro e w7 ⟨rfl, hb7⟩; have W7 := Lib.hid (Below.then W6.out hb7); have V7 := Lib.hid (Below.then V6.out hb7); have U7 := Lib.hid (Below.then U6.out hb7); clear hb7))
          | (go_at_call 18; first
              | ((with_reducible refine (Circle_is (HO1.out.ext V7.out).rd Hg1.out HC1.out).mono ?_); rintro e w8 ⟨a8, n8, c8, rfl, ho8, hb8⟩; have W8 := Lib.hid (Below.then W7.out hb8); have V8 := Lib.hid (Below.then V7.out hb8); have U8 := Lib.hid (Below.then U7.out hb8); clear ho8 hb8)
              | ((with_reducible refine (Circle_is (HO2.out.ext U8.out).rd Hg2.out HC2.out).mono ?_); rintro e w9 ⟨a9, n9, c9, rfl, ho9, hb9⟩; have W9 := Lib.hid (Below.then W8.out hb9); have V9 := Lib.hid (Below.then V8.out hb9); have U9 := Lib.hid (Below.then U8.out hb9); clear ho9 hb9))
          | (go_at_call 27; first
              | ((with_reducible refine (EffV_is (HO1.out.ext V9.out).rd Hg1.out HVG.out HGL.out).mono ?_); rintro e w10 ⟨a10, c10, rfl, ho10, hb10⟩; have HE1 := Lib.hid ho10; have W10 := Lib.hid (Below.then W9.out hb10); have U10 := Lib.hid (Below.then U9.out hb10); clear ho10 hb10)
              | ((with_reducible refine (EffV_is (HO2.out.ext U10.out).rd Hg2.out HVA.out HAL.out).mono ?_); rintro e w11 ⟨a11, c11, rfl, ho11, hb11⟩; have HE2 := Lib.hid ho11; have W11 := Lib.hid (Below.then W10.out hb11); have U11 := Lib.hid (Below.then U10.out hb11); have S11 := Lib.hid hb11; clear ho11 hb11))
          | (go_at_call 22; (with_reducible refine (Valid_is (HO2.out.ext U11.out).rd Hg2.out HVA.out).mono ?_); rintro e w12 ⟨rfl, hb12⟩; have W12 := Lib.hid (Below.then W11.out hb12); have S12 := Lib.hid (Below.then S11.out hb12); have R12 := Lib.hid hb12; clear hb12))
        go_loopw [22] (fun i wr => ∃ t : Nat, t ≤ n ∧ i = .int .i64 t ∧ Below w12.heap.size w12 wr) (fun i _ => n - (intOf i).toNat)
        case atStart => exact ⟨0, Nat.zero_le _, rfl, by (repeat' (first | (with_reducible exact Below.refl _ _) | (with_reducible assumption) | (with_reducible refine Below.alloc ?_ ?_ _) | (with_reducible refine Below.drew ?_) | (with_reducible refine Below.draws ?_ _) | (with_reducible refine Below.setCell ?_ ?_ _) | (refine Below.then ?_ (by with_reducible assumption)) | go_size))⟩
        case round =>
          obtain ⟨t, ht, rfl, hB⟩ := hrel
          have HB := Lib.hid hB
          clear hB
          by_cases hlt : t < n
          · obtain ⟨x1, b1, o1, rfl, hb1, hc1, hx1⟩ := (HE1.out.ext (Below.then S12.out HB.out)).idx t hlt
            obtain ⟨x2, b2, o2, rfl, hb2, hc2, hx2⟩ := (HE2.out.ext (Below.then R12.out HB.out)).idx t hlt
            obtain rfl : x1 = effV G t := by rw [HEG.out t hlt] at hx1; simpa using hx1.symm
            obtain rfl : x2 = effV A t := by rw [HEA.out t hlt] at hx2; simpa using hx2.symm
            have hle : decide (effV A t < effV G t) = false := decide_eq_false (by have := HK.out.up t; omega)
            obtain ⟨E1, hE1⟩ : ∃ E, effV G t = E := ⟨_, rfl⟩
            obtain ⟨E2, hE2⟩ : ∃ E, effV A t = E := ⟨_, rfl⟩
            rw [hE1] at hc1 hle
            rw [hE2] at hc2 hle
            clear hE1 hE2
            clear hx1 hx2
            go_wp2_with (refine wp_region_later_lit (by kernel_rfl) (by kernel_rfl) ?_; (repeat (go_big_quiet_step (fail))); refine wpQuiet_nil ?_; intro w1 hb1; obtain ⟨hc1, hf1, hz1, hr1⟩ := bfacts hb1; (try simp only [World.size_alloc, World.size_setCell, World.size_drew, World.size_drewN] at hz1 hr1); (try have hw0 : w.heap.size < w1.heap.size := by omega); (try have hw1 : w.heap.size + 1 < w1.heap.size := by omega); (try have hw2 : w.heap.size + 1 + 1 < w1.heap.size := by omega))
            go_roundw
            case rel => exact ⟨t + 1, by omega, by go_num, Below.then HB.out (by assumption)⟩
            case measure => simp [intOf]; omega
          · go_wp2_with (go_at_call 14; (with_reducible refine (sane_any _).mono ?_); rintro e w14 ⟨rfl, hb14⟩)
            go_ret
            exact ⟨rfl, Below.then (Below.then W12.out HB.out) hb14⟩
      · go_enter Try.func6, Try.ntmps6
        go_wp2_with (first
          | (go_at_call 13; refine (HL.out).mono ?_; rintro e w1 ⟨rfl, rfl⟩)
          | (go_at_call 15; (with_reducible refine (to_sm HR.out Hg.out hn HH.out).mono ?_); rintro e w1 ⟨a1, c1, g1, rfl, ho1, hg1, hs1, hb1⟩; have HO1 := Lib.hid ho1; have Hg1 := Lib.hid hg1; have HS1 := Lib.hid hs1; have W1 := Lib.hid hb1; clear ho1 hg1 hb1 hs1)
          | (go_at_call 31; (with_reducible refine (Ask_is HO1.out.rd Hg1.out HS1.out HA.out).mono ?_); rintro e w2 ⟨a2, n2, c2, g2, rfl, ho2, hg2, hb2⟩; have HO2 := Lib.hid ho2; have Hg2 := Lib.hid hg2; have HS2 := Lib.hid (ask_small HA.out ho2.rd hg2); have W2 := Lib.hid (Below.then W1.out hb2); have V2 := Lib.hid hb2; clear ho2 hg2 hb2)
          | (go_at_call 32; (with_reducible refine (rAsk_is (HR.out.ext W2.out) Hg.out HH.out HA.out).mono ?_); rintro e w3 ⟨a3, n3, c3, g3, rfl, ho3, hg3, hb3⟩; have HO3 := Lib.hid ho3; have Hg3 := Lib.hid hg3; have W3 := Lib.hid (Below.then W2.out hb3); have V3 := Lib.hid (Below.then V2.out hb3); have U3 := Lib.hid hb3; clear ho3 hg3 hb3)
          | (go_at_call 26; first
              | ((with_reducible refine (from_is (HO2.out.ext U3.out).rd Hg2.out HS2.out).mono ?_); rintro e w4 ⟨a4, n4, c4, g4, rfl, ho4, hg4, hb4⟩; have HO4 := Lib.hid ho4; have Hg4 := Lib.hid hg4; have W4 := Lib.hid (Below.then W3.out hb4); have V4 := Lib.hid (Below.then V3.out hb4); have U4 := Lib.hid (Below.then U3.out hb4); have T4 := Lib.hid hb4; clear ho4 hg4 hb4)
              | ((with_reducible refine (from_is (HO1.out.ext V5.out).rd Hg1.out ⟨hn', HS1.out⟩).mono ?_); rintro e w6 ⟨a6, n6, c6, g6, rfl, ho6, hg6, hb6⟩; have HO6 := Lib.hid ho6; have Hg6 := Lib.hid hg6; have W6 := Lib.hid (Below.then W5.out hb6); have V6 := Lib.hid (Below.then V5.out hb6); have U6 := Lib.hid (Below.then U5.out hb6); clear ho6 hg6 hb6))
          | (go_at_call 25; first
              | ((with_reducible refine (same_is HO4.out.rd (HO3.out.ext T4.out).rd Hg4.out Hg3.out).mono ?_); rintro e w5 ⟨rfl, hb5⟩; have W5 := Lib.hid (Below.then W4.out hb5); have V5 := Lib.hid (Below.then V4.out hb5); have U5 := Lib.hid (Below.then U4.out hb5); clear hb5)
              | ((with_reducible refine (same_is HO6.out.rd (HR.out.ext W6.out) Hg6.out Hg.out).mono ?_); rintro e w7 ⟨rfl, hb7⟩; have W7 := Lib.hid (Below.then W6.out hb7); have V7 := Lib.hid (Below.then V6.out hb7); have U7 := Lib.hid (Below.then U6.out hb7); clear hb7))
          | (go_at_call 18; first
              | ((with_reducible refine (Circle_is (HO1.out.ext V7.out).rd Hg1.out HC1.out).mono ?_); rintro e w8 ⟨a8, n8, c8, rfl, ho8, hb8⟩; have W8 := Lib.hid (Below.then W7.out hb8); have V8 := Lib.hid (Below.then V7.out hb8); have U8 := Lib.hid (Below.then U7.out hb8); clear ho8 hb8)
              | ((with_reducible refine (Circle_is (HO2.out.ext U8.out).rd Hg2.out HC2.out).mono ?_); rintro e w9 ⟨a9, n9, c9, rfl, ho9, hb9⟩; have W9 := Lib.hid (Below.then W8.out hb9); have V9 := Lib.hid (Below.then V8.out hb9); have U9 := Lib.hid (Below.then U8.out hb9); clear ho9 hb9))
          | (go_at_call 27; first
              | ((with_reducible refine (EffV_is (HO1.out.ext V9.out).rd Hg1.out HVG.out HGL.out).mono ?_); rintro e w10 ⟨a10, c10, rfl, ho10, hb10⟩; have HE1 := Lib.hid ho10; have W10 := Lib.hid (Below.then W9.out hb10); have U10 := Lib.hid (Below.then U9.out hb10); clear ho10 hb10)
              | ((with_reducible refine (EffV_is (HO2.out.ext U10.out).rd Hg2.out HVA.out HAL.out).mono ?_); rintro e w11 ⟨a11, c11, rfl, ho11, hb11⟩; have HE2 := Lib.hid ho11; have W11 := Lib.hid (Below.then W10.out hb11); have U11 := Lib.hid (Below.then U10.out hb11); have S11 := Lib.hid hb11; clear ho11 hb11))
          | (go_at_call 22; (with_reducible refine (Valid_is (HO2.out.ext U11.out).rd Hg2.out HVA.out).mono ?_); rintro e w12 ⟨rfl, hb12⟩; have W12 := Lib.hid (Below.then W11.out hb12); have S12 := Lib.hid (Below.then S11.out hb12); have R12 := Lib.hid hb12; clear hb12))
        go_loopw [22] (fun i wr => ∃ t : Nat, t ≤ n ∧ i = .int .i64 t ∧ Below w12.heap.size w12 wr) (fun i _ => n - (intOf i).toNat)
        case atStart => exact ⟨0, Nat.zero_le _, rfl, by (repeat' (first | (with_reducible exact Below.refl _ _) | (with_reducible assumption) | (with_reducible refine Below.alloc ?_ ?_ _) | (with_reducible refine Below.drew ?_) | (with_reducible refine Below.draws ?_ _) | (with_reducible refine Below.setCell ?_ ?_ _) | (refine Below.then ?_ (by with_reducible assumption)) | go_size))⟩
        case round =>
          obtain ⟨t, ht, rfl, hB⟩ := hrel
          have HB := Lib.hid hB
          clear hB
          by_cases hlt : t < n
          · obtain ⟨x1, b1, o1, rfl, hb1, hc1, hx1⟩ := (HE1.out.ext (Below.then S12.out HB.out)).idx t hlt
            obtain ⟨x2, b2, o2, rfl, hb2, hc2, hx2⟩ := (HE2.out.ext (Below.then R12.out HB.out)).idx t hlt
            obtain rfl : x1 = effV G t := by rw [HEG.out t hlt] at hx1; simpa using hx1.symm
            obtain rfl : x2 = effV A t := by rw [HEA.out t hlt] at hx2; simpa using hx2.symm
            have heq : effV A t = effV G t := HK.out.eq rfl t
            rw [heq] at hc2
            obtain ⟨E1, hE1⟩ : ∃ E, effV G t = E := ⟨_, rfl⟩
            rw [hE1] at hc1 hc2
            clear hE1 heq
            clear hx1 hx2
            go_wp2_with (refine wp_region_later_lit (by kernel_rfl) (by kernel_rfl) ?_; (repeat (go_big_quiet_step (fail))); refine wpQuiet_nil ?_; intro w1 hb1; obtain ⟨hc1, hf1, hz1, hr1⟩ := bfacts hb1; (try simp only [World.size_alloc, World.size_setCell, World.size_drew, World.size_drewN] at hz1 hr1); (try have hw0 : w.heap.size < w1.heap.size := by omega); (try have hw1 : w.heap.size + 1 < w1.heap.size := by omega); (try have hw2 : w.heap.size + 1 + 1 < w1.heap.size := by omega))
            go_roundw
            case rel => exact ⟨t + 1, by omega, by go_num, Below.then HB.out (by assumption)⟩
            case measure => simp [intOf]; omega
          · go_wp2_with (go_at_call 14; (with_reducible refine (sane_any _).mono ?_); rintro e w14 ⟨rfl, hb14⟩)
            go_ret
            exact ⟨rfl, Below.then (Below.then W12.out HB.out) hb14⟩
    · have hxb : (x != 0) = true := by simpa using hx
      clear hA hg hgl
      cases b
      all_goals
        go_enter Try.func6, Try.ntmps6
        go_wp2_with (first
          | (go_at_call 13; refine (HL.out).mono ?_; rintro e w1 ⟨rfl, rfl⟩)
          | (go_at_call 15; (with_reducible refine (to_sm HR.out Hg.out hn HH.out).mono ?_); rintro e w1 ⟨a1, c1, g1, rfl, ho1, hg1, hs1, hb1⟩; have HO1 := Lib.hid ho1; have Hg1 := Lib.hid hg1; have HS1 := Lib.hid hs1; have W1 := Lib.hid hb1; clear ho1 hg1 hb1 hs1)
          | (go_at_call 31; (with_reducible refine (Ask_is HO1.out.rd Hg1.out HS1.out HA.out).mono ?_); rintro e w2 ⟨a2, n2, c2, g2, rfl, ho2, hg2, hb2⟩; have HO2 := Lib.hid ho2; have Hg2 := Lib.hid hg2; have HS2 := Lib.hid (ask_small HA.out ho2.rd hg2); have W2 := Lib.hid (Below.then W1.out hb2); have V2 := Lib.hid hb2; clear ho2 hg2 hb2)
          | (go_at_call 32; (with_reducible refine (rAsk_is (HR.out.ext W2.out) Hg.out HH.out HA.out).mono ?_); rintro e w3 ⟨a3, n3, c3, g3, rfl, ho3, hg3, hb3⟩; have HO3 := Lib.hid ho3; have Hg3 := Lib.hid hg3; have W3 := Lib.hid (Below.then W2.out hb3); have V3 := Lib.hid (Below.then V2.out hb3); have U3 := Lib.hid hb3; clear ho3 hg3 hb3)
          | (go_at_call 26; first
              | ((with_reducible refine (from_is (HO2.out.ext U3.out).rd Hg2.out HS2.out).mono ?_); rintro e w4 ⟨a4, n4, c4, g4, rfl, ho4, hg4, hb4⟩; have HO4 := Lib.hid ho4; have Hg4 := Lib.hid hg4; have W4 := Lib.hid (Below.then W3.out hb4); have V4 := Lib.hid (Below.then V3.out hb4); have U4 := Lib.hid (Below.then U3.out hb4); have T4 := Lib.hid hb4; clear ho4 hg4 hb4)
              | ((with_reducible refine (from_is (HO1.out.ext V5.out).rd Hg1.out ⟨hn', HS1.out⟩).mono ?_); rintro e w6 ⟨a6, n6, c6, g6, rfl, ho6, hg6, hb6⟩; have HO6 := Lib.hid ho6; have Hg6 := Lib.hid hg6; have W6 := Lib.hid (Below.then W5.out hb6); have V6 := Lib.hid (Below.then V5.out hb6); have U6 := Lib.hid (Below.then U5.out hb6); clear ho6 hg6 hb6))
          | (go_at_call 25; first
              | ((with_reducible refine (same_is HO4.out.rd (HO3.out.ext T4.out).rd Hg4.out Hg3.out).mono ?_); rintro e w5 ⟨rfl, hb5⟩; have W5 := Lib.hid (Below.then W4.out hb5); have V5 := Lib.hid (Below.then V4.out hb5); have U5 := Lib.hid (Below.then U4.out hb5); clear hb5)
              | ((with_reducible refine (same_is HO6.out.rd (HR.out.ext W6.out) Hg6.out Hg.out).mono ?_); rintro e w7 ⟨rfl, hb7⟩; have W7 := Lib.hid (Below.then W6.out hb7); have V7 := Lib.hid (Below.then V6.out hb7); have U7 := Lib.hid (Below.then U6.out hb7); clear hb7))
          | (go_at_call 14; (with_reducible refine (sane_any _).mono ?_); rintro e w14 ⟨rfl, hb14⟩; have W14 := Lib.hid (Below.then W7.out hb14); clear hb14))
        go_ret
        exact ⟨rfl, W14.out⟩
  · rw [hl] at HL
    clear hG hT hl
    go_enter Try.func6, Try.ntmps6
    go_wp2_with (first | (go_at_call 13; refine (HL.out).mono ?_; rintro e w1 ⟨rfl, rfl⟩) | (go_at_call 14; refine (sane_any _).mono ?_; rintro e w1 ⟨rfl, hb1⟩; obtain ⟨hc1, hf1, hz1, hr1⟩ := bfacts hb1; (try simp only [World.size_alloc, World.size_setCell, World.size_drew, World.size_drewN] at hz1 hr1); (try have hw0 : w.heap.size < w1.heap.size := by omega); (try have hw1 : w.heap.size + 1 < w1.heap.size := by omega); (try have hw2 : w.heap.size + 1 + 1 < w1.heap.size := by omega)))
    go_ret
    exact ⟨rfl, by (repeat' (first | (with_reducible exact Below.refl _ _) | (with_reducible assumption) | (with_reducible refine Below.alloc ?_ ?_ _) | (with_reducible refine Below.drew ?_) | (with_reducible refine Below.draws ?_ _) | (with_reducible refine Below.setCell ?_ ?_ _) | (refine Below.then ?_ (by with_reducible assumption)) | go_size))⟩
end Go.Proofs.Ytmdjbnicjohkjaa
