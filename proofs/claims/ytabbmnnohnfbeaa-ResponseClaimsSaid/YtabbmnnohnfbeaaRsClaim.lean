/- The contracts of Claim of response and of its reference. The conditions: the tasks and the windows read as named. -/
import Derived.Test.YtabbmnnohnfbeaaRsTop
namespace Go.Proofs.Ytabbmnnohnfbeaa
open Go.RowKit
set_option linter.unusedSimpArgs false
set_option linter.unusedVariables false
def claim1 (L : List Ta) (F S : Int) (k : Nat) (x : Int) : Bool := decide (1 ≤ x) && decide (x ≤ 2000) && decide ((taAt L k).jit + x ≤ (taAt L k).dl) && decide (demN L k x ≤ leastN F S x)
def claimB (L : List Ta) (F S : Int) : Nat → List Int → Bool
  | _, [] => true
  | k, x :: xs => claim1 L F S k x && claimB L F S (k + 1) xs
def claimC (L : List Ta) (F S : Int) (xs : List Int) : Bool := okB L F S && (decide (xs.length = L.length) && xs.all (fun x => inB x 0 1000000))
def claimR (L : List Ta) (F S : Int) (xs : List Int) : Bool × Int := if claimC L F S xs then (claimB L F S 0 xs, 0) else (false, 1)
theorem clf_any (x : Int) (w : World) : Calls Try.prog 78 #[.int .i64 x] w fun e w' => e = .returned (.bool (!inB x 0 1000000)) ∧ Below w.heap.size w w' := by
  by_cases h0 : x < 0
  · rw [show inB x 0 1000000 = false by rw [← Bool.not_eq_true, inB_iff]; omega]
    go_enter Try.func78, Try.ntmps78
    go_wp2
    go_ret
    exact ⟨rfl, Below.refl _ _⟩
  · have h0' : decide (x < 0) = false := by simpa using h0
    by_cases h1 : 1000000 < x
    · rw [show inB x 0 1000000 = false by rw [← Bool.not_eq_true, inB_iff]; omega]
      go_enter Try.func78, Try.ntmps78
      go_wp2
      go_ret
      exact ⟨rfl, Below.refl _ _⟩
    · have h1' : decide (1000000 < x) = false := by simpa using h1
      rw [show inB x 0 1000000 = true from inB_iff.2 (by omega)]
      go_enter Try.func78, Try.ntmps78
      go_wp2
      go_ret
      exact ⟨rfl, Below.refl _ _⟩
abbrev valI (x : Int) : Value := .int .i64 x
theorem Rd.nextI {w : World} {a : Option Addr} {n : Nat} {xs : List Int} (h : Rd w a n 1 (xs.map enc1)) (k : Nat) (hk : k < n) : ∃ (x : Int) (b off : Nat), a = some ⟨b, off, none⟩ ∧ b < w.heap.size ∧ w.cell? ⟨b, off + k, none⟩ = some (.int .i64 x) ∧ xs[k]? = some x ∧ Hid (xs.drop k = x :: xs.drop (k + 1)) := by
  obtain ⟨x, b, off, h1, h2, h3, h4⟩ := h.idx k hk
  obtain ⟨h5, h6⟩ := List.getElem?_eq_some_iff.1 h4
  exact ⟨x, b, off, h1, h2, h3, h4, by rw [List.drop_eq_getElem_cons h5, h6]; exact rfl⟩
theorem claim_con (a : Option Addr) (n c : Nat) (xs : List Int) (w : World) (hR : Rd w a n 1 (xs.map enc1)) :
    Calls Try.prog 77 #[.slice a n c, .func (.func 78) #[] #[]] w fun e w' => e = .returned (.bool (!(xs.all (fun x => inB x 0 1000000)))) ∧ Below w.heap.size w w' := by
  have hs := hR.small
  have HL := Lib.hid hR.length
  have HR := Lib.hid hR
  obtain ⟨R, hRR⟩ : ∃ R, xs.all (fun x => inB x 0 1000000) = R := ⟨_, rfl⟩
  have HA : Hid ((xs.drop 0).all (fun x => inB x 0 1000000) = R) := Lib.hid hRR
  rw [hRR]
  clear hR hRR
  have HI : Hid (Calls Try.prog 93 #[.slice a n c, .func (.func 78) #[] #[]] w fun e w' => ∃ k : Int, e = .returned (.int .i64 k) ∧ decide (0 ≤ k) = !R ∧ Below w.heap.size w w') := by
    refine Lib.hid ?_
    go_enter Try.func93, Try.ntmps93
    go_wp2
    go_loopw [8] (fun i wr => ∃ k : Nat, k ≤ n ∧ i = .int .i64 k ∧ (xs.drop k).all (fun x => inB x 0 1000000) = R ∧ Below w.heap.size w wr) (fun i _ => n - (intOf i).toNat)
    case atStart => exact ⟨0, Nat.zero_le _, rfl, HA.out, Below.refl _ _⟩
    case round =>
      clear HA
      obtain ⟨k, hk, rfl, he, hB⟩ := hrel
      have HE := Lib.hid he; have HB := Lib.hid hB
      clear he hB
      by_cases hlt : k < n
      · obtain ⟨x, b, off, rfl, hb, hc, hx, HD⟩ := (HR.out.ext HB.out).nextI k hlt
        have hE := HE.out
        rw [HD.out, List.all_cons] at hE
        have hcall := clf_any x
        obtain ⟨m, hm⟩ : ∃ m, inB x 0 1000000 = m := ⟨_, rfl⟩
        rw [hm] at hE hcall
        have HCL := Lib.hid hcall
        clear hm hx HD hcall
        cases m
        · obtain rfl : R = false := by rw [← hE]; rfl
          go_wp2_with (go_at_call 78; (with_reducible refine (HCL.out _).mono ?_); rintro e w1 ⟨rfl, hb1⟩; have B1 := Lib.hid hb1; clear hb1)
          go_ret
          exact ⟨_, rfl, by simp, (by repeat (first | (with_reducible exact Below.refl _ _) | (refine Below.then ?_ (Hid.out (by with_reducible assumption)))))⟩
        · have HE2 : Hid ((xs.drop (k + 1)).all (fun x => inB x 0 1000000) = R) := Lib.hid (by simpa using hE)
          clear hE
          go_wp2_with (go_at_call 78; (with_reducible refine (HCL.out _).mono ?_); rintro e w1 ⟨rfl, hb1⟩; have B1 := Lib.hid hb1; clear hb1)
          go_roundw
          case rel => exact ⟨k + 1, by omega, by go_num, HE2.out, (by repeat (first | (with_reducible exact Below.refl _ _) | (refine Below.then ?_ (Hid.out (by with_reducible assumption)))))⟩
          case measure => simp [intOf]; omega
      · have hE := HE.out
        rw [drop_end HL.out (by omega), List.all_nil] at hE
        subst hE
        go_wp2
        go_ret
        exact ⟨_, rfl, by decide, HB.out⟩
  go_enter Try.func77, Try.ntmps77
  go_wp2_with (go_at_call 93; (with_reducible refine (HI.out).mono ?_); rintro e w1 ⟨k, rfl, hk, hb1⟩; have B1 := Lib.hid hb1; have HK := Lib.hid hk; clear hb1 hk)
  go_ret
  exact ⟨ret_bool HK.out, B1.out⟩
theorem claim_is {a : Option Addr} {n c : Nat} {xs : List Int} {b : Bool} {w : World} (hR : Rd w a n 1 (xs.map enc1)) (h : xs.all (fun x => inB x 0 1000000) = b) :
    Calls Try.prog 77 #[.slice a n c, .func (.func 78) #[] #[]] w fun e w' => e = .returned (.bool (!b)) ∧ Below w.heap.size w w' := by subst h; exact claim_con a n c xs w hR
theorem claimB_cons {L : List Ta} {F S x : Int} {k : Nat} {xs : List Int} : claimB L F S k (x :: xs) = (claim1 L F S k x && claimB L F S (k + 1) xs) := rfl
set_option maxRecDepth 10000 in
set_option maxHeartbeats 4000000 in
theorem Claim_any (a : Option Addr) (n c : Nat) (L : List Ta) (F S : Int) (a2 : Option Addr) (m c2 : Nat) (xs : List Int) (w : World) (hL : RdL w a n L) (hX : Rd w a2 m 1 (xs.map enc1)) :
    Calls Try.prog 36 #[.slice a n c, .agg #[.int .i64 F, .int .i64 S], .slice a2 m c2] w fun e w' => e = rBI (claimR L F S xs).1 (claimR L F S xs).2 ∧ Below w.heap.size w w' := by
  have hll := hL.length
  have hxl := hX.length
  have hsm := hL.small
  have hsx := hX.small
  have HR := Lib.hid hL
  have HX := Lib.hid hX
  unfold claimR claimC
  rw [hll, hxl]
  cases ho : okB L F S
  · have HO := Lib.hid ho
    rw [Bool.false_and]
    clear hL hX hll hxl ho
    go_enter Try.func36, Try.ntmps36
    go_wp2_with (go_at_call 52; (with_reducible refine (right25_is (HR.out.ext (Below.alloc (Below.refl _ _) (Nat.le_refl _) _)) HO.out).mono ?_); rintro e w1 ⟨rfl, hb1⟩; have B1 := Lib.hid (Below.then (Below.alloc (Below.refl _ _) (Nat.le_refl _) _) hb1); have c0 := (hb1.cell (p := ⟨w.heap.size, 0, none⟩) (by simp)).trans (show _ = some (.int .i64 F) by simp [go_sem]); have c1 := (hb1.cell (p := ⟨w.heap.size, 1, none⟩) (by simp)).trans (show _ = some (.int .i64 S) by simp [go_sem]); have hz1 := hb1.size; simp only [World.size_alloc] at hz1; clear hb1)
    go_ret2
    exact ⟨rfl, B1.out⟩
  · have HO := Lib.hid ho
    obtain ⟨hv, hs⟩ := ok_of ho
    have HV := Lib.hid hv
    have HS := Lib.hid hs
    rw [Bool.true_and]
    by_cases hmn : m = n
    · subst hmn
      rw [decide_eq_true rfl, Bool.true_and]
      obtain ⟨al, hal⟩ : ∃ b, xs.all (fun x => inB x 0 1000000) = b := ⟨_, rfl⟩
      have HAL := Lib.hid hal
      rw [hal]
      cases al
      · clear hL hX hll hxl ho hv hs hal
        go_enter Try.func36, Try.ntmps36
        go_wp2_with (first | (go_at_call 52; (with_reducible refine (right25_is (HR.out.ext (Below.alloc (Below.refl _ _) (Nat.le_refl _) _)) HO.out).mono ?_); rintro e w1 ⟨rfl, hb1⟩; have B1 := Lib.hid (Below.then (Below.alloc (Below.refl _ _) (Nat.le_refl _) _) hb1); have c0 := (hb1.cell (p := ⟨w.heap.size, 0, none⟩) (by simp)).trans (show _ = some (.int .i64 F) by simp [go_sem]); have c1 := (hb1.cell (p := ⟨w.heap.size, 1, none⟩) (by simp)).trans (show _ = some (.int .i64 S) by simp [go_sem]); have hz1 := hb1.size; simp only [World.size_alloc] at hz1; clear hb1) | (go_at_call 77; (with_reducible refine (claim_is (HX.out.ext B1.out) HAL.out).mono ?_); rintro e w2 ⟨rfl, hb2⟩; have B2 := Lib.hid hb2; clear hb2))
        go_ret2
        exact ⟨rfl, (by repeat (first | (with_reducible exact Below.refl _ _) | (refine Below.then ?_ (Hid.out (by with_reducible assumption)))))⟩
      · obtain ⟨R, hR⟩ : ∃ R, claimB L F S 0 xs = R := ⟨_, rfl⟩
        have HA : Hid (claimB L F S 0 (xs.drop 0) = R) := Lib.hid hR
        have HXL := Lib.hid hxl
        rw [if_pos rfl, hR]
        clear hL hX hll hxl ho hv hs hal hR
        go_enter Try.func36, Try.ntmps36
        go_wp2_with (first | (go_at_call 52; (with_reducible refine (right25_is (HR.out.ext (Below.alloc (Below.refl _ _) (Nat.le_refl _) _)) HO.out).mono ?_); rintro e w1 ⟨rfl, hb1⟩; have B1 := Lib.hid (Below.then (Below.alloc (Below.refl _ _) (Nat.le_refl _) _) hb1); have c0 := (hb1.cell (p := ⟨w.heap.size, 0, none⟩) (by simp)).trans (show _ = some (.int .i64 F) by simp [go_sem]); have c1 := (hb1.cell (p := ⟨w.heap.size, 1, none⟩) (by simp)).trans (show _ = some (.int .i64 S) by simp [go_sem]); have hz1 := hb1.size; simp only [World.size_alloc] at hz1; clear hb1) | (go_at_call 77; (with_reducible refine (claim_is (HX.out.ext B1.out) HAL.out).mono ?_); rintro e w2 ⟨rfl, hb2⟩; have B2 := Lib.hid hb2; have d0 := (hb2.cell (p := ⟨w.heap.size, 0, none⟩) (by simp only []; omega)).trans c0; have d1 := (hb2.cell (p := ⟨w.heap.size, 1, none⟩) (by simp only []; omega)).trans c1; have hz2 := hb2.size; clear hb2))
        go_loopw [29] (fun i wr => ∃ k : Nat, k ≤ m ∧ i = .int .i64 k ∧ claimB L F S k (xs.drop k) = R ∧ Below w2.heap.size w2 wr) (fun i _ => m - (intOf i).toNat)
        case atStart => exact ⟨0, Nat.zero_le _, rfl, HA.out, Below.refl _ _⟩
        case round =>
          clear HA
          obtain ⟨k, hk, rfl, he, hB⟩ := hrel
          have HE := Lib.hid he; have HB := Lib.hid hB
          have e0 := (hB.cell (p := ⟨w.heap.size, 0, none⟩) (by simp only []; omega)).trans d0
          have e1 := (hB.cell (p := ⟨w.heap.size, 1, none⟩) (by simp only []; omega)).trans d1
          have hzr := hB.size
          have hbw : w.heap.size < wr.heap.size := by omega
          clear he hB
          by_cases hlt : k < m
          · obtain ⟨x, bl, ol, rfl, hbl, hcx, hx, HD⟩ := (HX.out.ext (show Below w.heap.size w wr from (by repeat (first | (with_reducible exact Below.refl _ _) | (refine Below.then ?_ (Hid.out (by with_reducible assumption))))))).nextI k hlt
            have hE := HE.out
            rw [HD.out, claimB_cons] at hE
            obtain ⟨u, b, off, pa, pn, pc, rfl, hb, hg, hpl, HK⟩ := HR.out.cells k hlt
            have hj := HV.out.jit u (List.mem_of_getElem? hg)
            have hdl := HV.out.dl u (List.mem_of_getElem? hg)
            have hc1 : claim1 L F S k x = (decide (1 ≤ x) && decide (x ≤ 2000) && decide (u.jit + x ≤ u.dl) && decide (demN L k x ≤ leastN F S x)) := by rw [claim1, taAt_of hg]
            rw [hc1] at hE
            obtain ⟨j0, j1, j2, j3, j4, j5, hbw3, hpp3⟩ := HK.out wr (by repeat (first | (with_reducible exact Below.refl _ _) | (refine Below.then ?_ (Hid.out (by with_reducible assumption)))))
            clear hx HD hg hpl hc1 hpp3
            by_cases q1 : x < 1
            · obtain rfl : R = false := by rw [← hE, decide_eq_false (show ¬ 1 ≤ x by omega)]; simp
              clear hE
              go_wp2_with (refine wp_region_later_lit (by kernel_rfl) (by kernel_rfl) ?_; (repeat (go_big_quiet_step (fail))); refine wpQuiet_nil ?_; intro w7 hb7)
              go_ret2
              exact ⟨rfl, Below.then (show Below w.heap.size w wr from (by repeat (first | (with_reducible exact Below.refl _ _) | (refine Below.then ?_ (Hid.out (by with_reducible assumption)))))) hb7⟩
            · have q1' : decide (x < 1) = false := by simpa using q1
              by_cases q2 : 2000 < x
              · obtain rfl : R = false := by rw [← hE, decide_eq_false (show ¬ x ≤ 2000 by omega)]; simp
                clear hE
                go_wp2_with (refine wp_region_later_lit (by kernel_rfl) (by kernel_rfl) ?_; (repeat (go_big_quiet_step (fail))); refine wpQuiet_nil ?_; intro w7 hb7)
                go_ret2
                exact ⟨rfl, Below.then (show Below w.heap.size w wr from (by repeat (first | (with_reducible exact Below.refl _ _) | (refine Below.then ?_ (Hid.out (by with_reducible assumption)))))) hb7⟩
              · have q2' : decide (2000 < x) = false := by simpa using q2
                by_cases q3 : u.dl < u.jit + x
                · obtain rfl : R = false := by rw [← hE, decide_eq_false (show ¬ u.jit + x ≤ u.dl by omega)]; simp
                  clear hE
                  go_wp2_with (refine wp_region_later_lit (by kernel_rfl) (by kernel_rfl) ?_; (repeat (go_big_quiet_step (fail))); refine wpQuiet_nil ?_; intro w7 hb7)
                  go_ret2
                  exact ⟨rfl, Below.then (show Below w.heap.size w wr from (by repeat (first | (with_reducible exact Below.refl _ _) | (refine Below.then ?_ (Hid.out (by with_reducible assumption)))))) hb7⟩
                · have q3' : decide (u.dl < u.jit + x) = false := by simpa using q3
                  rw [decide_eq_true (show 1 ≤ x by omega), decide_eq_true (show x ≤ 2000 by omega), decide_eq_true (show u.jit + x ≤ u.dl by omega)] at hE
                  obtain ⟨y, hy⟩ : ∃ y, leastN F S x = y := ⟨_, rfl⟩
                  obtain ⟨z, hz⟩ : ∃ y, demN L k x = y := ⟨_, rfl⟩
                  have HZ := Lib.hid hz
                  have HY : Hid (lstR F S x = (y, 0)) := Lib.hid (by
                    obtain ⟨x', rfl⟩ := Int.eq_ofNat_of_zero_le (show 0 ≤ x by omega)
                    rw [lstR_ok HS.out (by omega), hy])
                  rw [hy, hz] at hE
                  clear hy hz
                  by_cases q4 : y < z
                  · obtain rfl : R = false := by rw [← hE, decide_eq_false (show ¬ z ≤ y by omega)]; rfl
                    clear hE
                    go_wp2_with (first
                      | ((refine wp_region_later_lit (by kernel_rfl) (by kernel_rfl) ?_; (repeat (go_big_quiet_step (fail))); refine wpQuiet_nil ?_; intro w7 hb7); have g0 := (hb7.cell (p := ⟨w.heap.size, 0, none⟩) hbw).trans e0; have g1 := (hb7.cell (p := ⟨w.heap.size, 1, none⟩) hbw).trans e1; have B7 := Lib.hid hb7; clear hb7)
                      | (go_at_call 26; (with_reducible refine (Least_is HY.out).mono ?_); rintro e w8 ⟨rfl, hb8⟩; have B8 := Lib.hid hb8; clear hb8)
                      | (go_at_call 70; (with_reducible refine (demand_any _ _ _ k L _ (HR.out.ext (by repeat (first | (with_reducible exact Below.refl _ _) | (refine Below.then ?_ (Hid.out (by with_reducible assumption)))))) HV.out hlt).mono ?_); rintro e w9 ⟨o, h, bx, rfl, hc, hb9⟩; have HC := Lib.hid hc; have B9 := Lib.hid hb9; clear hb9 hc)
                      | (go_at_call 109; (with_reducible refine (demf_is HV.out hlt HC.out ⟨by omega, by omega⟩ HZ.out).mono ?_); rintro e w10 ⟨rfl, hb10⟩; have B10 := Lib.hid hb10; clear hb10))
                    go_ret2
                    exact ⟨rfl, (by repeat (first | (with_reducible exact Below.refl _ _) | (refine Below.then ?_ (Hid.out (by with_reducible assumption)))))⟩
                  · have q4' : decide (y < z) = false := by simpa using q4
                    have HE2 : Hid (claimB L F S (k + 1) (xs.drop (k + 1)) = R) := Lib.hid (by rw [← hE, decide_eq_true (show z ≤ y by omega)]; rfl)
                    clear hE
                    go_wp2_with (first
                      | ((refine wp_region_later_lit (by kernel_rfl) (by kernel_rfl) ?_; (repeat (go_big_quiet_step (fail))); refine wpQuiet_nil ?_; intro w7 hb7); have g0 := (hb7.cell (p := ⟨w.heap.size, 0, none⟩) hbw).trans e0; have g1 := (hb7.cell (p := ⟨w.heap.size, 1, none⟩) hbw).trans e1; have B7 := Lib.hid hb7; clear hb7)
                      | (go_at_call 26; (with_reducible refine (Least_is HY.out).mono ?_); rintro e w8 ⟨rfl, hb8⟩; have B8 := Lib.hid hb8; clear hb8)
                      | (go_at_call 70; (with_reducible refine (demand_any _ _ _ k L _ (HR.out.ext (by repeat (first | (with_reducible exact Below.refl _ _) | (refine Below.then ?_ (Hid.out (by with_reducible assumption)))))) HV.out hlt).mono ?_); rintro e w9 ⟨o, h, bx, rfl, hc, hb9⟩; have HC := Lib.hid hc; have B9 := Lib.hid hb9; clear hb9 hc)
                      | (go_at_call 109; (with_reducible refine (demf_is HV.out hlt HC.out ⟨by omega, by omega⟩ HZ.out).mono ?_); rintro e w10 ⟨rfl, hb10⟩; have B10 := Lib.hid hb10; clear hb10))
                    go_roundw
                    case rel => exact ⟨k + 1, by omega, by go_num, HE2.out, (by repeat (first | (with_reducible exact Below.refl _ _) | (refine Below.then ?_ (Hid.out (by with_reducible assumption)))))⟩
                    case measure => simp [intOf]; omega
          · have hE := HE.out
            rw [List.drop_of_length_le (by have := HXL.out; omega), claimB] at hE
            subst hE
            go_wp2
            go_ret2
            exact ⟨rfl, (by repeat (first | (with_reducible exact Below.refl _ _) | (refine Below.then ?_ (Hid.out (by with_reducible assumption)))))⟩
    · have hmn' : ((m : Int) != (n : Int)) = true := by simp; omega
      rw [decide_eq_false hmn, Bool.false_and]
      clear hL hX hll hxl ho hv hs
      go_enter Try.func36, Try.ntmps36
      go_wp2_with (go_at_call 52; (with_reducible refine (right25_is (HR.out.ext (Below.alloc (Below.refl _ _) (Nat.le_refl _) _)) HO.out).mono ?_); rintro e w1 ⟨rfl, hb1⟩; have B1 := Lib.hid (Below.then (Below.alloc (Below.refl _ _) (Nat.le_refl _) _) hb1); have c0 := (hb1.cell (p := ⟨w.heap.size, 0, none⟩) (by simp)).trans (show _ = some (.int .i64 F) by simp [go_sem]); have c1 := (hb1.cell (p := ⟨w.heap.size, 1, none⟩) (by simp)).trans (show _ = some (.int .i64 S) by simp [go_sem]); have hz1 := hb1.size; simp only [World.size_alloc] at hz1; clear hb1)
      go_ret2
      exact ⟨rfl, B1.out⟩
set_option maxRecDepth 10000 in
set_option maxHeartbeats 4000000 in
theorem rClaim_any (a : Option Addr) (n c : Nat) (L : List Ta) (F S : Int) (a2 : Option Addr) (m c2 : Nat) (xs : List Int) (w : World) (hL : RdL w a n L) (hX : Rd w a2 m 1 (xs.map enc1)) :
    Calls Try.prog 37 #[.slice a n c, .agg #[.int .i64 F, .int .i64 S], .slice a2 m c2] w fun e w' => e = rBI (claimR L F S xs).1 (claimR L F S xs).2 ∧ Below w.heap.size w w' := by
  have hll := hL.length
  have hxl := hX.length
  have hsm := hL.small
  have hsx := hX.small
  have HR := Lib.hid hL
  have HX := Lib.hid hX
  unfold claimR claimC
  rw [hll, hxl]
  cases ho : okB L F S
  · have HO : Hid ((okB L F S && inB 0 0 (1 - 1)) = false) := Lib.hid (by rw [ho]; rfl)
    rw [Bool.false_and]
    clear hL hX hll hxl ho
    go_enter Try.func37, Try.ntmps37
    go_wp2_with (go_at_call 55; (with_reducible refine (ready_is (HR.out.ext (Below.alloc (Below.refl _ _) (Nat.le_refl _) _)) HO.out).mono ?_); rintro e w1 ⟨rfl, hb1⟩; have B1 := Lib.hid (Below.then (Below.alloc (Below.refl _ _) (Nat.le_refl _) _) hb1); have c0 := (hb1.cell (p := ⟨w.heap.size, 0, none⟩) (by simp)).trans (show _ = some (.int .i64 F) by simp [go_sem]); have c1 := (hb1.cell (p := ⟨w.heap.size, 1, none⟩) (by simp)).trans (show _ = some (.int .i64 S) by simp [go_sem]); have hz1 := hb1.size; simp only [World.size_alloc] at hz1; clear hb1)
    go_ret2
    exact ⟨rfl, B1.out⟩
  · have HO : Hid ((okB L F S && inB 0 0 (1 - 1)) = true) := Lib.hid (by rw [ho]; rfl)
    obtain ⟨hv, hs⟩ := ok_of ho
    have HV := Lib.hid hv
    have HS := Lib.hid hs
    rw [Bool.true_and]
    by_cases hmn : m = n
    · subst hmn
      rw [decide_eq_true rfl, Bool.true_and]
      obtain ⟨al, hal⟩ : ∃ b, xs.all (fun x => inB x 0 1000000) = b := ⟨_, rfl⟩
      have HA1 : Hid ((xs.drop 0).all (fun x => inB x 0 1000000) = al) := Lib.hid hal
      have HXL := Lib.hid hxl
      obtain ⟨R, hR⟩ : ∃ R, claimB L F S 0 xs = R := ⟨_, rfl⟩
      have HA : Hid (claimB L F S 0 (xs.drop 0) = R) := Lib.hid hR
      rw [hal, hR]
      obtain ⟨X, hX2⟩ : ∃ X, (if al = true then (R, (0 : Int)) else (false, 1)) = X := ⟨_, rfl⟩
      rw [hX2]
      obtain ⟨RB, re⟩ := X
      have HX2 := Lib.hid hX2
      clear hL hX hll hxl ho hv hs hal hR hX2
      go_enter Try.func37, Try.ntmps37
      go_wp2_with (go_at_call 55; (with_reducible refine (ready_is (HR.out.ext (Below.alloc (Below.refl _ _) (Nat.le_refl _) _)) HO.out).mono ?_); rintro e w1 ⟨rfl, hb1⟩; have B1 := Lib.hid (Below.then (Below.alloc (Below.refl _ _) (Nat.le_refl _) _) hb1); have c0 := (hb1.cell (p := ⟨w.heap.size, 0, none⟩) (by simp)).trans (show _ = some (.int .i64 F) by simp [go_sem]); have c1 := (hb1.cell (p := ⟨w.heap.size, 1, none⟩) (by simp)).trans (show _ = some (.int .i64 S) by simp [go_sem]); have hz1 := hb1.size; simp only [World.size_alloc] at hz1; clear hb1)
      go_loopw [9] (fun i wr => ∃ k : Nat, k ≤ m ∧ i = .int .i64 k ∧ (xs.drop k).all (fun x => inB x 0 1000000) = al ∧ w1 = wr) (fun i _ => m - (intOf i).toNat)
      case atStart => exact ⟨0, Nat.zero_le _, rfl, HA1.out, rfl⟩
      case round =>
        clear HA1
        obtain ⟨k, hk, rfl, he, rfl⟩ := hrel
        have HE := Lib.hid he
        clear he
        by_cases hlt : k < m
        · obtain ⟨x, bl, ol, rfl, hbl, hcx, hx, HD⟩ := (HX.out.ext B1.out).nextI k hlt
          have hE := HE.out
          rw [HD.out, List.all_cons] at hE
          clear hx HD
          by_cases q1 : x < 0
          · obtain rfl : al = false := by rw [← hE, show inB x 0 1000000 = false by rw [← Bool.not_eq_true, inB_iff]; omega]; rfl
            clear hE
            have hx2 := HX2.out
            simp at hx2
            obtain ⟨rfl, rfl⟩ := hx2
            go_wp2
            go_ret2
            exact ⟨rfl, B1.out⟩
          · have q1' : decide (x < 0) = false := by simpa using q1
            by_cases q2 : 1000000 < x
            · obtain rfl : al = false := by rw [← hE, show inB x 0 1000000 = false by rw [← Bool.not_eq_true, inB_iff]; omega]; rfl
              clear hE
              have hx2 := HX2.out
              simp at hx2
              obtain ⟨rfl, rfl⟩ := hx2
              go_wp2
              go_ret2
              exact ⟨rfl, B1.out⟩
            · have q2' : decide (1000000 < x) = false := by simpa using q2
              have HE2 : Hid ((xs.drop (k + 1)).all (fun x => inB x 0 1000000) = al) := Lib.hid (by rw [← hE, show inB x 0 1000000 = true from inB_iff.2 (by omega), Bool.true_and])
              clear hE
              go_wp2
              go_roundw
              case rel => exact ⟨k + 1, by omega, by go_num, HE2.out, by first | rfl | trivial⟩
              case measure => simp [intOf]; omega
        · have hE := HE.out
          rw [List.drop_of_length_le (by have := HXL.out; omega), List.all_nil] at hE
          subst hE
          have hx2 := HX2.out
          simp at hx2
          obtain ⟨rfl, rfl⟩ := hx2
          go_wp2
          go_loopw [10] (fun i wr => ∃ k : Nat, k ≤ m ∧ i = .int .i64 k ∧ claimB L F S k (xs.drop k) = R ∧ Below w1.heap.size w1 wr) (fun i _ => m - (intOf i).toNat)
          case atStart => exact ⟨0, Nat.zero_le _, rfl, HA.out, Below.refl _ _⟩
          case round =>
            clear HA hlt hk
            obtain ⟨k, hk, rfl, he, hB⟩ := hrel
            have HE := Lib.hid he; have HB := Lib.hid hB
            have e0 := (hB.cell (p := ⟨w.heap.size, 0, none⟩) (by simp only []; omega)).trans c0
            have e1 := (hB.cell (p := ⟨w.heap.size, 1, none⟩) (by simp only []; omega)).trans c1
            have hzr := hB.size
            have hbw : w.heap.size < wr.heap.size := by omega
            clear he hB
            by_cases hlt : k < m
            · obtain ⟨x, bl, ol, rfl, hbl, hcx, hx, HD⟩ := (HX.out.ext (show Below w.heap.size w wr from (by repeat (first | (with_reducible exact Below.refl _ _) | (refine Below.then ?_ (Hid.out (by with_reducible assumption))))))).nextI k hlt
              have hE := HE.out
              rw [HD.out, claimB_cons] at hE
              obtain ⟨u, b, off, pa, pn, pc, rfl, hb, hg, hpl, HK⟩ := HR.out.cells k hlt
              have hj := HV.out.jit u (List.mem_of_getElem? hg)
              have hdl := HV.out.dl u (List.mem_of_getElem? hg)
              have hc1 : claim1 L F S k x = (decide (1 ≤ x) && decide (x ≤ 2000) && decide (u.jit + x ≤ u.dl) && decide (demN L k x ≤ leastN F S x)) := by rw [claim1, taAt_of hg]
              rw [hc1] at hE
              clear hx HD hg hpl hc1
              by_cases q1 : x < 1
              · obtain rfl : R = false := by rw [← hE, decide_eq_false (show ¬ 1 ≤ x by omega)]; simp
                clear hE
                go_wp2
                go_ret2
                exact ⟨rfl, (by repeat (first | (with_reducible exact Below.refl _ _) | (refine Below.then ?_ (Hid.out (by with_reducible assumption)))))⟩
              · have q1' : decide (x < 1) = false := by simpa using q1
                by_cases q2 : 2000 < x
                · obtain rfl : R = false := by rw [← hE, decide_eq_false (show ¬ x ≤ 2000 by omega)]; simp
                  clear hE
                  go_wp2
                  go_ret2
                  exact ⟨rfl, (by repeat (first | (with_reducible exact Below.refl _ _) | (refine Below.then ?_ (Hid.out (by with_reducible assumption)))))⟩
                · have q2' : decide (2000 < x) = false := by simpa using q2
                  rw [decide_eq_true (show 1 ≤ x by omega), decide_eq_true (show x ≤ 2000 by omega)] at hE
                  obtain ⟨y, hy⟩ : ∃ y, leastN F S x = y := ⟨_, rfl⟩
                  obtain ⟨z, hz⟩ : ∃ y, demN L k x = y := ⟨_, rfl⟩
                  have HZ := Lib.hid hz
                  have HY : Hid (lstR F S x = (y, 0)) := Lib.hid (by
                    obtain ⟨x', rfl⟩ := Int.eq_ofNat_of_zero_le (show 0 ≤ x by omega)
                    rw [lstR_ok HS.out (by omega), hy])
                  rw [hy, hz] at hE
                  clear hy hz
                  by_cases q4 : y < z
                  · obtain rfl : R = false := by rw [← hE, decide_eq_false (show ¬ z ≤ y by omega)]; simp
                    clear hE
                    go_wp2_with (first
                      | (go_at_call 79; (with_reducible refine (rLeast_is HY.out).mono ?_); rintro e w8 ⟨rfl, hb8⟩; have B8 := Lib.hid hb8; obtain ⟨j0, j1, j2, j3, j4, j5, hbw3, hpp3⟩ := HK.out w8 (by repeat (first | (with_reducible exact Below.refl _ _) | (refine Below.then ?_ (Hid.out (by with_reducible assumption))))); clear hb8 hpp3)
                      | (refine wp_region_later_lit (by kernel_rfl) (by kernel_rfl) ?_; (repeat (go_big_quiet_step ((go_at_call 71; exact later_of (rdem_is (later_rdL (HR.out.ext (by repeat (first | (with_reducible exact Below.refl _ _) | (refine Below.then ?_ (Hid.out (by with_reducible assumption)))))) (Below.refl _ _)) HV.out hlt ⟨by omega, by omega⟩ HZ.out))))); refine wpQuiet_nil ?_; intro w7 hb7))
                    go_ret2
                    exact ⟨rfl, Below.then (show Below w.heap.size w w8 from (by repeat (first | (with_reducible exact Below.refl _ _) | (refine Below.then ?_ (Hid.out (by with_reducible assumption)))))) hb7⟩
                  · have q4' : decide (y < z) = false := by simpa using q4
                    rw [decide_eq_true (show z ≤ y by omega), Bool.and_true] at hE
                    by_cases q3 : u.dl < u.jit + x
                    · obtain rfl : R = false := by rw [← hE, decide_eq_false (show ¬ u.jit + x ≤ u.dl by omega)]; simp
                      clear hE
                      go_wp2_with (first
                        | (go_at_call 79; (with_reducible refine (rLeast_is HY.out).mono ?_); rintro e w8 ⟨rfl, hb8⟩; have B8 := Lib.hid hb8; obtain ⟨j0, j1, j2, j3, j4, j5, hbw3, hpp3⟩ := HK.out w8 (by repeat (first | (with_reducible exact Below.refl _ _) | (refine Below.then ?_ (Hid.out (by with_reducible assumption))))); clear hb8 hpp3)
                        | (refine wp_region_later_lit (by kernel_rfl) (by kernel_rfl) ?_; (repeat (go_big_quiet_step ((go_at_call 71; exact later_of (rdem_is (later_rdL (HR.out.ext (by repeat (first | (with_reducible exact Below.refl _ _) | (refine Below.then ?_ (Hid.out (by with_reducible assumption)))))) (Below.refl _ _)) HV.out hlt ⟨by omega, by omega⟩ HZ.out))))); refine wpQuiet_nil ?_; intro w7 hb7))
                      go_ret2
                      exact ⟨rfl, Below.then (show Below w.heap.size w w8 from (by repeat (first | (with_reducible exact Below.refl _ _) | (refine Below.then ?_ (Hid.out (by with_reducible assumption)))))) hb7⟩
                    · have q3' : decide (u.dl < u.jit + x) = false := by simpa using q3
                      have HE2 : Hid (claimB L F S (k + 1) (xs.drop (k + 1)) = R) := Lib.hid (by rw [← hE, decide_eq_true (show u.jit + x ≤ u.dl by omega)]; rfl)
                      clear hE
                      go_wp2_with (first
                        | (go_at_call 79; (with_reducible refine (rLeast_is HY.out).mono ?_); rintro e w8 ⟨rfl, hb8⟩; have B8 := Lib.hid hb8; obtain ⟨j0, j1, j2, j3, j4, j5, hbw3, hpp3⟩ := HK.out w8 (by repeat (first | (with_reducible exact Below.refl _ _) | (refine Below.then ?_ (Hid.out (by with_reducible assumption))))); clear hb8 hpp3)
                        | (refine wp_region_later_lit (by kernel_rfl) (by kernel_rfl) ?_; (repeat (go_big_quiet_step ((go_at_call 71; exact later_of (rdem_is (later_rdL (HR.out.ext (by repeat (first | (with_reducible exact Below.refl _ _) | (refine Below.then ?_ (Hid.out (by with_reducible assumption)))))) (Below.refl _ _)) HV.out hlt ⟨by omega, by omega⟩ HZ.out))))); refine wpQuiet_nil ?_; intro w7 hb7))
                      go_roundw
                      case rel => exact ⟨k + 1, by omega, by go_num, HE2.out, Below.then (Below.then HB.out B8.out) hb7⟩
                      case measure => simp [intOf]; omega
            · have hE := HE.out
              rw [List.drop_of_length_le (by have := HXL.out; omega), claimB] at hE
              subst hE
              go_wp2
              go_ret2
              exact ⟨rfl, (by repeat (first | (with_reducible exact Below.refl _ _) | (refine Below.then ?_ (Hid.out (by with_reducible assumption)))))⟩
    · have hmn' : ((m : Int) != (n : Int)) = true := by simp; omega
      rw [decide_eq_false hmn, Bool.false_and]
      clear hL hX hll hxl ho hv hs
      go_enter Try.func37, Try.ntmps37
      go_wp2_with (go_at_call 55; (with_reducible refine (ready_is (HR.out.ext (Below.alloc (Below.refl _ _) (Nat.le_refl _) _)) HO.out).mono ?_); rintro e w1 ⟨rfl, hb1⟩; have B1 := Lib.hid (Below.then (Below.alloc (Below.refl _ _) (Nat.le_refl _) _) hb1); have c0 := (hb1.cell (p := ⟨w.heap.size, 0, none⟩) (by simp)).trans (show _ = some (.int .i64 F) by simp [go_sem]); have c1 := (hb1.cell (p := ⟨w.heap.size, 1, none⟩) (by simp)).trans (show _ = some (.int .i64 S) by simp [go_sem]); have hz1 := hb1.size; simp only [World.size_alloc] at hz1; clear hb1)
      go_ret2
      exact ⟨rfl, B1.out⟩
theorem Claim_is {a : Option Addr} {n c : Nat} {L : List Ta} {F S x : Int} {b : Bool} {a2 : Option Addr} {m c2 : Nat} {xs : List Int} {w : World} (hL : RdL w a n L) (hX : Rd w a2 m 1 (xs.map enc1)) (h : claimR L F S xs = (b, x)) :
    Calls Try.prog 36 #[.slice a n c, .agg #[.int .i64 F, .int .i64 S], .slice a2 m c2] w fun e w' => e = rBI b x ∧ Below w.heap.size w w' := by
  have := Claim_any a n c L F S a2 m c2 xs w hL hX
  rw [h] at this; exact this
theorem rClaim_is {a : Option Addr} {n c : Nat} {L : List Ta} {F S x : Int} {b : Bool} {a2 : Option Addr} {m c2 : Nat} {xs : List Int} {w : World} (hL : RdL w a n L) (hX : Rd w a2 m 1 (xs.map enc1)) (h : claimR L F S xs = (b, x)) :
    Calls Try.prog 37 #[.slice a n c, .agg #[.int .i64 F, .int .i64 S], .slice a2 m c2] w fun e w' => e = rBI b x ∧ Below w.heap.size w w' := by
  have := rClaim_any a n c L F S a2 m c2 xs w hL hX
  rw [h] at this; exact this
end Go.Proofs.Ytabbmnnohnfbeaa
