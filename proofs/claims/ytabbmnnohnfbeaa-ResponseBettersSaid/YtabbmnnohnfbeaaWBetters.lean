/- The contract of Better of supply; the walk of ResponseBetters: it returns true. The conditions: the tasks read as named; their lists are no longer than memory bears. -/
import Derived.Test.YtabbmnnohnfbeaaRsSane
import Derived.Test.YtabbmnnohnfbeaaRsTop2
namespace Go.Proofs.Ytabbmnnohnfbeaa
open Go.RowKit
set_option linter.unusedSimpArgs false
set_option linter.unusedVariables false
def betGo (F S G T : Int) : Nat → Nat → Bool
  | 0, _ => true
  | f + 1, w => decide (leastN G T w ≤ leastN F S w) && betGo F S G T f (w + 1)
def betR (F S G T : Int) : Bool × Int := if supB F S && supB G T then (betGo F S G T (F * G + 1).toNat 0, 0) else (false, 1)
theorem betGo_iff {F S G T : Int} : ∀ (f w : Nat), betGo F S G T f w = true ↔ ∀ v : Nat, w ≤ v → v < w + f → leastN G T v ≤ leastN F S v
  | 0, w => by simp [betGo]; intro v h1 h2; omega
  | f + 1, w => by
    rw [betGo, Bool.and_eq_true, decide_eq_true_eq, betGo_iff f (w + 1)]
    constructor
    · rintro ⟨h1, h2⟩ v hv hvf
      by_cases e : v = w
      · subst e; exact h1
      · exact h2 v (by omega) (by omega)
    · intro h
      exact ⟨h w (Nat.le_refl _) (by omega), fun v h1 h2 => h v (by omega) (by omega)⟩
theorem least_period {F S : Int} (hS : supB F S = true) (w q : Nat) : leastN F S ((w : Int) + (q : Int) * F) = leastN F S w + (q : Int) * (F - S) := by
  obtain ⟨k1, k2⟩ := supB_iff.1 hS
  obtain ⟨f, rfl⟩ := Int.eq_ofNat_of_zero_le (show 0 ≤ F by omega)
  have e : (w : Int) + (q : Int) * (f : Int) = ((w + q * f : Nat) : Int) := by simp
  have hd : ∀ j : Nat, diffS f S ((w + q * f : Nat) : Int) j = diffS f S w j + (q : Int) * ((f : Int) - S) := fun j => by
    unfold diffS
    rw [show (j : Int) + ((w + q * f : Nat) : Int) = ((j : Int) + w) + (q : Int) * (f : Int) by simp; omega, aheadS_period (by omega)]
    omega
  have h1 := isLeast k2.1 (show S < (f : Int) by omega) w
  have h2 := isLeast k2.1 (show S < (f : Int) by omega) (w + q * f)
  rw [e]
  refine h2.unique ⟨fun j hj => ?_, ?_⟩
  · rw [hd j]; have := h1.le j hj; omega
  · obtain ⟨j, hj, e2⟩ := h1.is
    exact ⟨j, hj, by rw [hd j]; omega⟩
theorem better_all {F S G T : Int} (h1 : supB F S = true) (h2 : supB G T = true) (h : betGo F S G T (F * G + 1).toNat 0 = true) (v : Nat) : leastN G T v ≤ leastN F S v := by
  obtain ⟨k1, k2⟩ := supB_iff.1 h1
  obtain ⟨m1, m2⟩ := supB_iff.1 h2
  obtain ⟨f, rfl⟩ := Int.eq_ofNat_of_zero_le (show 0 ≤ F by omega)
  obtain ⟨g, rfl⟩ := Int.eq_ofNat_of_zero_le (show 0 ≤ G by omega)
  have hfg : ((f : Int) * (g : Int) + 1).toNat = f * g + 1 := by
    have : (f : Int) * (g : Int) = ((f * g : Nat) : Int) := by simp
    rw [this]; omega
  rw [hfg, betGo_iff] at h
  have hpos : 0 < f * g := Nat.mul_pos (by omega) (by omega)
  have e := Nat.div_add_mod v (f * g)
  obtain ⟨r, hr⟩ : ∃ r, v % (f * g) = r := ⟨_, rfl⟩
  obtain ⟨m, hm⟩ : ∃ m, v / (f * g) = m := ⟨_, rfl⟩
  have hrl : r < f * g := by rw [← hr]; exact Nat.mod_lt _ hpos
  rw [hr, hm] at e
  have ev : (v : Int) = (r : Int) + ((m * g : Nat) : Int) * (f : Int) := by
    rw [← e]; simp [Int.mul_comm, Int.mul_left_comm, Int.mul_assoc, Int.add_comm]
  have ev2 : (v : Int) = (r : Int) + ((m * f : Nat) : Int) * (g : Int) := by
    rw [← e]; simp [Int.mul_comm, Int.mul_left_comm, Int.mul_assoc, Int.add_comm]
  have a1 := least_period h1 r (m * g)
  have a2 := least_period h2 r (m * f)
  rw [← ev] at a1
  rw [← ev2] at a2
  have b1 := least_period h1 0 g
  have b2 := least_period h2 0 f
  have z1 := least_zero k2.1 (show S < (f : Int) by omega)
  have z2 := least_zero m2.1 (show T < (g : Int) by omega)
  simp only [Int.natCast_zero, Int.zero_add] at b1 b2
  rw [z1] at b1
  rw [z2] at b2
  have c := h (f * g) (Nat.zero_le _) (by omega)
  have e3 : ((f * g : Nat) : Int) = (g : Int) * (f : Int) := by simp [Int.mul_comm]
  have e4 : ((f * g : Nat) : Int) = (f : Int) * (g : Int) := by simp
  rw [show leastN (g : Int) T ((f * g : Nat) : Int) = leastN g T ((f : Int) * (g : Int)) by rw [e4], show leastN (f : Int) S ((f * g : Nat) : Int) = leastN f S ((g : Int) * (f : Int)) by rw [e3], b1, b2, Int.zero_add, Int.zero_add] at c
  have d := h r (Nat.zero_le _) (by omega)
  rw [a1, a2]
  have i1 : ((m * g : Nat) : Int) * ((f : Int) - S) = (m : Int) * ((g : Int) * ((f : Int) - S)) := by simp [Int.mul_assoc]
  have i2 : ((m * f : Nat) : Int) * ((g : Int) - T) = (m : Int) * ((f : Int) * ((g : Int) - T)) := by simp [Int.mul_assoc]
  rw [i1, i2]
  have := Int.mul_le_mul_of_nonneg_left c (show 0 ≤ (m : Int) by omega)
  omega
/-- where every window has at least as much -/
theorem win_better {L : List Ta} {F S G T i : Int} (h : ∀ v : Nat, leastN G T v ≤ leastN F S v) (hw : winN L G T i ≠ 0) : winN L F S i ≠ 0 ∧ winN L F S i ≤ winN L G T i := by
  obtain ⟨y, hy, h1, h2, h3, _⟩ := (isWin L G T i).some_ hw
  have h4 := h y
  have hI := isWin L F S i
  by_cases h0 : winN L F S i = 0
  · exact absurd (by omega) (hI.none_ h0 y h1 h2)
  · obtain ⟨x, hx, _, _, _, k⟩ := hI.some_ h0
    refine ⟨h0, ?_⟩
    rw [hx, hy]
    rcases Nat.lt_or_ge y x with q | q
    · exact absurd (by omega) (k y h1 q)
    · omega
theorem resp_better {L : List Ta} {F S G T : Int} (h : ∀ v : Nat, leastN G T v ≤ leastN F S v) {q : Nat} (hm : meetB L G T q = true) : meetB L F S q = true ∧ respN L F S q ≤ respN L G T q := by
  unfold meetB at hm ⊢
  rw [Bool.and_eq_true, decide_eq_true_eq, decide_eq_true_eq] at hm ⊢
  have h0 : winN L G T q ≠ 0 := by omega
  obtain ⟨h1, h2⟩ := win_better h h0
  have hb := winN_bd L F S q
  refine ⟨⟨by omega, by omega⟩, ?_⟩
  unfold respN
  rw [if_neg h1, if_neg h0]; omega
theorem Resps_is {a : Option Addr} {n c : Nat} {L : List Ta} {F S e : Int} {xs : List Int} {w : World} (hL : RdL w a n L) (h : respsR L F S = (xs, e)) :
    Calls Try.prog 20 #[.slice a n c, .agg #[.int .i64 F, .int .i64 S]] w (OutTE w.heap.size w xs e) := by
  have := Resps_any a n c L F S w hL
  rw [h] at this; exact this
theorem resps_get {L : List Ta} {F S : Int} {k : Nat} (h : k < L.length) : ((List.range L.length).map (fun k => respN L F S k))[k]? = some (respN L F S k) := by
  rw [List.getElem?_map, List.getElem?_range h]; rfl
set_option maxRecDepth 10000 in
set_option maxHeartbeats 4000000 in
theorem Better_any (F S G T : Int) (w : World) : Calls Try.prog 41 #[.agg #[.int .i64 F, .int .i64 S], .agg #[.int .i64 G, .int .i64 T]] w fun e w' => e = rBI (betR F S G T).1 (betR F S G T).2 ∧ Below w.heap.size w w' := by
  unfold betR
  cases hs : supB F S
  · have HS := Lib.hid hs
    rw [Bool.false_and]
    clear hs
    go_enter Try.func41, Try.ntmps41
    go_wp2_with (go_at_call 62; (with_reducible refine (supV_is HS.out).mono ?_); rintro e w1 ⟨rfl, hb1⟩; have B1 := Lib.hid (Below.then (Below.alloc (Below.alloc (Below.refl _ _) (Nat.le_refl _) _) (by simp) _) hb1); have c0 := (hb1.cell (p := ⟨w.heap.size, 0, none⟩) (by simp only [World.size_alloc]; omega)).trans (show _ = some (.int .i64 F) by simp [go_sem]); have c1 := (hb1.cell (p := ⟨w.heap.size, 1, none⟩) (by simp only [World.size_alloc]; omega)).trans (show _ = some (.int .i64 S) by simp [go_sem]); have c2 := (hb1.cell (p := ⟨w.heap.size + 1, 0, none⟩) (by simp only [World.size_alloc]; omega)).trans (show _ = some (.int .i64 G) by simp [go_sem]); have c3 := (hb1.cell (p := ⟨w.heap.size + 1, 1, none⟩) (by simp only [World.size_alloc]; omega)).trans (show _ = some (.int .i64 T) by simp [go_sem]); have hz1 := hb1.size; simp only [World.size_alloc] at hz1; clear hb1)
    go_ret2
    exact ⟨rfl, B1.out⟩
  · have HS := Lib.hid hs
    rw [Bool.true_and]
    cases hg : supB G T
    · have HG := Lib.hid hg
      clear hs hg
      go_enter Try.func41, Try.ntmps41
      go_wp2_with (first | (go_at_call 62; (with_reducible refine (supV_is HS.out).mono ?_); rintro e w1 ⟨rfl, hb1⟩; have B1 := Lib.hid (Below.then (Below.alloc (Below.alloc (Below.refl _ _) (Nat.le_refl _) _) (by simp) _) hb1); have c0 := (hb1.cell (p := ⟨w.heap.size, 0, none⟩) (by simp only [World.size_alloc]; omega)).trans (show _ = some (.int .i64 F) by simp [go_sem]); have c1 := (hb1.cell (p := ⟨w.heap.size, 1, none⟩) (by simp only [World.size_alloc]; omega)).trans (show _ = some (.int .i64 S) by simp [go_sem]); have c2 := (hb1.cell (p := ⟨w.heap.size + 1, 0, none⟩) (by simp only [World.size_alloc]; omega)).trans (show _ = some (.int .i64 G) by simp [go_sem]); have c3 := (hb1.cell (p := ⟨w.heap.size + 1, 1, none⟩) (by simp only [World.size_alloc]; omega)).trans (show _ = some (.int .i64 T) by simp [go_sem]); have hz1 := hb1.size; simp only [World.size_alloc] at hz1; clear hb1) | (go_at_call 62; (with_reducible refine (supV_is HG.out).mono ?_); rintro e w2 ⟨rfl, hb2⟩; have B2 := Lib.hid hb2; have d0 := (hb2.cell (p := ⟨w.heap.size, 0, none⟩) (by simp only []; omega)).trans (c0); have d1 := (hb2.cell (p := ⟨w.heap.size, 1, none⟩) (by simp only []; omega)).trans (c1); have d2 := (hb2.cell (p := ⟨w.heap.size + 1, 0, none⟩) (by simp only []; omega)).trans (c2); have d3 := (hb2.cell (p := ⟨w.heap.size + 1, 1, none⟩) (by simp only []; omega)).trans (c3); have hz2 := hb2.size; clear hb2))
      go_ret2
      exact ⟨rfl, (by repeat (first | (with_reducible exact Below.refl _ _) | (refine Below.then ?_ (Hid.out (by with_reducible assumption)))))⟩
    · have HG := Lib.hid hg
      obtain ⟨k1, k2⟩ := supB_iff.1 hs
      obtain ⟨m1, m2⟩ := supB_iff.1 hg
      rw [if_pos rfl]
      have hmb : 1 ≤ F * G ∧ F * G ≤ 3600 := by
        have a1 := Int.mul_le_mul k1.2 m1.2 (by omega) (by omega)
        have a2 := Int.mul_le_mul k1.1 m1.1 (by omega) (by omega)
        omega
      obtain ⟨N, hN⟩ : ∃ N : Nat, F * G + 1 = (N : Int) := ⟨(F * G + 1).toNat, by omega⟩
      obtain ⟨R, hR⟩ : ∃ R, betGo F S G T (F * G + 1).toNat 0 = R := ⟨_, rfl⟩
      have HA : Hid (betGo F S G T (N - 0) 0 = R) := Lib.hid (by rw [← hR, hN]; rfl)
      rw [hR]
      have hN2 : N ≤ 3601 := by omega
      have HNN := Lib.hid hN
      clear hs hg hR hN
      go_enter Try.func41, Try.ntmps41
      go_wp2_with (first | (go_at_call 62; (with_reducible refine (supV_is HS.out).mono ?_); rintro e w1 ⟨rfl, hb1⟩; have B1 := Lib.hid (Below.then (Below.alloc (Below.alloc (Below.refl _ _) (Nat.le_refl _) _) (by simp) _) hb1); have c0 := (hb1.cell (p := ⟨w.heap.size, 0, none⟩) (by simp only [World.size_alloc]; omega)).trans (show _ = some (.int .i64 F) by simp [go_sem]); have c1 := (hb1.cell (p := ⟨w.heap.size, 1, none⟩) (by simp only [World.size_alloc]; omega)).trans (show _ = some (.int .i64 S) by simp [go_sem]); have c2 := (hb1.cell (p := ⟨w.heap.size + 1, 0, none⟩) (by simp only [World.size_alloc]; omega)).trans (show _ = some (.int .i64 G) by simp [go_sem]); have c3 := (hb1.cell (p := ⟨w.heap.size + 1, 1, none⟩) (by simp only [World.size_alloc]; omega)).trans (show _ = some (.int .i64 T) by simp [go_sem]); have hz1 := hb1.size; simp only [World.size_alloc] at hz1; clear hb1) | (go_at_call 62; (with_reducible refine (supV_is HG.out).mono ?_); rintro e w2 ⟨rfl, hb2⟩; have B2 := Lib.hid hb2; have d0 := (hb2.cell (p := ⟨w.heap.size, 0, none⟩) (by simp only []; omega)).trans (c0); have d1 := (hb2.cell (p := ⟨w.heap.size, 1, none⟩) (by simp only []; omega)).trans (c1); have d2 := (hb2.cell (p := ⟨w.heap.size + 1, 0, none⟩) (by simp only []; omega)).trans (c2); have d3 := (hb2.cell (p := ⟨w.heap.size + 1, 1, none⟩) (by simp only []; omega)).trans (c3); have hz2 := hb2.size; clear hb2))
      rw [HNN.out]
      go_loopw [25] (fun i wr => ∃ k : Nat, k ≤ N ∧ i = .int .i64 k ∧ betGo F S G T (N - k) k = R ∧ Below w2.heap.size w2 wr) (fun i _ => N - (intOf i).toNat)
      case atStart => exact ⟨0, Nat.zero_le _, rfl, HA.out, Below.refl _ _⟩
      case round =>
        clear HA
        obtain ⟨k, hk, rfl, he, hB⟩ := hrel
        have HE := Lib.hid he; have HB := Lib.hid hB
        have f0 := (hB.cell (p := ⟨w.heap.size, 0, none⟩) (by simp only []; omega)).trans d0
        have f1 := (hB.cell (p := ⟨w.heap.size, 1, none⟩) (by simp only []; omega)).trans d1
        have f2 := (hB.cell (p := ⟨w.heap.size + 1, 0, none⟩) (by simp only []; omega)).trans d2
        have f3 := (hB.cell (p := ⟨w.heap.size + 1, 1, none⟩) (by simp only []; omega)).trans d3
        have hzr := hB.size
        clear he hB
        by_cases hlt : k < N
        · obtain ⟨x, hx⟩ : ∃ x, leastN F S k = x := ⟨_, rfl⟩
          obtain ⟨y, hy⟩ : ∃ y, leastN G T k = y := ⟨_, rfl⟩
          have H1 : Hid (lstR F S k = (x, 0)) := Lib.hid (by rw [lstR_ok HS.out (by omega), hx])
          have H2 : Hid (lstR G T k = (y, 0)) := Lib.hid (by rw [lstR_ok HG.out (by omega), hy])
          have hE := HE.out
          rw [show N - k = (N - (k + 1)) + 1 by omega, betGo, hx, hy] at hE
          clear hx hy
          by_cases hxy : y ≤ x
          · have hxy' : decide (x < y) = false := by simp; omega
            have HE2 : Hid (betGo F S G T (N - (k + 1)) (k + 1) = R) := Lib.hid (by rw [← hE, decide_eq_true hxy, Bool.true_and])
            clear hE
            go_wp2_with (first | (go_at_call 26; (with_reducible refine (Least_is H1.out).mono ?_); rintro e w3 ⟨rfl, hb3⟩; have B3 := Lib.hid hb3; have e0 := (hb3.cell (p := ⟨w.heap.size, 0, none⟩) (by simp only []; omega)).trans (f0); have e1 := (hb3.cell (p := ⟨w.heap.size, 1, none⟩) (by simp only []; omega)).trans (f1); have e2 := (hb3.cell (p := ⟨w.heap.size + 1, 0, none⟩) (by simp only []; omega)).trans (f2); have e3 := (hb3.cell (p := ⟨w.heap.size + 1, 1, none⟩) (by simp only []; omega)).trans (f3); have hz3 := hb3.size; clear hb3) | (go_at_call 26; (with_reducible refine (Least_is H2.out).mono ?_); rintro e w4 ⟨rfl, hb4⟩; have B4 := Lib.hid hb4; clear hb4))
            go_roundw
            case rel => exact ⟨k + 1, by omega, by go_num, HE2.out, (by repeat (first | (with_reducible exact Below.refl _ _) | (refine Below.then ?_ (Hid.out (by with_reducible assumption)))))⟩
            case measure => simp [intOf]; omega
          · have hxy' : decide (x < y) = true := by simp; omega
            obtain rfl : R = false := by rw [← hE, decide_eq_false hxy, Bool.false_and]
            clear hE
            go_wp2_with (first | (go_at_call 26; (with_reducible refine (Least_is H1.out).mono ?_); rintro e w3 ⟨rfl, hb3⟩; have B3 := Lib.hid hb3; have e0 := (hb3.cell (p := ⟨w.heap.size, 0, none⟩) (by simp only []; omega)).trans (f0); have e1 := (hb3.cell (p := ⟨w.heap.size, 1, none⟩) (by simp only []; omega)).trans (f1); have e2 := (hb3.cell (p := ⟨w.heap.size + 1, 0, none⟩) (by simp only []; omega)).trans (f2); have e3 := (hb3.cell (p := ⟨w.heap.size + 1, 1, none⟩) (by simp only []; omega)).trans (f3); have hz3 := hb3.size; clear hb3) | (go_at_call 26; (with_reducible refine (Least_is H2.out).mono ?_); rintro e w4 ⟨rfl, hb4⟩; have B4 := Lib.hid hb4; clear hb4))
            go_ret2
            exact ⟨rfl, (by repeat (first | (with_reducible exact Below.refl _ _) | (refine Below.then ?_ (Hid.out (by with_reducible assumption)))))⟩
        · have hE := HE.out
          rw [show N - k = 0 by omega, betGo] at hE
          subst hE
          go_wp2
          go_ret2
          exact ⟨rfl, (by repeat (first | (with_reducible exact Below.refl _ _) | (refine Below.then ?_ (Hid.out (by with_reducible assumption)))))⟩
theorem Better_is {F S G T x : Int} {b : Bool} {w : World} (h : betR F S G T = (b, x)) : Calls Try.prog 41 #[.agg #[.int .i64 F, .int .i64 S], .agg #[.int .i64 G, .int .i64 T]] w fun e w' => e = rBI b x ∧ Below w.heap.size w w' := by
  have := Better_any F S G T w
  rw [h] at this; exact this
set_option maxRecDepth 10000 in
set_option maxHeartbeats 8000000 in
theorem betters_walk {w : World} (a : Option Addr) (n c : Nat) (L : List Ta) (hL : RdL w a n L) (hT : ∀ t ∈ L, t.pcs.length ≤ 281474976710656) (hN : NilOk a n c) (F S G T : Int) :
    Calls Try.prog 9 #[.slice a n c, .agg #[.int .i64 F, .int .i64 S], .agg #[.int .i64 G, .int .i64 T]] w fun e w' => e = .returned (.bool true) ∧ Below w.heap.size w w' := by
  have HM := Lib.hid ((many_any a n c L _ (hL.ext (Below.alloc (Below.alloc (Below.refl _ _) (Nat.le_refl _) _) (by simp) _)) hT) : Calls Try.prog 15 #[.slice a n c] ((w.alloc (.cells #[.int .i64 F, .int .i64 S] 24)).alloc (.cells #[.int .i64 G, .int .i64 T] 24)) _)
  have HR := Lib.hid hL
  have hll := hL.length
  cases hm : manyL n L
  · rw [hm] at HM
    have hn4 := (Many_no hm).1
    obtain ⟨b, x, hb⟩ : ∃ b x, betR F S G T = (b, x) := ⟨_, _, rfl⟩
    have HBT := Lib.hid hb
    obtain ⟨z, hz⟩ : ∃ z, accE L G T = z := ⟨_, rfl⟩
    have HAT := Lib.hid hz
    by_cases hx : x = 0
    · subst hx
      cases b
      · clear hL hT hm hb hz hll
        go_enter Try.func9, Try.ntmps9
        go_wp2_with (first
      | (go_at_call 15; refine (HM.out).mono ?_; rintro e w1 ⟨rfl, rfl⟩)
      | (go_at_call 41; (with_reducible refine (Better_is HBT.out).mono ?_); rintro e w1 ⟨rfl, hb1⟩; have B1 := Lib.hid (Below.then (Below.alloc (Below.alloc (Below.refl _ _) (Nat.le_refl _) _) (by simp) _) hb1); have c0 := (hb1.cell (p := ⟨w.heap.size, 0, none⟩) (by simp only [World.size_alloc]; omega)).trans (show _ = some (.int .i64 F) by simp [go_sem]); have c1 := (hb1.cell (p := ⟨w.heap.size, 1, none⟩) (by simp only [World.size_alloc]; omega)).trans (show _ = some (.int .i64 S) by simp [go_sem]); have c2 := (hb1.cell (p := ⟨w.heap.size + 1, 0, none⟩) (by simp only [World.size_alloc]; omega)).trans (show _ = some (.int .i64 G) by simp [go_sem]); have c3 := (hb1.cell (p := ⟨w.heap.size + 1, 1, none⟩) (by simp only [World.size_alloc]; omega)).trans (show _ = some (.int .i64 T) by simp [go_sem]); have hz1 := hb1.size; simp only [World.size_alloc] at hz1; clear hb1)
      | (go_at_call 17; (with_reducible refine (sane_any _).mono ?_); rintro e w9 ⟨rfl, hb9⟩; have B9 := Lib.hid hb9; clear hb9))
        go_ret
        exact ⟨rfl, (by repeat (first | (with_reducible exact Below.refl _ _) | (refine Below.then ?_ (Hid.out (by with_reducible assumption)))))⟩
      · by_cases hz0 : z = 0
        · subst hz0
          have hbb : supB F S = true ∧ supB G T = true ∧ betGo F S G T (F * G + 1).toNat 0 = true := by
            unfold betR at hb
            split at hb
            · rename_i hc
              rw [Bool.and_eq_true] at hc
              simp at hb
              exact ⟨hc.1, hc.2, hb⟩
            · simp at hb
          have hall := better_all hbb.1 hbb.2.1 hbb.2.2
          have hoT : okB L G T = true := by
            unfold accE at hz
            split at hz
            · assumption
            · simp at hz
          have hAT : accB L G T = true := by
            unfold accE at hz
            rw [hoT] at hz
            cases q : accB L G T
            · rw [q] at hz; simp at hz
            · rfl
          have hv : validL L = true := by unfold okB at hoT; rw [Bool.and_eq_true] at hoT; exact hoT.1
          have hoS : okB L F S = true := by unfold okB; rw [hv, hbb.1]; rfl
          have hmt := accB_iff.1 hAT
          have hAS : accB L F S = true := accB_iff.2 (fun j hj => (resp_better hall (hmt j hj)).1)
          have HAS : Hid (accE L F S = 0) := Lib.hid (by rw [accE, hoS, hAS]; rfl)
          have HLE : Hid (∀ k, k < n → respN L F S k ≤ respN L G T k) := Lib.hid (fun k hk => (resp_better hall (hmt k (by omega))).2)
          obtain ⟨xs, hxs⟩ : ∃ xs, (List.range L.length).map (fun k => respN L F S k) = xs := ⟨_, rfl⟩
          obtain ⟨ys, hys⟩ : ∃ ys, (List.range L.length).map (fun k => respN L G T k) = ys := ⟨_, rfl⟩
          have HRS : Hid (respsR L F S = (xs, 0)) := Lib.hid (by rw [respsR, hoS, hxs]; rfl)
          have HRT : Hid (respsR L G T = (ys, 0)) := Lib.hid (by rw [respsR, hoT, hys]; rfl)
          have HXG : Hid (∀ k, k < n → xs[k]? = some (respN L F S k)) := Lib.hid (fun k hk => by rw [← hxs]; exact resps_get (by omega))
          have HYG : Hid (∀ k, k < n → ys[k]? = some (respN L G T k)) := Lib.hid (fun k hk => by rw [← hys]; exact resps_get (by omega))
          have HXL : Hid (xs.length = n) := Lib.hid (by rw [← hxs]; simp [hll])
          have HYL : Hid (ys.length = n) := Lib.hid (by rw [← hys]; simp [hll])
          clear hL hT hm hb hz hbb hall hoT hAT hv hoS hmt hAS hxs hys hll
          go_enter Try.func9, Try.ntmps9
          go_wp2_with (first
      | (go_at_call 15; refine (HM.out).mono ?_; rintro e w1 ⟨rfl, rfl⟩)
      | (go_at_call 41; (with_reducible refine (Better_is HBT.out).mono ?_); rintro e w1 ⟨rfl, hb1⟩; have B1 := Lib.hid (Below.then (Below.alloc (Below.alloc (Below.refl _ _) (Nat.le_refl _) _) (by simp) _) hb1); have c0 := (hb1.cell (p := ⟨w.heap.size, 0, none⟩) (by simp only [World.size_alloc]; omega)).trans (show _ = some (.int .i64 F) by simp [go_sem]); have c1 := (hb1.cell (p := ⟨w.heap.size, 1, none⟩) (by simp only [World.size_alloc]; omega)).trans (show _ = some (.int .i64 S) by simp [go_sem]); have c2 := (hb1.cell (p := ⟨w.heap.size + 1, 0, none⟩) (by simp only [World.size_alloc]; omega)).trans (show _ = some (.int .i64 G) by simp [go_sem]); have c3 := (hb1.cell (p := ⟨w.heap.size + 1, 1, none⟩) (by simp only [World.size_alloc]; omega)).trans (show _ = some (.int .i64 T) by simp [go_sem]); have hz1 := hb1.size; simp only [World.size_alloc] at hz1; clear hb1)
      | (go_at_call 16; (with_reducible refine (Accept_is (HR.out.ext (by repeat (first | (with_reducible exact Below.refl _ _) | (refine Below.then ?_ (Hid.out (by with_reducible assumption)))))) HAT.out).mono ?_); rintro e w2 ⟨rfl, hb2⟩; have B2 := Lib.hid hb2; have d0 := (hb2.cell (p := ⟨w.heap.size, 0, none⟩) (by simp only []; omega)).trans (c0); have d1 := (hb2.cell (p := ⟨w.heap.size, 1, none⟩) (by simp only []; omega)).trans (c1); have d2 := (hb2.cell (p := ⟨w.heap.size + 1, 0, none⟩) (by simp only []; omega)).trans (c2); have d3 := (hb2.cell (p := ⟨w.heap.size + 1, 1, none⟩) (by simp only []; omega)).trans (c3); have hz2 := hb2.size; clear hb2)
      | (go_at_call 20; (with_reducible refine (Resps_is (HR.out.ext (by repeat (first | (with_reducible exact Below.refl _ _) | (refine Below.then ?_ (Hid.out (by with_reducible assumption)))))) HRS.out).mono ?_); rintro e w3 ⟨a3, n3, c3, rfl, ho3, hb3⟩; have R3 := Lib.hid (ownsI_rd ho3); have hn3 : n3 = n := (by rw [← HXL.out, ← (ownsI_rd ho3).length]); have B3 := Lib.hid hb3; have e0 := (hb3.cell (p := ⟨w.heap.size, 0, none⟩) (by simp only []; omega)).trans (d0); have e1 := (hb3.cell (p := ⟨w.heap.size, 1, none⟩) (by simp only []; omega)).trans (d1); have e2 := (hb3.cell (p := ⟨w.heap.size + 1, 0, none⟩) (by simp only []; omega)).trans (d2); have e3 := (hb3.cell (p := ⟨w.heap.size + 1, 1, none⟩) (by simp only []; omega)).trans (d3); have hz3 := hb3.size; clear ho3 hb3; subst hn3)
      | (go_at_call 20; (with_reducible refine (Resps_is (HR.out.ext (by repeat (first | (with_reducible exact Below.refl _ _) | (refine Below.then ?_ (Hid.out (by with_reducible assumption)))))) HRT.out).mono ?_); rintro e w4 ⟨a4, n4, c4, rfl, ho4, hb4⟩; have R4 := Lib.hid (ownsI_rd ho4); have hn4 : n4 = n3 := (by rw [← HYL.out, ← (ownsI_rd ho4).length]); have B4 := Lib.hid hb4; have f0 := (hb4.cell (p := ⟨w.heap.size, 0, none⟩) (by simp only []; omega)).trans (e0); have f1 := (hb4.cell (p := ⟨w.heap.size, 1, none⟩) (by simp only []; omega)).trans (e1); have f2 := (hb4.cell (p := ⟨w.heap.size + 1, 0, none⟩) (by simp only []; omega)).trans (e2); have f3 := (hb4.cell (p := ⟨w.heap.size + 1, 1, none⟩) (by simp only []; omega)).trans (e3); have hz4 := hb4.size; clear ho4 hb4; subst hn4)
      | (go_at_call 16; (with_reducible refine (Accept_is (HR.out.ext (by repeat (first | (with_reducible exact Below.refl _ _) | (refine Below.then ?_ (Hid.out (by with_reducible assumption)))))) HAS.out).mono ?_); rintro e w5 ⟨rfl, hb5⟩; have B5 := Lib.hid hb5; clear hb5)
      | (go_at_call 17; (with_reducible refine (sane_any _).mono ?_); rintro e w9 ⟨rfl, hb9⟩; have B9 := Lib.hid hb9; clear hb9))
          go_loopw [13] (fun i wr => ∃ k : Nat, k ≤ n4 ∧ i = .int .i64 k ∧ Below w5.heap.size w5 wr) (fun i _ => n4 - (intOf i).toNat)
          case atStart => exact ⟨0, Nat.zero_le _, rfl, Below.refl _ _⟩
          case round =>
            obtain ⟨k, hk, rfl, hB⟩ := hrel
            have HB := Lib.hid hB
            clear hB
            by_cases hlt : k < n4
            · obtain ⟨x, b1, o1, rfl, hb1, hc1, hx⟩ := (R3.out.ext (show Below w3.heap.size w3 wr from (by repeat (first | (with_reducible exact Below.refl _ _) | (refine Below.then ?_ (Hid.out (by with_reducible assumption))))))).idx k hlt
              obtain ⟨y, b2, o2, rfl, hb2, hc2, hy⟩ := (R4.out.ext (show Below w4.heap.size w4 wr from (by repeat (first | (with_reducible exact Below.refl _ _) | (refine Below.then ?_ (Hid.out (by with_reducible assumption))))))).idx k hlt
              rw [HXG.out k hlt] at hx
              rw [HYG.out k hlt] at hy
              have hle := HLE.out k hlt
              obtain ⟨x', hx'⟩ : ∃ x, respN L F S k = x := ⟨_, rfl⟩
              obtain ⟨y', hy'⟩ : ∃ x, respN L G T k = x := ⟨_, rfl⟩
              rw [hx'] at hx hle
              rw [hy'] at hy hle
              obtain rfl : x' = x := by simpa using hx
              obtain rfl : y' = y := by simpa using hy
              have hd : decide (y' < x') = false := by simp; omega
              clear hx hy hx' hy'
              go_wp2_with (refine wp_region_later_lit (by kernel_rfl) (by kernel_rfl) ?_; (repeat (go_big_quiet_step (fail))); refine wpQuiet_nil ?_; intro w7 hb7)
              go_roundw
              case rel => exact ⟨k + 1, by omega, by go_num, Below.then HB.out hb7⟩
              case measure => simp [intOf]; omega
            · go_wp2_with (go_at_call 17; (with_reducible refine (sane_any _).mono ?_); rintro e w9 ⟨rfl, hb9⟩; have B9 := Lib.hid hb9; clear hb9)
              go_ret
              exact ⟨rfl, (by repeat (first | (with_reducible exact Below.refl _ _) | (refine Below.then ?_ (Hid.out (by with_reducible assumption)))))⟩
        · have hz' : (z != 0) = true := by simpa using hz0
          clear hL hT hm hb hz hll
          go_enter Try.func9, Try.ntmps9
          go_wp2_with (first
      | (go_at_call 15; refine (HM.out).mono ?_; rintro e w1 ⟨rfl, rfl⟩)
      | (go_at_call 41; (with_reducible refine (Better_is HBT.out).mono ?_); rintro e w1 ⟨rfl, hb1⟩; have B1 := Lib.hid (Below.then (Below.alloc (Below.alloc (Below.refl _ _) (Nat.le_refl _) _) (by simp) _) hb1); have c0 := (hb1.cell (p := ⟨w.heap.size, 0, none⟩) (by simp only [World.size_alloc]; omega)).trans (show _ = some (.int .i64 F) by simp [go_sem]); have c1 := (hb1.cell (p := ⟨w.heap.size, 1, none⟩) (by simp only [World.size_alloc]; omega)).trans (show _ = some (.int .i64 S) by simp [go_sem]); have c2 := (hb1.cell (p := ⟨w.heap.size + 1, 0, none⟩) (by simp only [World.size_alloc]; omega)).trans (show _ = some (.int .i64 G) by simp [go_sem]); have c3 := (hb1.cell (p := ⟨w.heap.size + 1, 1, none⟩) (by simp only [World.size_alloc]; omega)).trans (show _ = some (.int .i64 T) by simp [go_sem]); have hz1 := hb1.size; simp only [World.size_alloc] at hz1; clear hb1)
      | (go_at_call 16; (with_reducible refine (Accept_is (HR.out.ext (by repeat (first | (with_reducible exact Below.refl _ _) | (refine Below.then ?_ (Hid.out (by with_reducible assumption)))))) HAT.out).mono ?_); rintro e w2 ⟨rfl, hb2⟩; have B2 := Lib.hid hb2; have d0 := (hb2.cell (p := ⟨w.heap.size, 0, none⟩) (by simp only []; omega)).trans (c0); have d1 := (hb2.cell (p := ⟨w.heap.size, 1, none⟩) (by simp only []; omega)).trans (c1); have d2 := (hb2.cell (p := ⟨w.heap.size + 1, 0, none⟩) (by simp only []; omega)).trans (c2); have d3 := (hb2.cell (p := ⟨w.heap.size + 1, 1, none⟩) (by simp only []; omega)).trans (c3); have hz2 := hb2.size; clear hb2)
      | (go_at_call 17; (with_reducible refine (sane_any _).mono ?_); rintro e w9 ⟨rfl, hb9⟩; have B9 := Lib.hid hb9; clear hb9))
          go_ret
          exact ⟨rfl, (by repeat (first | (with_reducible exact Below.refl _ _) | (refine Below.then ?_ (Hid.out (by with_reducible assumption)))))⟩
    · have hx' : (x != 0) = true := by simpa using hx
      clear hL hT hm hb hz hll
      go_enter Try.func9, Try.ntmps9
      go_wp2_with (first
      | (go_at_call 15; refine (HM.out).mono ?_; rintro e w1 ⟨rfl, rfl⟩)
      | (go_at_call 41; (with_reducible refine (Better_is HBT.out).mono ?_); rintro e w1 ⟨rfl, hb1⟩; have B1 := Lib.hid (Below.then (Below.alloc (Below.alloc (Below.refl _ _) (Nat.le_refl _) _) (by simp) _) hb1); have c0 := (hb1.cell (p := ⟨w.heap.size, 0, none⟩) (by simp only [World.size_alloc]; omega)).trans (show _ = some (.int .i64 F) by simp [go_sem]); have c1 := (hb1.cell (p := ⟨w.heap.size, 1, none⟩) (by simp only [World.size_alloc]; omega)).trans (show _ = some (.int .i64 S) by simp [go_sem]); have c2 := (hb1.cell (p := ⟨w.heap.size + 1, 0, none⟩) (by simp only [World.size_alloc]; omega)).trans (show _ = some (.int .i64 G) by simp [go_sem]); have c3 := (hb1.cell (p := ⟨w.heap.size + 1, 1, none⟩) (by simp only [World.size_alloc]; omega)).trans (show _ = some (.int .i64 T) by simp [go_sem]); have hz1 := hb1.size; simp only [World.size_alloc] at hz1; clear hb1)
      | (go_at_call 17; (with_reducible refine (sane_any _).mono ?_); rintro e w9 ⟨rfl, hb9⟩; have B9 := Lib.hid hb9; clear hb9))
      go_ret
      exact ⟨rfl, (by repeat (first | (with_reducible exact Below.refl _ _) | (refine Below.then ?_ (Hid.out (by with_reducible assumption)))))⟩
  · rw [hm] at HM
    clear hL hT hm
    go_enter Try.func9, Try.ntmps9
    go_wp2_with (first
      | (go_at_call 15; refine (HM.out).mono ?_; rintro e w1 ⟨rfl, rfl⟩)
      | (go_at_call 17; (with_reducible refine (sane_any _).mono ?_); rintro e w9 ⟨rfl, hb9⟩; have B9 := Lib.hid hb9; clear hb9))
    go_ret
    exact ⟨rfl, Below.then (Below.alloc (Below.alloc (Below.refl _ _) (Nat.le_refl _) _) (by simp) _) B9.out⟩
end Go.Proofs.Ytabbmnnohnfbeaa
