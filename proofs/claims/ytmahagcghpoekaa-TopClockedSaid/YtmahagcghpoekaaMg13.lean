/- The contract of Better of supply; the walk of ResponseBetters: it returns true. The conditions: the tasks read as named; their lists are no longer than memory bears. The contract of the reference's Allowed. The conditions: the run reads as named. The contracts of letA and saneTasksA. The conditions: the run reads as named. The walk of TopResponses: it returns true. The conditions: the run reads as named. Tasks made easier with a supply that is better: their responses are no greater. No condition: plain lemmas. The contract of easeB, and what a row says of a Sustain. The conditions: the tasks read as named and are valid. -/
import Derived.Test.YtmahagcghpoekaaMg12
import Derived.Test.YtmahagcghpoekaaMg10
import Derived.Deep.RegionHeld3
import Derived.Deep.Cut
import Derived.Test.YtmahagcghpoekaaMg8
import Derived.Test.YtmahagcghpoekaaMg7
import Derived.Test.YtmahagcghpoekaaMg11
namespace Go.Proofs.Ytmahagcghpoekaa
open Go.RowKit
set_option linter.unusedSimpArgs false
set_option linter.unusedVariables false
def betGo (F S G T : Int) : Nat → Nat → Bool
  | 0, _ => true
  | f + 1, w => decide (leastN G T w ≤ leastN F S w) && betGo F S G T f (w + 1)
def betR (F S G T : Int) : Bool × Int := if supB F S && supB G T then (betGo F S G T (F * G + 1).toNat 0, 0) else (false, 1)
theorem betGo_iff {F S G T : Int} : ∀ (f w : Nat), betGo F S G T f w = true ↔ ∀ v : Nat, w ≤ v → v < w + f → leastN G T v ≤ leastN F S v
  | 0, w => by simp [betGo]; intro v h1 h2; omega
  | f + 1, w => by
    rw [betGo, Bool.and_eq_true, decide_eq_true_eq, betGo_iff f (w + 1)]
    constructor
    · rintro ⟨h1, h2⟩ v hv hvf
      by_cases e : v = w
      · subst e; exact h1
      · exact h2 v (by omega) (by omega)
    · intro h
      exact ⟨h w (Nat.le_refl _) (by omega), fun v h1 h2 => h v (by omega) (by omega)⟩
theorem least_period {F S : Int} (hS : supB F S = true) (w q : Nat) : leastN F S ((w : Int) + (q : Int) * F) = leastN F S w + (q : Int) * (F - S) := by
  obtain ⟨k1, k2⟩ := supB_iff.1 hS
  obtain ⟨f, rfl⟩ := Int.eq_ofNat_of_zero_le (show 0 ≤ F by omega)
  have e : (w : Int) + (q : Int) * (f : Int) = ((w + q * f : Nat) : Int) := by simp
  have hd : ∀ j : Nat, diffS f S ((w + q * f : Nat) : Int) j = diffS f S w j + (q : Int) * ((f : Int) - S) := fun j => by
    unfold diffS
    rw [show (j : Int) + ((w + q * f : Nat) : Int) = ((j : Int) + w) + (q : Int) * (f : Int) by simp; omega, aheadS_period (by omega)]
    omega
  have h1 := isLeast k2.1 (show S < (f : Int) by omega) w
  have h2 := isLeast k2.1 (show S < (f : Int) by omega) (w + q * f)
  rw [e]
  refine h2.unique ⟨fun j hj => ?_, ?_⟩
  · rw [hd j]; have := h1.le j hj; omega
  · obtain ⟨j, hj, e2⟩ := h1.is
    exact ⟨j, hj, by rw [hd j]; omega⟩
theorem better_all {F S G T : Int} (h1 : supB F S = true) (h2 : supB G T = true) (h : betGo F S G T (F * G + 1).toNat 0 = true) (v : Nat) : leastN G T v ≤ leastN F S v := by
  obtain ⟨k1, k2⟩ := supB_iff.1 h1
  obtain ⟨m1, m2⟩ := supB_iff.1 h2
  obtain ⟨f, rfl⟩ := Int.eq_ofNat_of_zero_le (show 0 ≤ F by omega)
  obtain ⟨g, rfl⟩ := Int.eq_ofNat_of_zero_le (show 0 ≤ G by omega)
  have hfg : ((f : Int) * (g : Int) + 1).toNat = f * g + 1 := by
    have : (f : Int) * (g : Int) = ((f * g : Nat) : Int) := by simp
    rw [this]; omega
  rw [hfg, betGo_iff] at h
  have hpos : 0 < f * g := Nat.mul_pos (by omega) (by omega)
  have e := Nat.div_add_mod v (f * g)
  obtain ⟨r, hr⟩ : ∃ r, v % (f * g) = r := ⟨_, rfl⟩
  obtain ⟨m, hm⟩ : ∃ m, v / (f * g) = m := ⟨_, rfl⟩
  have hrl : r < f * g := by rw [← hr]; exact Nat.mod_lt _ hpos
  rw [hr, hm] at e
  have ev : (v : Int) = (r : Int) + ((m * g : Nat) : Int) * (f : Int) := by
    rw [← e]; simp [Int.mul_comm, Int.mul_left_comm, Int.mul_assoc, Int.add_comm]
  have ev2 : (v : Int) = (r : Int) + ((m * f : Nat) : Int) * (g : Int) := by
    rw [← e]; simp [Int.mul_comm, Int.mul_left_comm, Int.mul_assoc, Int.add_comm]
  have a1 := least_period h1 r (m * g)
  have a2 := least_period h2 r (m * f)
  rw [← ev] at a1
  rw [← ev2] at a2
  have b1 := least_period h1 0 g
  have b2 := least_period h2 0 f
  have z1 := least_zero k2.1 (show S < (f : Int) by omega)
  have z2 := least_zero m2.1 (show T < (g : Int) by omega)
  simp only [Int.natCast_zero, Int.zero_add] at b1 b2
  rw [z1] at b1
  rw [z2] at b2
  have c := h (f * g) (Nat.zero_le _) (by omega)
  have e3 : ((f * g : Nat) : Int) = (g : Int) * (f : Int) := by simp [Int.mul_comm]
  have e4 : ((f * g : Nat) : Int) = (f : Int) * (g : Int) := by simp
  rw [show leastN (g : Int) T ((f * g : Nat) : Int) = leastN g T ((f : Int) * (g : Int)) by rw [e4], show leastN (f : Int) S ((f * g : Nat) : Int) = leastN f S ((g : Int) * (f : Int)) by rw [e3], b1, b2, Int.zero_add, Int.zero_add] at c
  have d := h r (Nat.zero_le _) (by omega)
  rw [a1, a2]
  have i1 : ((m * g : Nat) : Int) * ((f : Int) - S) = (m : Int) * ((g : Int) * ((f : Int) - S)) := by simp [Int.mul_assoc]
  have i2 : ((m * f : Nat) : Int) * ((g : Int) - T) = (m : Int) * ((f : Int) * ((g : Int) - T)) := by simp [Int.mul_assoc]
  rw [i1, i2]
  have := Int.mul_le_mul_of_nonneg_left c (show 0 ≤ (m : Int) by omega)
  omega
/-- where every window has at least as much -/
theorem win_better {L : List Ta} {F S G T i : Int} (h : ∀ v : Nat, leastN G T v ≤ leastN F S v) (hw : winN L G T i ≠ 0) : winN L F S i ≠ 0 ∧ winN L F S i ≤ winN L G T i := by
  obtain ⟨y, hy, h1, h2, h3, _⟩ := (isWin L G T i).some_ hw
  have h4 := h y
  have hI := isWin L F S i
  by_cases h0 : winN L F S i = 0
  · exact absurd (by omega) (hI.none_ h0 y h1 h2)
  · obtain ⟨x, hx, _, _, _, k⟩ := hI.some_ h0
    refine ⟨h0, ?_⟩
    rw [hx, hy]
    rcases Nat.lt_or_ge y x with q | q
    · exact absurd (by omega) (k y h1 q)
    · omega
theorem resp_better {L : List Ta} {F S G T : Int} (h : ∀ v : Nat, leastN G T v ≤ leastN F S v) {q : Nat} (hm : meetB L G T q = true) : meetB L F S q = true ∧ respN L F S q ≤ respN L G T q := by
  unfold meetB at hm ⊢
  rw [Bool.and_eq_true, decide_eq_true_eq, decide_eq_true_eq] at hm ⊢
  have h0 : winN L G T q ≠ 0 := by omega
  obtain ⟨h1, h2⟩ := win_better h h0
  have hb := winN_bd L F S q
  refine ⟨⟨by omega, by omega⟩, ?_⟩
  unfold respN
  rw [if_neg h1, if_neg h0]; omega
theorem Resps_is {a : Option Addr} {n c : Nat} {L : List Ta} {F S e : Int} {xs : List Int} {w : World} (hL : RdL w a n L) (h : respsR L F S = (xs, e)) :
    Calls Try.prog 22 #[.slice a n c, .agg #[.int .i64 F, .int .i64 S]] w (OutTE w.heap.size w xs e) := by
  have := Resps_any a n c L F S w hL
  rw [h] at this; exact this
theorem resps_get {L : List Ta} {F S : Int} {k : Nat} (h : k < L.length) : ((List.range L.length).map (fun k => respN L F S k))[k]? = some (respN L F S k) := by
  rw [List.getElem?_map, List.getElem?_range h]; rfl
set_option maxRecDepth 10000 in
set_option maxHeartbeats 4000000 in
theorem Better_any (F S G T : Int) (w : World) : Calls Try.prog 20 #[.agg #[.int .i64 F, .int .i64 S], .agg #[.int .i64 G, .int .i64 T]] w fun e w' => e = rBI (betR F S G T).1 (betR F S G T).2 ∧ Below w.heap.size w w' := by
  unfold betR
  cases hs : supB F S
  · have HS := Lib.hid hs
    rw [Bool.false_and]
    clear hs
    go_enter Try.func20, Try.ntmps20
    go_wp2_with (go_at_call 34; (with_reducible refine (supV_is HS.out).mono ?_); rintro e w1 ⟨rfl, hb1⟩; have B1 := Lib.hid (Below.then (Below.alloc (Below.alloc (Below.refl _ _) (Nat.le_refl _) _) (by simp) _) hb1); have c0 := (hb1.cell (p := ⟨w.heap.size, 0, none⟩) (by simp only [World.size_alloc]; omega)).trans (show _ = some (.int .i64 F) by simp [go_sem]); have c1 := (hb1.cell (p := ⟨w.heap.size, 1, none⟩) (by simp only [World.size_alloc]; omega)).trans (show _ = some (.int .i64 S) by simp [go_sem]); have c2 := (hb1.cell (p := ⟨w.heap.size + 1, 0, none⟩) (by simp only [World.size_alloc]; omega)).trans (show _ = some (.int .i64 G) by simp [go_sem]); have c3 := (hb1.cell (p := ⟨w.heap.size + 1, 1, none⟩) (by simp only [World.size_alloc]; omega)).trans (show _ = some (.int .i64 T) by simp [go_sem]); have hz1 := hb1.size; simp only [World.size_alloc] at hz1; clear hb1)
    go_ret2
    exact ⟨rfl, B1.out⟩
  · have HS := Lib.hid hs
    rw [Bool.true_and]
    cases hg : supB G T
    · have HG := Lib.hid hg
      clear hs hg
      go_enter Try.func20, Try.ntmps20
      go_wp2_with (first | (go_at_call 34; (with_reducible refine (supV_is HS.out).mono ?_); rintro e w1 ⟨rfl, hb1⟩; have B1 := Lib.hid (Below.then (Below.alloc (Below.alloc (Below.refl _ _) (Nat.le_refl _) _) (by simp) _) hb1); have c0 := (hb1.cell (p := ⟨w.heap.size, 0, none⟩) (by simp only [World.size_alloc]; omega)).trans (show _ = some (.int .i64 F) by simp [go_sem]); have c1 := (hb1.cell (p := ⟨w.heap.size, 1, none⟩) (by simp only [World.size_alloc]; omega)).trans (show _ = some (.int .i64 S) by simp [go_sem]); have c2 := (hb1.cell (p := ⟨w.heap.size + 1, 0, none⟩) (by simp only [World.size_alloc]; omega)).trans (show _ = some (.int .i64 G) by simp [go_sem]); have c3 := (hb1.cell (p := ⟨w.heap.size + 1, 1, none⟩) (by simp only [World.size_alloc]; omega)).trans (show _ = some (.int .i64 T) by simp [go_sem]); have hz1 := hb1.size; simp only [World.size_alloc] at hz1; clear hb1) | (go_at_call 34; (with_reducible refine (supV_is HG.out).mono ?_); rintro e w2 ⟨rfl, hb2⟩; have B2 := Lib.hid hb2; have d0 := (hb2.cell (p := ⟨w.heap.size, 0, none⟩) (by simp only []; omega)).trans (c0); have d1 := (hb2.cell (p := ⟨w.heap.size, 1, none⟩) (by simp only []; omega)).trans (c1); have d2 := (hb2.cell (p := ⟨w.heap.size + 1, 0, none⟩) (by simp only []; omega)).trans (c2); have d3 := (hb2.cell (p := ⟨w.heap.size + 1, 1, none⟩) (by simp only []; omega)).trans (c3); have hz2 := hb2.size; clear hb2))
      go_ret2
      exact ⟨rfl, (by repeat (first | (with_reducible exact Below.refl _ _) | (refine Below.then ?_ (Hid.out (by with_reducible assumption)))))⟩
    · have HG := Lib.hid hg
      obtain ⟨k1, k2⟩ := supB_iff.1 hs
      obtain ⟨m1, m2⟩ := supB_iff.1 hg
      rw [if_pos rfl]
      have hmb : 1 ≤ F * G ∧ F * G ≤ 3600 := by
        have a1 := Int.mul_le_mul k1.2 m1.2 (by omega) (by omega)
        have a2 := Int.mul_le_mul k1.1 m1.1 (by omega) (by omega)
        omega
      obtain ⟨N, hN⟩ : ∃ N : Nat, F * G + 1 = (N : Int) := ⟨(F * G + 1).toNat, by omega⟩
      obtain ⟨R, hR⟩ : ∃ R, betGo F S G T (F * G + 1).toNat 0 = R := ⟨_, rfl⟩
      have HA : Hid (betGo F S G T (N - 0) 0 = R) := Lib.hid (by rw [← hR, hN]; rfl)
      rw [hR]
      have hN2 : N ≤ 3601 := by omega
      have HNN := Lib.hid hN
      clear hs hg hR hN
      go_enter Try.func20, Try.ntmps20
      go_wp2_with (first | (go_at_call 34; (with_reducible refine (supV_is HS.out).mono ?_); rintro e w1 ⟨rfl, hb1⟩; have B1 := Lib.hid (Below.then (Below.alloc (Below.alloc (Below.refl _ _) (Nat.le_refl _) _) (by simp) _) hb1); have c0 := (hb1.cell (p := ⟨w.heap.size, 0, none⟩) (by simp only [World.size_alloc]; omega)).trans (show _ = some (.int .i64 F) by simp [go_sem]); have c1 := (hb1.cell (p := ⟨w.heap.size, 1, none⟩) (by simp only [World.size_alloc]; omega)).trans (show _ = some (.int .i64 S) by simp [go_sem]); have c2 := (hb1.cell (p := ⟨w.heap.size + 1, 0, none⟩) (by simp only [World.size_alloc]; omega)).trans (show _ = some (.int .i64 G) by simp [go_sem]); have c3 := (hb1.cell (p := ⟨w.heap.size + 1, 1, none⟩) (by simp only [World.size_alloc]; omega)).trans (show _ = some (.int .i64 T) by simp [go_sem]); have hz1 := hb1.size; simp only [World.size_alloc] at hz1; clear hb1) | (go_at_call 34; (with_reducible refine (supV_is HG.out).mono ?_); rintro e w2 ⟨rfl, hb2⟩; have B2 := Lib.hid hb2; have d0 := (hb2.cell (p := ⟨w.heap.size, 0, none⟩) (by simp only []; omega)).trans (c0); have d1 := (hb2.cell (p := ⟨w.heap.size, 1, none⟩) (by simp only []; omega)).trans (c1); have d2 := (hb2.cell (p := ⟨w.heap.size + 1, 0, none⟩) (by simp only []; omega)).trans (c2); have d3 := (hb2.cell (p := ⟨w.heap.size + 1, 1, none⟩) (by simp only []; omega)).trans (c3); have hz2 := hb2.size; clear hb2))
      rw [HNN.out]
      go_loopw [25] (fun i wr => ∃ k : Nat, k ≤ N ∧ i = .int .i64 k ∧ betGo F S G T (N - k) k = R ∧ Below w2.heap.size w2 wr) (fun i _ => N - (intOf i).toNat)
      case atStart => exact ⟨0, Nat.zero_le _, rfl, HA.out, Below.refl _ _⟩
      case round =>
        clear HA
        obtain ⟨k, hk, rfl, he, hB⟩ := hrel
        have HE := Lib.hid he; have HB := Lib.hid hB
        have f0 := (hB.cell (p := ⟨w.heap.size, 0, none⟩) (by simp only []; omega)).trans d0
        have f1 := (hB.cell (p := ⟨w.heap.size, 1, none⟩) (by simp only []; omega)).trans d1
        have f2 := (hB.cell (p := ⟨w.heap.size + 1, 0, none⟩) (by simp only []; omega)).trans d2
        have f3 := (hB.cell (p := ⟨w.heap.size + 1, 1, none⟩) (by simp only []; omega)).trans d3
        have hzr := hB.size
        clear he hB
        by_cases hlt : k < N
        · obtain ⟨x, hx⟩ : ∃ x, leastN F S k = x := ⟨_, rfl⟩
          obtain ⟨y, hy⟩ : ∃ y, leastN G T k = y := ⟨_, rfl⟩
          have H1 : Hid (lstR F S k = (x, 0)) := Lib.hid (by rw [lstR_ok HS.out (by omega), hx])
          have H2 : Hid (lstR G T k = (y, 0)) := Lib.hid (by rw [lstR_ok HG.out (by omega), hy])
          have hE := HE.out
          rw [show N - k = (N - (k + 1)) + 1 by omega, betGo, hx, hy] at hE
          clear hx hy
          by_cases hxy : y ≤ x
          · have hxy' : decide (x < y) = false := by simp; omega
            have HE2 : Hid (betGo F S G T (N - (k + 1)) (k + 1) = R) := Lib.hid (by rw [← hE, decide_eq_true hxy, Bool.true_and])
            clear hE
            go_wp2_with (first | (go_at_call 12; (with_reducible refine (Least_is H1.out).mono ?_); rintro e w3 ⟨rfl, hb3⟩; have B3 := Lib.hid hb3; have e0 := (hb3.cell (p := ⟨w.heap.size, 0, none⟩) (by simp only []; omega)).trans (f0); have e1 := (hb3.cell (p := ⟨w.heap.size, 1, none⟩) (by simp only []; omega)).trans (f1); have e2 := (hb3.cell (p := ⟨w.heap.size + 1, 0, none⟩) (by simp only []; omega)).trans (f2); have e3 := (hb3.cell (p := ⟨w.heap.size + 1, 1, none⟩) (by simp only []; omega)).trans (f3); have hz3 := hb3.size; clear hb3) | (go_at_call 12; (with_reducible refine (Least_is H2.out).mono ?_); rintro e w4 ⟨rfl, hb4⟩; have B4 := Lib.hid hb4; clear hb4))
            go_roundw
            case rel => exact ⟨k + 1, by omega, by go_num, HE2.out, (by repeat (first | (with_reducible exact Below.refl _ _) | (refine Below.then ?_ (Hid.out (by with_reducible assumption)))))⟩
            case measure => simp [intOf]; omega
          · have hxy' : decide (x < y) = true := by simp; omega
            obtain rfl : R = false := by rw [← hE, decide_eq_false hxy, Bool.false_and]
            clear hE
            go_wp2_with (first | (go_at_call 12; (with_reducible refine (Least_is H1.out).mono ?_); rintro e w3 ⟨rfl, hb3⟩; have B3 := Lib.hid hb3; have e0 := (hb3.cell (p := ⟨w.heap.size, 0, none⟩) (by simp only []; omega)).trans (f0); have e1 := (hb3.cell (p := ⟨w.heap.size, 1, none⟩) (by simp only []; omega)).trans (f1); have e2 := (hb3.cell (p := ⟨w.heap.size + 1, 0, none⟩) (by simp only []; omega)).trans (f2); have e3 := (hb3.cell (p := ⟨w.heap.size + 1, 1, none⟩) (by simp only []; omega)).trans (f3); have hz3 := hb3.size; clear hb3) | (go_at_call 12; (with_reducible refine (Least_is H2.out).mono ?_); rintro e w4 ⟨rfl, hb4⟩; have B4 := Lib.hid hb4; clear hb4))
            go_ret2
            exact ⟨rfl, (by repeat (first | (with_reducible exact Below.refl _ _) | (refine Below.then ?_ (Hid.out (by with_reducible assumption)))))⟩
        · have hE := HE.out
          rw [show N - k = 0 by omega, betGo] at hE
          subst hE
          go_wp2
          go_ret2
          exact ⟨rfl, (by repeat (first | (with_reducible exact Below.refl _ _) | (refine Below.then ?_ (Hid.out (by with_reducible assumption)))))⟩
theorem Better_is {F S G T x : Int} {b : Bool} {w : World} (h : betR F S G T = (b, x)) : Calls Try.prog 20 #[.agg #[.int .i64 F, .int .i64 S], .agg #[.int .i64 G, .int .i64 T]] w fun e w' => e = rBI b x ∧ Below w.heap.size w w' := by
  have := Better_any F S G T w
  rw [h] at this; exact this
end Go.Proofs.Ytmahagcghpoekaa
namespace Go.Proofs.Ytmahagcghpoekaa
open Go.RowKit
set_option linter.unusedSimpArgs false
set_option linter.unusedVariables false
end Go.Proofs.Ytmahagcghpoekaa
namespace Go.Proofs.Ytmahagcghpoekaa
open Go.RowKit
set_option linter.unusedSimpArgs false
set_option linter.unusedVariables false
set_option maxRecDepth 100000 in
theorem sane_endX : endX saneR 4 0 = [3] := by decide
theorem sane_endN : endN saneR 4 = 1 := by decide
theorem sane_endE : endE saneR 4 = 0 := by decide
theorem sane_acc : accE saneR.L 4 1 = 0 := by decide
theorem SEnds_is {w : World} (hR : ReadRun w (saneH w) saneR) : True := trivial
set_option maxRecDepth 10000 in
set_option maxHeartbeats 4000000 in
theorem saneA_any (w : World) : Calls Try.prog 24 #[] w fun e w' => e = .returned (.bool true) ∧ Below w.heap.size w w' := by
  have hW := saneW_rd w
  have hBW : Below w.heap.size w (saneW w) := by unfold saneW; (repeat' (first | (with_reducible exact Below.refl _ _) | (with_reducible assumption) | (with_reducible refine Below.alloc ?_ ?_ _) | (with_reducible refine Below.drew ?_) | (with_reducible refine Below.draws ?_ _) | (with_reducible refine Below.setCell ?_ ?_ _) | (refine Below.then ?_ (by with_reducible assumption)) | go_size))
  obtain ⟨W5, hW5⟩ : ∃ x, x = saneW w := ⟨_, rfl⟩
  obtain ⟨W6, hW6⟩ : ∃ x, x = (saneW w).alloc (.cells #[.slice (some ⟨w.heap.size + 1, 0, none⟩) 1 1, .int .i64 4, .int .i64 1, .slice (some ⟨w.heap.size + 3, 0, none⟩) 1 1, .slice (some ⟨w.heap.size + 4, 0, none⟩) 1 1, .slice none 0 0] 32) := ⟨_, rfl⟩
  have hb56 : Below (saneW w).heap.size (saneW w) W6 := by rw [hW6]; (repeat' (first | (with_reducible exact Below.refl _ _) | (with_reducible assumption) | (with_reducible refine Below.alloc ?_ ?_ _) | (with_reducible refine Below.drew ?_) | (with_reducible refine Below.draws ?_ _) | (with_reducible refine Below.setCell ?_ ?_ _) | (refine Below.then ?_ (by with_reducible assumption)) | go_size))
  have hz : (saneW w).heap.size = w.heap.size + 5 := by simp [saneW]
  have hW2 := hW.ext hb56
  have hS := Ends_any (saneH w) saneR 4 W6 hW2
  have hA : ∀ wz, Below W6.heap.size W6 wz → Calls Try.prog 19 #[.slice (saneH w).tA (saneH w).tN (saneH w).tC, .agg #[.int .i64 4, .int .i64 1]] wz fun e w' => e = .returned (.int .i64 0) ∧ Below wz.heap.size wz w' := fun wz hz => by
    have := Accept_any (saneH w).tA (saneH w).tN (saneH w).tC saneR.L 4 1 wz ((hW2.ext hz).rd.t)
    rw [sane_acc] at this
    exact this
  have hBW2 : Below w.heap.size w W6 := Below.then hBW hb56
  have d0 : W6.cell? ⟨w.heap.size + 5, 0, none⟩ = some (.slice (some ⟨w.heap.size + 1, 0, none⟩) 1 1) := by rw [hW6]; simp [saneW, go_sem]
  have d1 : W6.cell? ⟨w.heap.size + 5, 1, none⟩ = some (.int .i64 4) := by rw [hW6]; simp [saneW, go_sem]
  have d2 : W6.cell? ⟨w.heap.size + 5, 2, none⟩ = some (.int .i64 1) := by rw [hW6]; simp [saneW, go_sem]
  have d3 : W6.cell? ⟨w.heap.size + 5, 3, none⟩ = some (.slice (some ⟨w.heap.size + 3, 0, none⟩) 1 1) := by rw [hW6]; simp [saneW, go_sem]
  have d4 : W6.cell? ⟨w.heap.size + 5, 4, none⟩ = some (.slice (some ⟨w.heap.size + 4, 0, none⟩) 1 1) := by rw [hW6]; simp [saneW, go_sem]
  have d5 : W6.cell? ⟨w.heap.size + 5, 5, none⟩ = some (.slice none 0 0) := by rw [hW6]; simp [saneW, go_sem]
  have hz6 : w.heap.size + 5 < W6.heap.size := by rw [hW6]; simp [saneW]
  rw [sane_endN, sane_endE] at hS
  obtain ⟨X, hX⟩ : ∃ X, endX saneR 4 = X := ⟨_, rfl⟩
  have hX0 : X 0 = [3] := by rw [← hX]; exact sane_endX
  rw [hX] at hS
  have HS := Lib.hid hS; have HA := Lib.hid hA; have HB := Lib.hid hBW2; have HX0 := Lib.hid hX0
  have hW6' := hW6
  unfold saneW at hW6'
  unfold runV saneH at HS
  unfold saneH at HA
  simp only [saneR] at HS HA
  clear hW hBW hW2 hS hA hBW2 hX hX0 hb56 hz hW5
  go_enter Try.func24, Try.ntmps24
  go_upto_region 2 with fail
  rw [← hW6']
  clear hW6 hW6'
  go_wp2_with (first
    | (go_at_call 14; (with_reducible refine HS.out.mono ?_); rintro e w1 ⟨a1, c1, rfl, h1, hb1⟩; obtain ⟨xb, xo, xa, xn, xc, rfl, hxb, hxc, hxl, hxR⟩ := h1.row (i := 0) (by decide); have hxn : xn = 1 := (by rw [← hxl, HX0.out]; rfl); subst hxn; obtain ⟨y, yb, yo, rfl, hyb, hyc, hy⟩ := hxR.idx 0 (by decide); have hy3 : y = 3 := (by rw [HX0.out] at hy; simpa using hy.symm); subst hy3; rw [Nat.add_zero] at hxc hyc; have e0 := (hb1.cell (p := ⟨w.heap.size + 5, 0, none⟩) hz6).trans d0; have e1 := (hb1.cell (p := ⟨w.heap.size + 5, 1, none⟩) hz6).trans d1; have e2 := (hb1.cell (p := ⟨w.heap.size + 5, 2, none⟩) hz6).trans d2; have hz7 := Nat.lt_of_lt_of_le hz6 hb1.size; have HB1 := Lib.hid hb1; have B1 := Lib.hid (Below.then HB.out hb1); clear h1 hb1 hxR hxl hy)
    | (go_at_call 19; (with_reducible refine (HA.out _ HB1.out).mono ?_); rintro e w2 ⟨rfl, hb2⟩; have B2 := Lib.hid (Below.then B1.out hb2); clear hb2))
  go_ret
  exact ⟨rfl, B2.out⟩
end Go.Proofs.Ytmahagcghpoekaa
namespace Go.Proofs.Ytmahagcghpoekaa
open Go.RowKit
set_option linter.unusedSimpArgs false
set_option linter.unusedVariables false
theorem acc_of {L : List Ta} {F S : Int} (h : accE L F S = 0) : okB L F S = true ∧ accB L F S = true := by
  unfold accE at h
  split at h
  · rename_i h1
    split at h
    · rename_i h2; exact ⟨h1, h2⟩
    · exact absurd h (by decide)
  · exact absurd h (by decide)
theorem resp_due {R : Rn} (h : runB R = true) (ha : alwR R = (true, 0)) (hacc : accB R.L R.fr R.sl = true) {i : Nat} (hi : i < R.L.length) :
    (0 ≤ respN R.L R.fr R.sl i ∧ respN R.L R.fr R.sl i ≤ (taAt R.L i).dl ∧ (taAt R.L i).dl ≤ 10000) ∧ ∀ (t k : Nat) (e : P2), (evA R i)[k]? = some e → e.1 + respN R.L R.fr R.sl i ≤ t → 0 ≤ endF (plM R t).o i k ∧ endF (plM R t).o i k ≤ e.1 + respN R.L R.fr R.sl i := by
  obtain ⟨hr, hvl, hsup, _⟩ := run_ok h
  have hv := valid_of hvl
  have hf := fair_of h ha
  have hs := (supB_iff.1 hsup)
  have hm := accB_iff.1 hacc i hi
  unfold meetB at hm
  rw [Bool.and_eq_true, decide_eq_true_eq, decide_eq_true_eq] at hm
  obtain ⟨W, hWe, hW1, hW2, hW3, _⟩ := (isWin R.L R.fr R.sl i).some_ (by omega)
  have hdl := hv.dl _ (ta_mem hi)
  have hg := hv.gap _ (ta_mem hi)
  have hj := hv.jit _ (ta_mem hi)
  have hrn : respN R.L R.fr R.sl i = (taAt R.L i).jit + W := by unfold respN; rw [hWe, if_neg (by omega)]
  refine ⟨by omega, fun t k e he hle => ?_⟩
  have := resp_by hr hf hv (by omega) hi hW1 hW3 (by omega) he (v := t) (by omega)
  rw [hrn]; omega
end Go.Proofs.Ytmahagcghpoekaa
namespace Go.Proofs.Ytmahagcghpoekaa
open Go.RowKit
set_option linter.unusedSimpArgs false
set_option linter.unusedVariables false
theorem taAt_nat {L : List Ta} {i : Nat} (h : i < L.length) : L[i]? = some (taAt L i) := by
  rw [List.getElem?_eq_getElem h, taAt_of (List.getElem?_eq_getElem h)]
theorem EasedL.sim {L K : List Ta} (h : EasedL L K) : Sim K L (fun i => i) := by
  have hat : ∀ i, i < K.length → Eased (taAt L i) (taAt K i) := fun i hi => h.2 i _ _ (taAt_nat (by rw [← h.1]; exact hi)) (taAt_nat hi)
  refine ⟨fun i hi => by rw [← h.1]; exact hi, fun i j hij => hij, fun i hi => (hat i hi).pri, fun i hi => (hat i hi).gap.1, fun i hi => (hat i hi).jit.2, fun i hi => (hat i hi).dl.1, fun i hi => (hat i hi).pl, fun i hi k p q hp hq => ?_⟩
  have := (hat i hi).pc k q p hq hp
  exact ⟨this.1, this.2.2⟩
theorem sus_resp {L K : List Ta} {F S G T : Int} (h : EasedL L K) (hv : ValidT L) (hb : ∀ v : Nat, leastN F S v ≤ leastN G T v) (ha : accB L F S = true) : accB K G T = true ∧ ∀ i : Nat, i < L.length → respN K G T i ≤ respN L F S i := by
  have hk := valid_of (h.valid hv)
  have key : ∀ i : Nat, i < K.length → meetB K G T i = true ∧ respN K G T i ≤ respN L F S i := fun i hi => by
    have hm := accB_iff.1 ha i (by rw [← h.1]; exact hi)
    obtain ⟨h1, h2⟩ := Sim.meet h.sim hk hv hi hm
    obtain ⟨h3, h4⟩ := resp_better hb h1
    refine ⟨h3, Int.le_trans h4 ?_⟩
    have hj := h.sim.jit i hi
    unfold meetB at h1 hm
    rw [Bool.and_eq_true, decide_eq_true_eq, decide_eq_true_eq] at h1 hm
    unfold respN
    rw [if_neg (by omega), if_neg (by omega)]; omega
  exact ⟨accB_iff.2 (fun i hi => (key i hi).1), fun i hi => (key i (by rw [h.1]; exact hi)).2⟩
theorem sus_due {L K : List Ta} {F S G T : Int} (h : EasedL L K) (hv : ValidT L) (hs : supB G T = true) (hb : ∀ v : Nat, leastN F S v ≤ leastN G T v) (ha : accB L F S = true) (late : List (List P2)) {i : Nat} (hi : i < L.length) :
    ∀ (t k : Nat) (e : P2), (evA (topR K G T late) i)[k]? = some e → e.1 + respN L F S i ≤ t → 0 ≤ endF (plM (topR K G T late) t).o i k ∧ endF (plM (topR K G T late) t).o i k ≤ e.1 + respN L F S i := by
  obtain ⟨h1, h2⟩ := sus_resp h hv hb ha
  intro t k e he hle
  have hK := h.valid hv
  have h3 := h2 i hi
  have := (resp_due (topR_run hK hs late) (topR_alw hK hs late) h1 (i := i) (by show i < K.length; rw [h.1]; exact hi)).2 t k e he (by show e.1 + respN K G T i ≤ t; omega)
  have h4 : endF (plM (topR K G T late) t).o i k ≤ e.1 + respN K G T i := this.2
  exact ⟨this.1, by omega⟩
theorem resp_bd {L : List Ta} {F S : Int} (hv : ValidT L) (ha : accB L F S = true) {i : Nat} (hi : i < L.length) : 0 ≤ respN L F S i ∧ respN L F S i ≤ 10000 := by
  have hm := accB_iff.1 ha i hi
  unfold meetB at hm
  rw [Bool.and_eq_true, decide_eq_true_eq, decide_eq_true_eq] at hm
  have h1 := hv.dl _ (ta_mem hi)
  have h2 := hv.gap _ (ta_mem hi)
  have h3 := hv.jit _ (ta_mem hi)
  unfold respN
  rw [if_neg (by omega)]; omega
end Go.Proofs.Ytmahagcghpoekaa
namespace Go.Proofs.Ytmahagcghpoekaa
open Go.RowKit
set_option linter.unusedSimpArgs false
set_option linter.unusedVariables false
theorem mask1023 (x : Int) : ∃ y, bits .and .i64 x 1023 = y ∧ 0 ≤ y ∧ y ≤ 1023 := ⟨_, rfl, mask_bd x 1023 (by omega)⟩
/-- by how much a task is made easier -/
structure E4 where
  x0 : Int
  x1 : Int
  x2 : Int
  x3 : Int
deriving Inhabited
def enc4e (u : E4) : List Value := [.int .i64 u.x0, .int .i64 u.x1, .int .i64 u.x2, .int .i64 u.x3]
theorem Rd.ease4 {w : World} {a : Option Addr} {n : Nat} {xs : List E4} (h : Rd w a n 4 (xs.map enc4e)) (k : Nat) (hk : k < n) : ∃ (u : E4) (b off : Nat), a = some ⟨b, off, none⟩ ∧ b < w.heap.size ∧
    w.cell? ⟨b, off + k * 4, none⟩ = some (.int .i64 u.x0) ∧ w.cell? ⟨b, off + k * 4 + 1, none⟩ = some (.int .i64 u.x1) ∧ w.cell? ⟨b, off + k * 4 + 2, none⟩ = some (.int .i64 u.x2) ∧ w.cell? ⟨b, off + k * 4 + 3, none⟩ = some (.int .i64 u.x3) := by
  have hl : k < xs.length := by rw [h.length]; exact hk
  obtain ⟨b, off, rfl, hlt, hc⟩ := h.at_ (by omega)
  have c0 := hc k (by simpa using hl) 0 (by omega)
  have c1 := hc k (by simpa using hl) 1 (by omega)
  have c2 := hc k (by simpa using hl) 2 (by omega)
  have c3 := hc k (by simpa using hl) 3 (by omega)
  simp [enc4e] at c0 c1 c2 c3
  exact ⟨xs[k], b, off, rfl, hlt, c0, c1, c2, c3⟩
set_option maxRecDepth 100000 in
set_option maxHeartbeats 8000000 in
theorem easeB_any (a : Option Addr) (n c : Nat) (L : List Ta) (b : Option Addr) (m d : Nat) (xs : List E4) (w : World) (hL : RdL w a n L) (hN : NilOk a n c) (hv : ValidT L) (hX : Rd w b m 4 (xs.map enc4e)) :
    Calls Try.prog 21 #[.slice a n c, .slice b m d] w (OutEased w n L) := by
  have hn : n ≤ 5 := by rw [← hL.length]; exact hv.r.len
  have hp : ∀ t ∈ L, t.pcs.length ≤ 1000 := fun t ht => by have := (hv.r.pcs t ht).2; omega
  have HR := Lib.hid hL; have HP := Lib.hid hp; have HV := Lib.hid hv; have HX := Lib.hid hX; have HN := Lib.hid hN
  have hms := hX.small
  clear hL hp hv hX hN
  go_enter Try.func21, Try.ntmps21
  go_wp2_with (go_at_call 50; (with_reducible refine (copied_M _ _ _ L (by omega) HP.out _ HR.out HN.out).mono ?_); rintro e w1 ⟨a1, c1, g1, rfl, hm1, hg1, hb1⟩; have HM1 := Lib.hid hm1; have HG1 := Lib.hid hg1; have B1 := Lib.hid hb1; clear hm1 hb1 hg1)
  go_loopw [6] (fun i wr => ∃ (k : Nat) (g : List TaV), k ≤ n ∧ i = .int .i64 k ∧ MutT w.heap.size wr a1 n c1 g ∧ EasedL L (g.map TaV.ta) ∧ Below w.heap.size w wr) (fun i _ => n - (intOf i).toNat)
  case atStart => exact ⟨0, g1, Nat.zero_le _, rfl, HM1.out, by rw [HG1.out]; exact EasedL.refl HV.out, B1.out⟩
  case round =>
    obtain ⟨k, g, hk, rfl, hm, he, hB⟩ := hrel
    have HM := Lib.hid hm; have HE := Lib.hid he; have HB := Lib.hid hB
    have hgl := hm.rd.length
    clear hm he hB HM1 HG1 B1
    by_cases hlt : k < n
    · by_cases hlm : k < m
      · obtain ⟨q, rfl, hq1, hq2⟩ := HM.out.addr (by omega)
        obtain ⟨x, b1, o1, rfl, hb1, x0, x1, x2, x3⟩ := (HX.out.ext HB.out).ease4 k hlm
        obtain ⟨t, ht⟩ : ∃ t, g[k]? = some t := ⟨_, List.getElem?_eq_getElem (by omega)⟩
        obtain ⟨c0, f0⟩ := HM.out.at_ ht 0 (by omega)
        obtain ⟨c1', f1⟩ := HM.out.at_ ht 1 (by omega)
        obtain ⟨c2, f2⟩ := HM.out.at_ ht 2 (by omega)
        obtain ⟨c3, f3⟩ := HM.out.at_ ht 3 (by omega)
        obtain ⟨c4, f4⟩ := HM.out.at_ ht 4 (by omega)
        obtain ⟨c5, f5⟩ := HM.out.at_ ht 5 (by omega)
        obtain ⟨pri, dl, fi, ga, ji, ta, tn, tc, ps⟩ := t
        simp [encTa] at c0 c1' c2 c3 c4 c5
        obtain ⟨y0, y1, y2, y3⟩ := x
        simp only [] at x0 x1 x2 x3
        obtain ⟨m0, e0, hm0⟩ := mask255 y0
        obtain ⟨m1, e1, hm1⟩ := mask1023 y1
        obtain ⟨m3, e3, hm3⟩ := mask1023 y2
        obtain ⟨m4, e4, hm4⟩ := mask1023 y3
        have HT := Lib.hid ht
        clear ht
        have hvt : (0 ≤ ga ∧ ga ≤ 10000) ∧ (0 ≤ fi ∧ fi ≤ 10000) ∧ (0 ≤ ji ∧ ji ≤ 10000) ∧ (0 ≤ dl ∧ dl ≤ 10000) ∧ ps.length ≤ 8 ∧ ∀ p ∈ ps, 1 ≤ p.1 ∧ p.1 ≤ 200 := EasedL.bd HE.out HV.out (u := TaV.ta ⟨pri, dl, fi, ga, ji, ta, tn, tc, ps⟩) (List.mem_map_of_mem (List.mem_of_getElem? HT.out))
        obtain ⟨hv1, hv2, hv3, hv4, hv5, hv6⟩ := hvt
        have HV6 := Lib.hid hv6
        clear hv6
        have s3 : IntKind.i64.wrap (ga + m3) = ga + m3 := IntWalk.i64_in _ (by omega)
        have s4 : IntKind.i64.wrap (ji - m4) = ji - m4 := IntWalk.i64_in _ (by omega)
        have s1 : IntKind.i64.wrap (dl + m1) = dl + m1 := IntWalk.i64_in _ (by omega)
        obtain ⟨G, hG⟩ : ∃ x, min 10000 (ga + m3) = x := ⟨_, rfl⟩
        obtain ⟨J, hJ⟩ : ∃ x, max 0 (ji - m4) = x := ⟨_, rfl⟩
        obtain ⟨D, hD⟩ : ∃ x, min G (dl + m1) = x := ⟨_, rfl⟩
        have n1 : ¬ b1 = wr.heap.size := by omega
        have n2 : ¬ q = wr.heap.size := by omega
        go_wp2_with fail
        go_region
        go_wp2_with fail
        go_region
        go_wp2_with fail
        go_region
        go_wp2_with fail
        have hlow : ∀ x o, ta = some ⟨x, o, none⟩ → x < wr.heap.size := fun x o e => (PcO.low (HM.out.own.ok _ (List.mem_of_getElem? HT.out)) x (by unfold TaV.blk; simp only []; rw [e]; rfl)).2
        have HLOW := Lib.hid hlow
        clear hlow
        have hk1 := HT.out
        have M1 := HM.out.set (t' := ⟨pri, dl, fi, G, ji, ta, tn, tc, ps⟩) hk1 3 (by omega) (.int .i64 G) rfl rfl rfl rfl rfl
        have E1 := HE.out.setV ⟨pri, dl, fi, G, ji, ta, tn, tc, ps⟩ hk1 (fun t h => by subst hG; exact h.gap' (m := m3) hm3.1)
        have hk2 := set_get (y := (⟨pri, dl, fi, G, ji, ta, tn, tc, ps⟩ : TaV)) hk1
        have M2 := M1.set (t' := ⟨pri, dl, fi, G, J, ta, tn, tc, ps⟩) hk2 4 (by omega) (.int .i64 J) rfl rfl rfl rfl rfl
        have E2 := E1.setV ⟨pri, dl, fi, G, J, ta, tn, tc, ps⟩ hk2 (fun t h => by subst hJ; exact h.jit' (m := m4) hm4.1)
        have hk3 := set_get (y := (⟨pri, dl, fi, G, J, ta, tn, tc, ps⟩ : TaV)) hk2
        have M4 := M2.set (t' := ⟨pri, D, fi, G, J, ta, tn, tc, ps⟩) hk3 1 (by omega) (.int .i64 D) rfl rfl rfl rfl rfl
        have E4 := E2.setV ⟨pri, D, fi, G, J, ta, tn, tc, ps⟩ hk3 (fun t h => by subst hD; exact h.dl' (m := m1) hm1.1)
        have hk5 := set_get (y := (⟨pri, D, fi, G, J, ta, tn, tc, ps⟩ : TaV)) hk3
        have hpl : ps.length = tn := by have := (HM.out.rd.ok _ (List.mem_of_getElem? hk1)).1.length; simpa using this
        have M4' : MutT w.heap.size (((wr.setCell ⟨q, k * 6 + 2 + 1, none⟩ (.int .i64 G)).setCell ⟨q, k * 6 + 2 + 2, none⟩ (.int .i64 J)).setCell ⟨q, k * 6 + 1, none⟩ (.int .i64 D)) (some ⟨q, 0, none⟩) n c1 _ := M4
        have HBW' : Below w.heap.size w (((wr.setCell ⟨q, k * 6 + 2 + 1, none⟩ (.int .i64 G)).setCell ⟨q, k * 6 + 2 + 2, none⟩ (.int .i64 J)).setCell ⟨q, k * 6 + 1, none⟩ (.int .i64 D)) := ((HB.out.setCell hq1 _).setCell hq1 _).setCell hq1 _
        have HM4 := Lib.hid M4'; have HE4 := Lib.hid E4; have HK5 := Lib.hid hk5
        have HBW := Lib.hid HBW'
        clear M4' HBW' hG hJ hD M1 M2 M4 E1 E2 E4 hk1 hk2 hk3 hk5 HT
        rename World => W1
        go_loopw [8] (fun i wr => ∃ (j : Nat) (g : List TaV) (t : TaV), j ≤ tn ∧ i = .int .i64 j ∧ MutT w.heap.size wr (some ⟨q, 0, none⟩) n c1 g ∧ EasedL L (g.map TaV.ta) ∧ g[k]? = some t ∧ t.a = ta ∧ t.n = tn ∧ t.c = tc ∧ wr.cell? ⟨W1.heap.size, 0, none⟩ = some (.int .i64 y0) ∧ W1.heap.size < wr.heap.size ∧ Below w.heap.size w wr) (fun i _ => tn - (intOf i).toNat)
        case atStart =>
          refine ⟨0, _, _, Nat.zero_le _, rfl, HM4.out.ext ?_, HE4.out, HK5.out, rfl, rfl, rfl, by simp [go_sem], by simp, Below.then HBW.out ?_⟩ <;> (repeat' (first | (with_reducible exact Below.refl _ _) | (with_reducible assumption) | (with_reducible refine Below.alloc ?_ ?_ _) | (with_reducible refine Below.drew ?_) | (with_reducible refine Below.draws ?_ _) | (with_reducible refine Below.setCell ?_ ?_ _) | (refine Below.then ?_ (by with_reducible assumption)) | go_size))
        case round =>
          obtain ⟨j, g2, t2, hj, rfl, hm, he, hk2, ha2, hn2, hc2, hbx, hbl, hB⟩ := hrel
          have HM2 := Lib.hid hm; have HE2 := Lib.hid he; have HB2 := Lib.hid hB; have HK2 := Lib.hid hk2
          clear hm he hB HM4 HE4 HK5 c0 c1' c2 c3 c4 c5 f0 f1 f2 f3 f4 f5 x0 x1 x2 x3
          obtain ⟨p2, d2, fi2, ga2, ji2, ta', tn', tc', ps2⟩ := t2
          simp only [] at ha2 hn2 hc2
          subst ha2; subst hn2; subst hc2
          obtain ⟨z5, g5⟩ := HM2.out.at_ HK2.out 5 (by omega)
          simp [encTa] at z5
          have hq2' : q < wr.heap.size := by obtain ⟨q', e, _, h⟩ := HM2.out.addr (by omega); simp at e; omega
          by_cases hjt : j < tn'
          · obtain ⟨pq, rfl, hp1, hp2, hpb⟩ := (HM2.out.own.ok _ (List.mem_of_getElem? HK2.out)).addr (show 0 < tn' by omega)
            have hl2 : ps2.length = tn' := by have := (HM2.out.rd.ok _ (List.mem_of_getElem? HK2.out)).1.length; simpa using this
            obtain ⟨p, hpj⟩ : ∃ p, ps2[j]? = some p := ⟨_, List.getElem?_eq_getElem (by omega)⟩
            obtain ⟨d0, e0'⟩ := HM2.out.piece HK2.out rfl hpj 0 (by omega)
            obtain ⟨d1, e1'⟩ := HM2.out.piece HK2.out rfl hpj 1 (by omega)
            have hpr : 1 ≤ p.1 ∧ p.1 ≤ 200 := (EasedL.bd HE2.out HV.out (u := TaV.ta ⟨p2, d2, fi2, ga2, ji2, some ⟨pq, 0, none⟩, tn', tc', ps2⟩) (List.mem_map_of_mem (List.mem_of_getElem? HK2.out))).2.2.2.2.2 p (List.mem_of_getElem? hpj)
            obtain ⟨pt, pl⟩ := p
            simp [enc2] at d0 d1
            simp only [Nat.add_zero] at e0'
            simp only [] at hpr
            have s0 : IntKind.i64.wrap (pt - m0) = pt - m0 := IntWalk.i64_in _ (by omega)
            have HPJ := Lib.hid hpj
            clear hpj
            obtain ⟨T, hT⟩ : ∃ x, max 1 (pt - m0) = x := ⟨_, rfl⟩
            have n3 : ¬ pq = W1.heap.size := by
              have := HLOW.out _ _ rfl
              omega
            go_wp2_with fail
            go_region
            go_wp2_with fail
            go_roundw
            case rel =>
              have M : MutT w.heap.size (wr.setCell ⟨pq, j * 2, none⟩ (.int .i64 T)) (some ⟨q, 0, none⟩) n c1 (g2.set k ⟨p2, d2, fi2, ga2, ji2, some ⟨pq, 0, none⟩, tn', tc', ps2.set j (T, pl)⟩) := HM2.out.setP (t' := ⟨p2, d2, fi2, ga2, ji2, some ⟨pq, 0, none⟩, tn', tc', ps2.set j (T, pl)⟩) HK2.out rfl HPJ.out 0 (by omega) (.int .i64 T) (p' := (T, pl)) rfl rfl
              have E := HE2.out.setV ⟨p2, d2, fi2, ga2, ji2, some ⟨pq, 0, none⟩, tn', tc', ps2.set j (T, pl)⟩ HK2.out (fun t h => by subst hT; exact h.pc' (m := m0) hm0.1 HPJ.out)
              refine ⟨j + 1, _, ⟨p2, d2, fi2, ga2, ji2, some ⟨pq, 0, none⟩, tn', tc', ps2.set j (T, pl)⟩, by omega, by go_num, M.ext ?_, E, set_get HK2.out, rfl, rfl, rfl, ?_, ?_, ?_⟩
              · (repeat' (first | (with_reducible exact Below.refl _ _) | (with_reducible assumption) | (with_reducible refine Below.alloc ?_ ?_ _) | (with_reducible refine Below.drew ?_) | (with_reducible refine Below.draws ?_ _) | (with_reducible refine Below.setCell ?_ ?_ _) | (refine Below.then ?_ (by with_reducible assumption)) | go_size))
              · simp [go_sem, *]
              · simpa using hbl
              · exact (HB2.out.setCell hp1 _).drew
            case measure => simp [intOf]; omega
          · go_wp2_with fail
            go_roundw
            case rel => exact ⟨k + 1, g2, by omega, by go_num, HM2.out, HE2.out, HB2.out⟩
            case measure => simp [intOf]; omega
      · go_wp2_with fail
        go_ret
        exact ⟨_, _, _, rfl, HM.out.rdL, HE.out, HB.out⟩
    · go_wp2_with fail
      go_ret
      exact ⟨_, _, _, rfl, HM.out.rdL, HE.out, HB.out⟩
section
open Go.ChangeShapes Go.WideShapes Go.ChangeAt Go.RowKit Go.Joins Go.Deep
set_option maxRecDepth 100000 in
theorem opensB_ease4 : OpensB Try.prog 99 (fun _ cs (y : E4) => cs = enc4e y ∧ True) := by
  intro H enc w base spare held fuel cs x h _
  obtain ⟨xs, n, _, hx, hl, hxl, hf⟩ := DataW.trod_struct Try.underlying99 h
  have hc : Try.prog.cellsOf 99 = 4 := by kernel_rfl
  have hc1 : Try.prog.cellsOf 3 = 1 := by kernel_rfl
  rw [hc] at hl
  match cs, hl, xs, hxl with
  | [u0, u1, u2, u3], _, [x0, x1, x2, x3], _ =>
    have g0 := hf 0 _ rfl
    have g1 := hf 1 _ rfl
    have g2 := hf 2 _ rfl
    have g3 := hf 3 _ rfl
    simp [hc1] at g0 g1 g2 g3
    obtain ⟨p, e0, _⟩ := DataW.trod_int Try.underlying3 g0
    obtain ⟨l, e1, _⟩ := DataW.trod_int Try.underlying3 g1
    obtain ⟨m, e2, _⟩ := DataW.trod_int Try.underlying3 g2
    obtain ⟨o, e3, _⟩ := DataW.trod_int Try.underlying3 g3
    simp at e0 e1 e2 e3
    subst e0; subst e1; subst e2; subst e3
    exact ⟨⟨p, l, m, o⟩, rfl, trivial⟩
/-- what TopSustains is handed beside the tasks -/
structure SuX where
  F : Int
  S : Int
  G : Int
  T : Int
  bA : Option Addr
  bN : Nat
  bC : Nat
  by_ : List E4
  lA : Option Addr
  lN : Nat
  lC : Nat
  late : List (List P2)
  t : Int
def SuX.cs (x : SuX) : List Value := [.int .i64 x.F, .int .i64 x.S, .int .i64 x.G, .int .i64 x.T, .slice x.bA x.bN x.bC, .slice x.lA x.lN x.lC, .int .i64 x.t]
structure SuX.ok (x : SuX) (w : World) : Prop where
  b : Rd w x.bA x.bN 4 (x.by_.map enc4e)
  l : EvL w x.lA x.lN x.late
theorem SuX.ok.ext {x : SuX} {w w' : World} (h : x.ok w) (hb : Below w.heap.size w w') : x.ok w' := ⟨h.b.ext hb, h.l.ext hb⟩
set_option maxRecDepth 100000 in
theorem opensB_su : OpensB Try.prog 55 (fun w cs (y : SuX) => cs = y.cs ∧ y.ok w) := by
  intro H enc w base spare held fuel cs x h hw
  obtain ⟨xs, n, _, hx, hl, hxl, hf⟩ := DataW.trod_struct Try.underlying55 h
  have hc : Try.prog.cellsOf 55 = 7 := by kernel_rfl
  have hc1 : Try.prog.cellsOf 24 = 2 := by kernel_rfl
  have hc2 : Try.prog.cellsOf 53 = 1 := by kernel_rfl
  have hc3 : Try.prog.cellsOf 25 = 1 := by kernel_rfl
  have hc4 : Try.prog.cellsOf 3 = 1 := by kernel_rfl
  rw [hc] at hl
  rw [hx] at hw
  simp only [DataW.weights, Try.underlying55] at hw
  match cs, hl, xs, hxl with
  | [u0, u1, u2, u3, u4, u5, u6], _, [x0, x1, x2, x3, x4], _ =>
    have g0 := hf 0 _ rfl
    have g1 := hf 1 _ rfl
    have g2 := hf 2 _ rfl
    have g3 := hf 3 _ rfl
    have g4 := hf 4 _ rfl
    simp [hc1, hc2, hc3, hc4] at g0 g1 g2 g3 g4
    obtain ⟨y, q0⟩ := opensB_sup g0 (fun q hq => hw q (by simp [DataW.weightsEach]; exact .inl hq))
    obtain ⟨z, q1⟩ := opensB_sup g1 (fun q hq => hw q (by simp [DataW.weightsEach]; exact .inr (.inl hq)))
    obtain ⟨bs, bA, bN, bC, q2, r2, _, _, _⟩ := opensB_slice (en := enc4e) (k := 4) (ok := fun _ _ => True) Try.underlying53 (by kernel_rfl) (by decide) opensB_ease4 g2 (fun q hq => hw q (by simp [DataW.weightsEach]; exact .inr (.inr (.inl hq))))
    obtain ⟨vs, eA, eN, eC, q3, r3, k3, _, _⟩ := opensB_slice (en := encV) (k := 1) (ok := fun w v => Rd w v.a v.n 2 (v.es.map enc2) ∧ v.n ≤ 281474976710656) Try.underlying25 (by kernel_rfl) (by decide) opensB_row g3 (fun q hq => hw q (by simp [DataW.weightsEach]; exact .inr (.inr (.inr (.inl hq)))))
    obtain ⟨tt, q4, _⟩ := DataW.trod_int Try.underlying3 g4
    simp only [List.cons.injEq, and_true] at q2 q3 q4
    have q0' : u0 = .int .i64 y.1 ∧ u1 = .int .i64 y.2 := by simpa [enc2] using q0
    have q1' : u2 = .int .i64 z.1 ∧ u3 = .int .i64 z.2 := by simpa [enc2] using q1
    clear q0 q1
    obtain ⟨q0, q5⟩ := q0'
    obtain ⟨q1, q6⟩ := q1'
    subst q0; subst q1; subst q2; subst q3; subst q4; subst q5; subst q6
    exact ⟨⟨y.1, y.2, z.1, z.2, bA, bN, bC, bs, eA, eN, eC, vs.map EvV.es, tt⟩, rfl, ⟨r2, ⟨vs, r3, fun v hv => (k3 v hv).1, rfl⟩⟩⟩
set_option maxRecDepth 100000 in
theorem open_su {H : Type} {enc : TypeId × Value → H} {w : World} {base b0 : Nat} {spare : Nat → Bool} {held : Bool} {r : Reach} {v : Value} {d : DataW H} {ps : List MemPlace}
    (hv : Value.okWide Try.prog w r b0 55 v) (h : DataW.Trod enc Try.prog w base spare held 55 v d ps) (hw : ∀ n ∈ d.weights Try.prog 55, n ≤ reachBytes) :
    ∃ (x : SuX), v = .agg x.cs.toArray ∧ x.ok w := by
  simp only [Value.okWide, Try.underlying55] at hv
  obtain ⟨cs, rfl, _, _⟩ := hv
  obtain ⟨fuel, hf⟩ := h
  obtain ⟨x, e, h1⟩ := opensB_su hf hw
  obtain ⟨l⟩ := cs
  simp only [Value.cells] at e
  refine ⟨x, ?_, h1⟩
  rw [show l = x.cs from e]
end
end Go.Proofs.Ytmahagcghpoekaa
