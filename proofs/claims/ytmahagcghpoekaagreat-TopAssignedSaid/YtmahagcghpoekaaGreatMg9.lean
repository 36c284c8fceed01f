/- The contracts of Valid and Least of supply and of its reference. The conditions: numbers in range where named. The contracts of blockers, Blockers, Blocking of the program. The conditions: the tasks read as named. The contracts of Valid and cost of response and of its reference. The conditions: the tasks read as named. -/
import Derived.Test.YtmahagcghpoekaaGreatMg8
import Derived.Test.YtmahagcghpoekaaGreatMg1
import Derived.Deep.RegionHeld3
import Derived.Test.YtmahagcghpoekaaGreatMg6
namespace Go.Proofs.YtmahagcghpoekaaGreat
open Go.RowKit
set_option linter.unusedSimpArgs false
set_option linter.unusedVariables false
theorem aheadS_parts {F S : Int} (h1 : 1 ≤ F) (h2 : 0 ≤ S ∧ S ≤ F - 1) {t : Int} (h0 : 0 ≤ t) : 0 ≤ t / F ∧ t / F ≤ t ∧ 0 ≤ t / F * (F - S) ∧ t / F * (F - S) ≤ t ∧ 0 ≤ t % F ∧ t % F < F := by
  have e := Int.emod_add_mul_ediv t F
  have a := Int.ediv_nonneg (a := t) (b := F) h0 (by omega)
  have b := Int.ediv_le_self F h0
  have c := Int.emod_nonneg t (show F ≠ 0 by omega)
  have d := Int.emod_lt_of_pos t (show 0 < F by omega)
  have f := Int.mul_nonneg a (show 0 ≤ F - S by omega)
  have g : t / F * (F - S) ≤ t / F * F := Int.mul_le_mul_of_nonneg_left (by omega) a
  rw [Int.mul_comm (t / F) F] at g
  omega
theorem sahead_any (F S t : Int) (w : World) (h1 : 1 ≤ F ∧ F ≤ 60) (h2 : 0 ≤ S ∧ S ≤ F - 1) (h3 : 0 ≤ t ∧ t ≤ 2000000) :
    Calls Tryz.prog 120 #[.agg #[.int .i64 F, .int .i64 S, .int .i64 (F - S)], .int .i64 t] w fun e w' => e = .returned (.int .i64 (aheadS F S t)) ∧ Below w.heap.size w w' := by
  obtain ⟨q1, q2, q3, q4, q5, q6⟩ := aheadS_parts (F := F) (S := S) h1.1 h2 h3.1
  have hF0 : (F == 0) = false := by simp; omega
  go_enter Tryz.func120, Tryz.ntmps120
  go_wp2_with (refine wp_region_later_lit (by kernel_rfl) (by kernel_rfl) ?_; (repeat (go_big_quiet_step (fail))); refine wpQuiet_nil ?_; intro w3 hb3)
  go_ret
  exact ⟨ret_int (by unfold aheadS; omega), Below.then (Below.alloc (Below.refl _ _) (Nat.le_refl _) _) hb3⟩
theorem program_any (F S : Int) (w : World) (h1 : 1 ≤ F ∧ F ≤ 60) (h2 : 0 ≤ S ∧ S ≤ F - 1) :
    Calls Tryz.prog 102 #[.agg #[.int .i64 F, .int .i64 S]] w fun e w' => e = .returned (.agg #[.int .i64 F, .int .i64 S, .int .i64 (F - S)]) ∧ Below w.heap.size w w' := by
  go_enter Tryz.func102, Tryz.ntmps102
  go_wp2
  refine bodyPost_ret (v := .agg #[.int .i64 F, .int .i64 S, .int .i64 (F - S)]) (by simp [results, Tryz.results102, go_sem]) rfl ⟨rfl, by (repeat' (first | (with_reducible exact Below.refl _ _) | (with_reducible assumption) | (with_reducible refine Below.alloc ?_ ?_ _) | (with_reducible refine Below.drew ?_) | (with_reducible refine Below.draws ?_ _) | (with_reducible refine Below.setCell ?_ ?_ _) | (refine Below.then ?_ (by with_reducible assumption)) | go_size))⟩
theorem diff_parts {F S : Int} (h1 : 1 ≤ F ∧ F ≤ 60) (h2 : 0 ≤ S ∧ S ≤ F - 1) {t : Int} (h0 : 0 ≤ t) : 0 ≤ aheadS F S t ∧ aheadS F S t ≤ t := by
  obtain ⟨k, rfl⟩ := Int.eq_ofNat_of_zero_le h0
  exact aheadS_bd h2.1 (by omega) k
/-- the closure that tells how much lies in a window from a tick on -/
theorem winf_any (F S v : Int) (k : Nat) (p q : Nat) (w : World) (h1 : 1 ≤ F ∧ F ≤ 60) (h2 : 0 ≤ S ∧ S ≤ F - 1) (h3 : 0 ≤ v ∧ v ≤ 1000000) (hk : k ≤ 60)
    (hp : w.cell? ⟨p, 0, none⟩ = some (.int .i64 F) ∧ w.cell? ⟨p, 1, none⟩ = some (.int .i64 S) ∧ w.cell? ⟨p, 2, none⟩ = some (.int .i64 (F - S))) (hq : w.cell? ⟨q, 0, none⟩ = some (.int .i64 v)) (hpw : p < w.heap.size) (hqw : q < w.heap.size) :
    Calls Tryz.prog 119 #[.int .i64 (k : Int), .pointer (some ⟨p, 0, none⟩), .pointer (some ⟨q, 0, none⟩)] w fun e w' => e = .returned (.int .i64 (diffS F S v k)) ∧ Below w.heap.size w w' := by
  obtain ⟨p0, p1, p2⟩ := hp
  have a1 := diff_parts h1 h2 (t := (k : Int)) (by omega)
  have a2 := diff_parts h1 h2 (t := (k : Int) + v) (by omega)
  unfold diffS
  go_enter Tryz.func119, Tryz.ntmps119
  go_wp2_with (refine wp_region_later_lit (by kernel_rfl) (by kernel_rfl) ?_; (repeat (go_big_quiet_step ((go_at_call 120; first | (with_reducible exact later_of (sahead_any F S ((k : Int) + v) _ h1 h2 (by omega))) | (with_reducible exact later_of (sahead_any F S (k : Int) _ h1 h2 (by omega))))))); refine wpQuiet_nil ?_; intro w3 hb3)
  go_ret
  exact ⟨rfl, hb3⟩
/-- what the closure has captured -/
structure WinC (F S v : Int) (p q : Nat) (w : World) : Prop where
  c0 : w.cell? ⟨p, 0, none⟩ = some (.int .i64 F)
  c1 : w.cell? ⟨p, 1, none⟩ = some (.int .i64 S)
  c2 : w.cell? ⟨p, 2, none⟩ = some (.int .i64 (F - S))
  cq : w.cell? ⟨q, 0, none⟩ = some (.int .i64 v)
  hp : p < w.heap.size
  hq : q < w.heap.size
theorem WinC.ext {F S v : Int} {p q : Nat} {w w' : World} (h : WinC F S v p q w) (hb : Below w.heap.size w w') : WinC F S v p q w' :=
  ⟨(hb.cell (p := ⟨p, 0, none⟩) h.hp).trans h.c0, (hb.cell (p := ⟨p, 1, none⟩) h.hp).trans h.c1, (hb.cell (p := ⟨p, 2, none⟩) h.hp).trans h.c2, (hb.cell (p := ⟨q, 0, none⟩) h.hq).trans h.cq, Nat.lt_of_lt_of_le h.hp hb.size, Nat.lt_of_lt_of_le h.hq hb.size⟩
theorem z0 : (0 : Int) = ((0 : Nat) : Int) := rfl
theorem winf_is {F S v x kv : Int} {k p q : Nat} {w : World} (hkv : kv = (k : Int)) (h1 : 1 ≤ F ∧ F ≤ 60) (h2 : 0 ≤ S ∧ S ≤ F - 1) (h3 : 0 ≤ v ∧ v ≤ 1000000) (hk : k ≤ 60) (hc : WinC F S v p q w) (hx : diffS F S v k = x) :
    Calls Tryz.prog 119 #[.int .i64 kv, .pointer (some ⟨p, 0, none⟩), .pointer (some ⟨q, 0, none⟩)] w fun e w' => e = .returned (.int .i64 x) ∧ Below w.heap.size w w' := by
  subst hkv; subst hx; exact winf_any F S v k p q w h1 h2 h3 hk ⟨hc.c0, hc.c1, hc.c2⟩ hc.cq hc.hp hc.hq
theorem less_is {a b : Int} {x : Bool} {w : World} (h : decide (a < b) = x) : Calls Tryz.prog 105 #[.int .i64 a, .int .i64 b] w fun e w' => e = .returned (.bool x) ∧ w = w' := by
  go_enter Tryz.func105, Tryz.ntmps105
  go_wp2
  go_ret
  exact ⟨rfl, rfl⟩
theorem window_any (F S v : Int) (w : World) :
    Calls Tryz.prog 104 #[.agg #[.int .i64 F, .int .i64 S, .int .i64 (F - S)], .int .i64 v] w fun e w' => ∃ p q, e = .returned (.func (.func 119) #[] #[.pointer (some ⟨p, 0, none⟩), .pointer (some ⟨q, 0, none⟩)]) ∧ WinC F S v p q w' ∧ Below w.heap.size w w' := by
  go_enter Tryz.func104, Tryz.ntmps104
  go_wp2
  go_ret
  exact ⟨_, _, rfl, ⟨by simp [go_sem], by simp [go_sem], by simp [go_sem], by simp [go_sem], by simp; omega, by simp⟩, by (repeat' (first | (with_reducible exact Below.refl _ _) | (with_reducible assumption) | (with_reducible refine Below.alloc ?_ ?_ _) | (with_reducible refine Below.drew ?_) | (with_reducible refine Below.draws ?_ _) | (with_reducible refine Below.setCell ?_ ?_ _) | (refine Below.then ?_ (by with_reducible assumption)) | go_size))⟩
set_option maxHeartbeats 1000000 in
theorem extreme_any (F S v : Int) (p q : Nat) (w : World) (h1 : 1 ≤ F ∧ F ≤ 60) (h2 : 0 ≤ S ∧ S ≤ F - 1) (h3 : 0 ≤ v ∧ v ≤ 1000000) (hc : WinC F S v p q w) :
    Calls Tryz.prog 103 #[.agg #[.int .i64 F, .int .i64 S, .int .i64 (F - S)], .func (.func 119) #[] #[.pointer (some ⟨p, 0, none⟩), .pointer (some ⟨q, 0, none⟩)], .func (.func 105) #[] #[]] w fun e w' => e = .returned (.int .i64 (leastN F S v)) ∧ Below w.heap.size w w' := by
  obtain ⟨f, rfl⟩ := Int.eq_ofNat_of_zero_le (show 0 ≤ F by omega)
  obtain ⟨x0, hx0⟩ : ∃ x, diffS f S v 0 = x := ⟨_, rfl⟩
  obtain ⟨R, hR⟩ : ∃ R, leastN f S v = R := ⟨_, rfl⟩
  obtain ⟨u, rfl⟩ := Int.eq_ofNat_of_zero_le h3.1
  have HST : Hid (leastFrom f S u (f - 1) 1 x0 = R) := Lib.hid (by rw [← hR, ← hx0, ← least_from_first h2.1 (by omega) u]; rfl)
  rw [hR]
  have HX0 := Lib.hid hx0
  have HC := Lib.hid (hc.ext (Below.alloc (Below.refl _ _) (Nat.le_refl _) (.cells #[.int .i64 f, .int .i64 S, .int .i64 (f - S)] 123)))
  have hf60 : f ≤ 60 := by omega
  have hf1 : 1 ≤ f := by omega
  clear hc hx0 hR
  go_enter Tryz.func103, Tryz.ntmps103
  go_wp2_with (go_at_call 119; (with_reducible refine (winf_is (k := 0) z0 h1 h2 h3 (by omega) HC.out HX0.out).mono ?_); rintro e w1 ⟨rfl, hb1⟩; have B1 := Lib.hid hb1; have c0 := (hb1.cell (p := ⟨w.heap.size, 0, none⟩) (by simp)).trans (show _ = some (.int .i64 (f : Int)) by simp [go_sem]); have hz := hb1.size; clear hb1)
  go_loopw [7, 8] (fun v i wr => ∃ (k : Nat) (m : Int), 1 ≤ k ∧ k ≤ f ∧ v = .int .i64 m ∧ i = .int .i64 k ∧ leastFrom f S u (f - k) k m = R ∧ Below w1.heap.size w1 wr) (fun _ i _ => f - (intOf i).toNat)
  case atStart => exact ⟨1, x0, Nat.le_refl _, hf1, rfl, rfl, HST.out, Below.refl _ _⟩
  case round =>
    clear HST
    obtain ⟨k, m, hk1, hk, rfl, rfl, he, hB⟩ := hrel
    have HE := Lib.hid he; have HB := Lib.hid hB
    have d0 := (hB.cell (p := ⟨w.heap.size, 0, none⟩) (by simp at hz; simp only []; omega)).trans c0
    clear he hB
    by_cases hlt : k < f
    · obtain ⟨x, hx⟩ : ∃ x, diffS f S u k = x := ⟨_, rfl⟩
      have HX := Lib.hid hx
      have hE := HE.out
      rw [show f - k = (f - (k + 1)) + 1 by omega, leastFrom, hx] at hE
      clear hx
      by_cases hxm : x < m
      · have hd : decide (x < m) = true := decide_eq_true hxm
        have HE2 : Hid (leastFrom f S u (f - (k + 1)) (k + 1) x = R) := Lib.hid (by rw [← hE]; congr 1; omega)
        have HD := Lib.hid hd
        clear hd hE
        go_wp2_with (first
          | (go_at_call 119; (with_reducible refine (winf_is (k := k) rfl h1 h2 h3 (by omega) ((HC.out.ext B1.out).ext HB.out) HX.out).mono ?_); rintro e w3 ⟨rfl, hb3⟩; have B3 := Lib.hid hb3; clear hb3)
          | (go_at_call 105; (with_reducible refine (less_is HD.out).mono ?_); rintro e w4 ⟨rfl, rfl⟩))
        go_roundw
        case rel => exact ⟨k + 1, x, by omega, by omega, rfl, by go_num, HE2.out, Below.then HB.out B3.out⟩
        case measure => simp [intOf]; omega
      · have hd : decide (x < m) = false := decide_eq_false hxm
        have HE2 : Hid (leastFrom f S u (f - (k + 1)) (k + 1) m = R) := Lib.hid (by rw [← hE]; congr 1; omega)
        have HD := Lib.hid hd
        clear hd hE
        go_wp2_with (first
          | (go_at_call 119; (with_reducible refine (winf_is (k := k) rfl h1 h2 h3 (by omega) ((HC.out.ext B1.out).ext HB.out) HX.out).mono ?_); rintro e w3 ⟨rfl, hb3⟩; have B3 := Lib.hid hb3; clear hb3)
          | (go_at_call 105; (with_reducible refine (less_is HD.out).mono ?_); rintro e w4 ⟨rfl, rfl⟩))
        go_roundw
        case rel => exact ⟨k + 1, m, by omega, by omega, rfl, by go_num, HE2.out, Below.then HB.out B3.out⟩
        case measure => simp [intOf]; omega
    · have hE := HE.out
      rw [show f - k = 0 by omega, leastFrom] at hE
      subst hE
      go_wp2
      go_ret
      exact ⟨rfl, Below.then (Below.then (Below.alloc (Below.refl _ _) (Nat.le_refl _) _) B1.out) HB.out⟩
/-- what Least gives -/
def lstR (F S v : Int) : Int × Int := if supB F S && inB v 0 1000000 then (leastN F S v, 0) else (0, 1)
set_option maxRecDepth 10000 in
set_option maxHeartbeats 1000000 in
theorem Least_any (F S v : Int) (w : World) : Calls Tryz.prog 85 #[.agg #[.int .i64 F, .int .i64 S], .int .i64 v] w fun e w' => e = rII (lstR F S v).1 (lstR F S v).2 ∧ Below w.heap.size w w' := by
  unfold lstR
  cases hs : supB F S
  · have HS := Lib.hid hs
    clear hs
    go_enter Tryz.func85, Tryz.ntmps85
    go_wp2_with (go_at_call 45; (with_reducible refine (supV_is HS.out).mono ?_); rintro e w1 ⟨rfl, hb1⟩; have B1 := Lib.hid hb1; clear hb1)
    go_ret2
    exact ⟨rII_eq rfl rfl, Below.then (Below.alloc (Below.refl _ _) (Nat.le_refl _) _) B1.out⟩
  · have HS := Lib.hid hs
    obtain ⟨h1, h2⟩ := supB_iff.1 hs
    rw [Bool.true_and]
    cases hv : inB v 0 1000000
    · have HV := Lib.hid hv
      clear hs hv
      go_enter Tryz.func85, Tryz.ntmps85
      go_wp2_with (first
        | (go_at_call 45; (with_reducible refine (supV_is HS.out).mono ?_); rintro e w1 ⟨rfl, hb1⟩; have B1 := Lib.hid hb1; clear hb1)
        | (go_at_call 74; (with_reducible refine (swithin_is HV.out).mono ?_); rintro e w2 ⟨rfl, rfl⟩))
      go_ret2
      exact ⟨rII_eq rfl rfl, Below.then (Below.alloc (Below.refl _ _) (Nat.le_refl _) _) B1.out⟩
    · have HV := Lib.hid hv
      have h3 := inB_iff.1 hv
      rw [if_pos rfl]
      clear hs hv
      go_enter Tryz.func85, Tryz.ntmps85
      go_wp2_with (first
        | (go_at_call 45; (with_reducible refine (supV_is HS.out).mono ?_); rintro e w1 ⟨rfl, hb1⟩; have B1 := Lib.hid hb1; have c0 := (hb1.cell (p := ⟨w.heap.size, 0, none⟩) (by simp)).trans (show _ = some (.int .i64 F) by simp [go_sem]); have c1 := (hb1.cell (p := ⟨w.heap.size, 1, none⟩) (by simp)).trans (show _ = some (.int .i64 S) by simp [go_sem]); have hz1 := hb1.size; clear hb1)
        | (go_at_call 74; (with_reducible refine (swithin_is HV.out).mono ?_); rintro e w2 ⟨rfl, rfl⟩))
      have HW1 : Hid (Below w.heap.size w w1.drew) := Lib.hid (Below.then (Below.alloc (Below.refl _ _) (Nat.le_refl _) _) B1.out).drew
      go_region_held3 (fun w' => w'.cell? ⟨w.heap.size, 0, none⟩ = some (.int .i64 F) ∧ w'.cell? ⟨w.heap.size, 1, none⟩ = some (.int .i64 S))
        (first | go_keep)
        (first
          | (go_at_call 102; (with_reducible refine (program_any F S _ h1 h2).mono ?_); rintro e w3 ⟨rfl, hb3⟩; have B3 := Lib.hid hb3; have k0 := (hb3.cell (p := ⟨w.heap.size, 0, none⟩) (by simp at *; omega)).trans (show _ = some (.int .i64 F) by simp [*]); have k1 := (hb3.cell (p := ⟨w.heap.size, 1, none⟩) (by simp at *; omega)).trans (show _ = some (.int .i64 S) by simp [*]); have hz := hb3.size; clear hb3)
          | (go_at_call 104; (with_reducible refine (window_any F S v _).mono ?_); rintro e w4 ⟨p, q, rfl, hwc, hb4⟩; have HWC := Lib.hid hwc; have B4 := Lib.hid hb4; have k0 := (hb4.cell (p := ⟨w.heap.size, 0, none⟩) (by simp at *; omega)).trans (show _ = some (.int .i64 F) by simp [*]); have k1 := (hb4.cell (p := ⟨w.heap.size, 1, none⟩) (by simp at *; omega)).trans (show _ = some (.int .i64 S) by simp [*]); have hz := hb4.size; clear hb4 hwc)
          | (go_at_call 103; (with_reducible refine (extreme_any F S v p q _ h1 h2 h3 (HWC.out.ext (by repeat (first | (with_reducible exact Below.refl _ _) | (refine Below.then ?_ (Hid.out (by with_reducible assumption))))))).mono ?_); rintro e w5 ⟨rfl, hb5⟩; have B5 := Lib.hid hb5; have k0 := (hb5.cell (p := ⟨w.heap.size, 0, none⟩) (by simp at *; omega)).trans (show _ = some (.int .i64 F) by simp [*]); have k1 := (hb5.cell (p := ⟨w.heap.size, 1, none⟩) (by simp at *; omega)).trans (show _ = some (.int .i64 S) by simp [*]); have hz := hb5.size; clear hb5))
      all_goals
        go_wp2_with fail
        go_ret2
        exact ⟨rII_eq rfl rfl, (by repeat (first | (with_reducible exact Below.refl _ _) | (refine Below.then ?_ (Hid.out (by with_reducible assumption)))))⟩
theorem Least_is {F S v x e : Int} {w : World} (h : lstR F S v = (x, e)) : Calls Tryz.prog 85 #[.agg #[.int .i64 F, .int .i64 S], .int .i64 v] w fun en w' => en = rII x e ∧ Below w.heap.size w w' := by
  have := Least_any F S v w
  rw [h] at this; exact this
theorem lstR_ok {F S : Int} (hs : supB F S = true) {w : Nat} (hw : w ≤ 1000000) : lstR F S w = (leastN F S w, 0) := by
  unfold lstR; rw [hs, show inB (w : Int) 0 1000000 = true from inB_iff.2 (by omega)]; rfl
end Go.Proofs.YtmahagcghpoekaaGreat
namespace Go.Proofs.YtmahagcghpoekaaGreat
open Go.RowKit
set_option linter.unusedSimpArgs false
set_option linter.unusedVariables false
/-- who is not ahead, by the ranks -/
theorem cnt_le {L : List Ta} {x y : Int} (h0 : 0 ≤ x) (h1 : x < L.length) (h2 : 0 ≤ y) (h3 : y < L.length) : decide ((cnt L x : Int) ≤ (cnt L y : Int)) = !aheadB L y x := by
  have h := cnt_ahead (L := L) h2 h3 h0 h1
  cases q : aheadB L y x
  · have : ¬ cnt L y < cnt L x := fun k => aheadB_no.1 q (h.1 k)
    exact decide_eq_true (by omega)
  · have : cnt L y < cnt L x := h.2 (aheadB_iff.1 q)
    exact decide_eq_false (by omega)
theorem cnt_le' {L : List Ta} {x y : Int} {b : Bool} (h0 : 0 ≤ x) (h1 : x < L.length) (h2 : 0 ≤ y) (h3 : y < L.length) (h : aheadB L y x = b) : decide (cnt L x ≤ cnt L y) = !b := by
  rw [← h, ← cnt_le h0 h1 h2 h3, decide_eq_decide]; omega
def OutB (w : World) (xs : List P2) (e : Ending) (w' : World) : Prop :=
  ∃ a n c, e = .returned (.slice a n c) ∧ w'.ownsRow w.heap.size 46 2 (.slice a n c) n (xs.flatMap enc2) ∧ Below w.heap.size w w'
theorem ofL_at {w : World} {a : Option Addr} {n : Nat} {L : List Ta} (h : Rd w a n 1 ((ofL L).map enc1)) (hl : L.length = n) {k : Nat} (hk : k < n) : ∃ (b off : Nat), a = some ⟨b, off, none⟩ ∧ b < w.heap.size ∧ w.cell? ⟨b, off + k, none⟩ = some (.int .i64 (cnt L k)) := by
  obtain ⟨x, b, off, h1, h2, h3, h4⟩ := h.idx k hk
  rw [ofL_get (by omega)] at h4
  obtain rfl : (cnt L k : Int) = x := by simpa using h4
  exact ⟨b, off, h1, h2, h3⟩
set_option maxRecDepth 10000 in
set_option maxHeartbeats 8000000 in
theorem blockers_any (a : Option Addr) (n c : Nat) (L : List Ta) (q : Nat) (w : World) (hL : RdL w a n L) (hv : Right L) (hq : q < n) :
    Calls Tryz.prog 118 #[.slice a n c, .int .i64 (q : Nat)] w (OutB w (blockL L q)) := by
  have hll := hL.length
  have hs := hL.small
  have hn5 := hv.len
  rw [hll] at hn5
  obtain ⟨R, hR⟩ : ∃ R, blockL L q = R := ⟨_, rfl⟩
  have hRl : R.length ≤ 40 := by rw [← hR]; exact blockL_len hv _
  have HA : Hid ([] ++ blkFrom L q (n - 0) 0 = R) := Lib.hid (by rw [← hR, blockL, hll]; rfl)
  obtain ⟨f, hf⟩ : ∃ f : Nat → Int, f = fun (k : Nat) => ceilG L (k : Int) := ⟨_, rfl⟩
  have HF := Lib.hid hf
  have HLL := Lib.hid hll
  have HV := Lib.hid hv
  have HR := Lib.hid hL
  have HCP : Hid (∀ (k : Nat) (u : Ta) (j : Nat) (p : P2), L[k]? = some u → u.pcs[j]? = some p → 0 ≤ p.2 → ∃ (m c : Nat), p.2 = m ∧ m < 6 ∧ f m = c ∧ c < n ∧ ceilG L m = c) := Lib.hid (fun k u j p hk hj h0 => by
    obtain ⟨m, hm⟩ := Int.eq_ofNat_of_zero_le h0
    have h3 := (hv.piece u (List.mem_of_getElem? hk) p (List.mem_of_getElem? hj)).2
    have hc := isCeil L p.2
    have hge : 0 ≤ ceilG L p.2 := by
      rcases Int.lt_or_le (ceilG L p.2) 0 with h | h
      · exact absurd ⟨p, by rw [taAt_of hk]; exact List.mem_of_getElem? hj, rfl⟩ (hc.none_ h k (List.getElem?_eq_some_iff.1 hk).1)
      · exact h
    have hlt := hc.hi
    rw [hll] at hlt
    obtain ⟨c, hcc⟩ := Int.eq_ofNat_of_zero_le hge
    exact ⟨m, c, hm, by omega, by rw [hf, ← hcc, hm], by omega, by rw [← hm]; exact hcc⟩)
  rw [hR]
  clear hL hv hll hR hf
  have e1 := EB
  go_enter Tryz.func118, Tryz.ntmps118
  go_wp2_with (go_at_call 125; (with_reducible refine (ranksOf_any _ _ _ L _ HR.out HV.out).mono ?_); rw [OutK_eq HF.out]; rintro e w1 ⟨a1, c1, rfl, ho1, hb1⟩; have HO1 := Lib.hid (ownsI_rd ho1); have B1 := Lib.hid hb1; clear ho1 hb1)
  obtain ⟨W, hW⟩ : ∃ W, W = w1.alloc (.cells #[.slice a1 n c1, .int .i64 (f 0), .int .i64 (f 1), .int .i64 (f 2), .int .i64 (f 3), .int .i64 (f 4), .int .i64 (f 5)] 147) := ⟨_, rfl⟩
  have hb1W : Below w1.heap.size w1 W := by rw [hW]; exact Below.alloc (Below.refl _ _) (Nat.le_refl _) _
  have HBW : Hid (Below w.heap.size w W) := Lib.hid (Below.then B1.out hb1W)
  have HO2 := Lib.hid (HO1.out.ext hb1W)
  obtain ⟨bx, hbx⟩ : ∃ b, b = w1.heap.size := ⟨_, rfl⟩
  have hbxW : bx < W.heap.size := by rw [hbx, hW]; simp
  have HX0 : Hid (W.cell? ⟨bx, 0, none⟩ = some (.slice a1 n c1)) := Lib.hid (by rw [hbx, hW]; simp [go_sem])
  have HXS : Hid (∀ j, j < 6 → W.cell? ⟨bx, 1 + j, none⟩ = some (.int .i64 (f j))) := Lib.hid (fun j hj => by rw [hbx, hW]; rcases six_cases hj with rfl | rfl | rfl | rfl | rfl | rfl <;> simp [go_sem])
  have hB1s := HBW.out.size
  rw [← hW, ← hbx]
  clear hW hbx hb1W HO1
  go_loopw [5, 15] (fun v i wr => ∃ (k : Nat) (T : List P2) (a' : Option Addr) (c' : Nat), k ≤ n ∧ v = .slice a' T.length c' ∧ i = .int .i64 k ∧ wr.ownsRow W.heap.size 46 2 (.slice a' T.length c') T.length (T.flatMap enc2) ∧ T ++ blkFrom L q (n - k) k = R ∧ Below W.heap.size W wr) (fun _ i _ => n - (intOf i).toNat)
  case atStart => exact ⟨0, [], none, 0, Nat.zero_le _, rfl, rfl, World.ownsRow_nil _ _ _ _, HA.out, Below.refl _ _⟩
  case round =>
    clear HA
    obtain ⟨k, T, a', c', hk, rfl, rfl, ho, he, hB⟩ := hrel
    have HO := Lib.hid ho; have HE := Lib.hid he; have HB := Lib.hid hB
    clear ho he hB
    by_cases hlt : k < n
    · obtain ⟨u, b, off, pa, pn, pc, rfl, hb, k0, k1, k2, k3, k4, k5, hp, _, hg, HD⟩ := HR.out.at_ k hlt
      have hbw : Below w.heap.size w wr := (by repeat (first | (with_reducible exact Below.refl _ _) | (refine Below.then ?_ (Hid.out (by with_reducible assumption)))))
      have c0 := (hbw.cell (p := ⟨b, off + k * 6, none⟩) hb).trans k0
      have c1 := (hbw.cell (p := ⟨b, off + k * 6 + 1, none⟩) hb).trans k1
      have c2 := (hbw.cell (p := ⟨b, off + k * 6 + 2, none⟩) hb).trans k2
      have c3 := (hbw.cell (p := ⟨b, off + k * 6 + 3, none⟩) hb).trans k3
      have c4 := (hbw.cell (p := ⟨b, off + k * 6 + 4, none⟩) hb).trans k4
      have c5 := (hbw.cell (p := ⟨b, off + k * 6 + 5, none⟩) hb).trans k5
      clear k0 k1 k2 k3 k4 k5 hbw
      obtain ⟨b4, o4, rfl, hb4, d1⟩ := ofL_at (HO2.out.ext HB.out) HLL.out hlt
      obtain ⟨b5, o5, e5, hb5, d2⟩ := ofL_at (HO2.out.ext HB.out) HLL.out hq
      simp at e5
      obtain ⟨rfl, rfl⟩ := e5
      have x0 := (HB.out.cell (p := ⟨bx, 0, none⟩) hbxW).trans HX0.out
      have hbxr : bx < wr.heap.size := Nat.lt_of_lt_of_le hbxW HB.out.size
      have hE := HE.out
      rw [show n - k = (n - (k + 1)) + 1 by omega, blkFrom_step, taAt_of hg] at hE
      have hps := hp.small
      have HPL := Lib.hid hp.length
      have HP := Lib.hid hp
      have HCK : Hid (∀ (j : Nat) (p : P2), u.pcs[j]? = some p → 0 ≤ p.2 → ∃ (m c : Nat), p.2 = m ∧ m < 6 ∧ f m = c ∧ c < n ∧ ceilG L m = c) := Lib.hid (fun j p => HCP.out k u j p hg)
      obtain ⟨tst, htst⟩ : ∃ x, aheadB L q k = x := ⟨_, rfl⟩
      have hts := cnt_le' (L := L) (x := k) (y := q) (by omega) (by rw [HLL.out]; omega) (by omega) (by rw [HLL.out]; omega) htst
      have hts' : decide ((cnt L k : Int) ≤ (cnt L q : Int)) = !tst := by rw [← hts, decide_eq_decide]; omega
      rw [htst] at hE
      clear htst hg HD hp
      cases tst
      · have HE2 : Hid (T ++ blkFrom L q (n - (k + 1)) (k + 1) = R) := Lib.hid (by simpa using hE)
        clear hE HE
        simp only [Bool.not_false] at hts hts'
        have hts2 : cnt L k ≤ cnt L q := by simpa using hts
        go_wp2_with (refine wp_region_later_lit (by kernel_rfl) (by kernel_rfl) ?_; (repeat (go_big_quiet_step (fail))); refine wpQuiet_nil ?_; intro w3 hb3)
        go_roundw
        case rel => exact ⟨k + 1, T, a', c', by omega, rfl, by go_num, owns_ext (owns_ext HO.out (Below.alloc (Below.refl _ _) (Nat.le_refl _) _)) hb3, HE2.out, Below.then (Below.alloc HB.out HB.out.size _) hb3⟩
        case measure => simp [intOf]; omega
      · simp only [Bool.not_true] at hts hts'
        have hts2 : ¬ cnt L k ≤ cnt L q := by simpa using hts
        have HE2 : Hid (T ++ (blkP L q k 0 (u.pcs.drop 0) ++ blkFrom L q (n - (k + 1)) (k + 1)) = R) := Lib.hid (by simpa using hE)
        clear hE HE
        go_wp2_with ((refine wp_region_later_lit (by kernel_rfl) (by kernel_rfl) ?_; (repeat (go_big_quiet_step (fail))); refine wpQuiet_nil ?_; intro w3 hb3); have t5 := (hb3.cell (p := ⟨wr.heap.size, 5, none⟩) (by simp)).trans (show _ = some (.slice pa pn pc) by simp [go_sem]); have HO3 := Lib.hid (owns_ext (owns_ext HO.out (Below.alloc (Below.refl _ _) (Nat.le_refl _) _)) hb3); have HB3 : Hid (Below wr.heap.size wr w3) := Lib.hid (Below.then (Below.alloc (Below.refl _ _) (Nat.le_refl _) _) hb3); clear hb3)
        go_loopw [5, 34] (fun v i wr' => ∃ (j : Nat) (T : List P2) (a' : Option Addr) (c' : Nat), j ≤ pn ∧ v = .slice a' T.length c' ∧ i = .int .i64 j ∧ wr'.ownsRow W.heap.size 46 2 (.slice a' T.length c') T.length (T.flatMap enc2) ∧ T ++ (blkP L q k j (u.pcs.drop j) ++ blkFrom L q (n - (k + 1)) (k + 1)) = R ∧ Below W.heap.size W wr') (fun _ i _ => pn - (intOf i).toNat)
        case atStart => exact ⟨0, T, a', c', Nat.zero_le _, rfl, rfl, HO3.out, HE2.out, (by repeat (first | (with_reducible exact Below.refl _ _) | (refine Below.then ?_ (Hid.out (by with_reducible assumption)))))⟩
        case round =>
          clear HE2 HO HO3 HB3 t5 c0 c1 c2 c3 c4 c5 d1 d2 x0 hbxr hb hb4 hb5
          obtain ⟨j, T, a', c', hj, rfl, rfl, ho, he, hB2⟩ := hrel
          have HO := Lib.hid ho; have HE2 := Lib.hid he; have HB2 := Lib.hid hB2
          have hTl : T.length ≤ 40 := by have := congrArg List.length he; simp at this; omega
          clear ho he hB2
          by_cases hjt : j < pn
          · have hbw : Below w.heap.size w wr := (by repeat (first | (with_reducible exact Below.refl _ _) | (refine Below.then ?_ (Hid.out (by with_reducible assumption)))))
            obtain ⟨x, y, b1, off1, rfl, hb1, e2, e3, hpg, HD2⟩ := (HP.out.ext hbw).pc_at j hjt
            have hck := HCK.out j (x, y) hpg
            simp only [] at hck
            have hE := HE2.out
            rw [HD2.out, blkP] at hE
            simp only [] at hE
            clear hpg HD2 hbw
            by_cases p1 : 0 ≤ y
            · obtain ⟨m, cx, rfl, hm6, hfm, hcn, hceil⟩ := hck p1
              rw [hceil] at hE
              have xm := (HB2.out.cell (p := ⟨bx, 1 + m, none⟩) hbxW).trans (HXS.out m hm6)
              rw [hfm] at xm
              have x0 := (HB2.out.cell (p := ⟨bx, 0, none⟩) hbxW).trans HX0.out
              have hbxr : bx < wr.heap.size := Nat.lt_of_lt_of_le hbxW HB2.out.size
              obtain ⟨b6, o6, e6, hb6, d1⟩ := ofL_at (HO2.out.ext HB2.out) HLL.out hcn
              obtain ⟨b7, o7, e7, hb7, d2⟩ := ofL_at (HO2.out.ext HB2.out) HLL.out hq
              simp at e6 e7
              obtain ⟨rfl, rfl⟩ := e6
              obtain ⟨rfl, rfl⟩ := e7
              obtain ⟨t2, ht2⟩ : ∃ x, aheadB L q cx = x := ⟨_, rfl⟩
              have hu := cnt_le' (L := L) (x := cx) (y := q) (by omega) (by rw [HLL.out]; omega) (by omega) (by rw [HLL.out]; omega) ht2
              have hu' : decide ((cnt L cx : Int) ≤ (cnt L q : Int)) = !t2 := by rw [← hu, decide_eq_decide]; omega
              rw [ht2] at hE
              clear ht2 hceil hfm hck
              have HOx := Lib.hid (owns_ext HO.out (Below.alloc (Below.refl _ _) (Nat.le_refl _) (.cells #[.int .i64 x, .int .i64 (m : Int)] 55)))
              cases t2
              · rw [if_pos ⟨p1, rfl⟩] at hE
                have HE3 : Hid ((T ++ [((k : Int), (j : Int))]) ++ (blkP L q k (j + 1) (u.pcs.drop (j + 1)) ++ blkFrom L q (n - (k + 1)) (k + 1)) = R) := Lib.hid (by rw [← hE]; simp)
                clear hE HE2
                simp only [Bool.not_false] at hu hu'
                have hu2 : cnt L cx ≤ cnt L q := by simpa using hu
                go_wp2_with (first
                  | ((refine wp_region_later_lit (by kernel_rfl) (by kernel_rfl) ?_; (repeat (go_big_quiet_step (fail))); refine wpQuiet_nil ?_; intro w9 hb9); have HO6 := Lib.hid (owns_ext HOx.out hb9); have HB6 : Hid (Below wr.heap.size wr w9) := Lib.hid (Below.then (Below.alloc (Below.refl _ _) (Nat.le_refl _) _) hb9); have hz6 : W.heap.size ≤ w9.heap.size := (show Below W.heap.size W w9 from (by repeat (first | (with_reducible exact Below.refl _ _) | (refine Below.then ?_ (Hid.out (by with_reducible assumption)))))).size)
                  | (at_builtin; refine wpList_push (B := W.heap.size) rfl _ _ _ rfl e1 rfl HO6.out rfl rfl (by intro u hu; simp at hu; rcases hu with rfl | rfl <;> rfl) (by omega) (by decide) hz6 ?_; intro a8 c8 w8 hown8 hb8; have HO8 := Lib.hid (ownsP_snoc hown8); have HB8 := Lib.hid hb8; clear hown8 hb8))
                go_roundw
                case rel => exact ⟨j + 1, T ++ [((k : Int), (j : Int))], a8, c8, by omega, by first | rfl | simp, by go_num, by first | exact HO8.out | (rw [List.length_append]; exact HO8.out), HE3.out, (show Below W.heap.size W w9 from (by repeat (first | (with_reducible exact Below.refl _ _) | (refine Below.then ?_ (Hid.out (by with_reducible assumption)))))).trans HB8.out⟩
                case measure => simp [intOf]; omega
              · rw [if_neg (by rintro ⟨_, q⟩; simp at q)] at hE
                have HE3 := Lib.hid hE
                clear hE HE2
                simp only [Bool.not_true] at hu hu'
                have hu2 : ¬ cnt L cx ≤ cnt L q := by simpa using hu
                go_wp2_with (refine wp_region_later_lit (by kernel_rfl) (by kernel_rfl) ?_; (repeat (go_big_quiet_step (fail))); refine wpQuiet_nil ?_; intro w9 hb9)
                go_roundw
                case rel => exact ⟨j + 1, T, a', c', by omega, rfl, by go_num, owns_ext HOx.out (by assumption), HE3.out, Below.then (Below.alloc HB2.out HB2.out.size _) (by assumption)⟩
                case measure => simp [intOf]; omega
            · have p1' : decide (0 ≤ y) = false := by simpa using p1
              rw [if_neg (fun q => p1 q.1)] at hE
              have HE3 := Lib.hid hE
              have HOx := Lib.hid (owns_ext HO.out (Below.alloc (Below.refl _ _) (Nat.le_refl _) (.cells #[.int .i64 x, .int .i64 y] 55)))
              clear hE HE2 hck
              go_wp2_with (refine wp_region_later_lit (by kernel_rfl) (by kernel_rfl) ?_; (repeat (go_big_quiet_step (fail))); refine wpQuiet_nil ?_; intro w9 hb9)
              go_roundw
              case rel => exact ⟨j + 1, T, a', c', by omega, rfl, by go_num, owns_ext HOx.out (by assumption), HE3.out, Below.then (Below.alloc HB2.out HB2.out.size _) (by assumption)⟩
              case measure => simp [intOf]; omega
          · have hE := HE2.out
            rw [drop_end HPL.out (by omega), blkP, List.nil_append] at hE
            have HE3 := Lib.hid hE
            clear hE
            go_wp2
            go_roundw
            case rel => exact ⟨k + 1, T, a', c', by omega, rfl, by go_num, HO.out, HE3.out, HB2.out⟩
            case measure => simp [intOf]; omega
    · have hE := HE.out
      rw [show n - k = 0 by omega, blkFrom, List.append_nil] at hE
      subst hE
      go_wp2
      go_ret
      exact ⟨_, _, _, rfl, owns_mono HO.out hB1s, (by repeat (first | (with_reducible exact Below.refl _ _) | (refine Below.then ?_ (Hid.out (by with_reducible assumption)))))⟩
set_option maxRecDepth 10000 in
set_option maxHeartbeats 2000000 in
theorem Blocking_any (a : Option Addr) (n c : Nat) (L : List Ta) (t : Int) (w : World) (hL : RdL w a n L) :
    Calls Tryz.prog 98 #[.slice a n c, .int .i64 t] w fun e w' => e = rII (blkgR L t).1 (blkgR L t).2 ∧ Below w.heap.size w w' := by
  have hll := hL.length
  have hs := hL.small
  have HR := Lib.hid hL
  unfold blkgR
  cases hv : isTk L t
  · have HV := Lib.hid hv
    clear hL hv hll
    go_enter Tryz.func98, Tryz.ntmps98
    go_wp2_with (go_at_call 117; (with_reducible refine (isTask_is HR.out HV.out).mono ?_); rintro e w1 ⟨rfl, hb1⟩)
    go_ret2
    exact ⟨rII_eq rfl rfl, by (repeat' (first | (with_reducible exact Below.refl _ _) | (with_reducible assumption) | (with_reducible refine Below.alloc ?_ ?_ _) | (with_reducible refine Below.drew ?_) | (with_reducible refine Below.draws ?_ _) | (with_reducible refine Below.setCell ?_ ?_ _) | (refine Below.then ?_ (by with_reducible assumption)) | go_size))⟩
  · have HV := Lib.hid hv
    obtain ⟨hr, h0, h1⟩ := isTk_iff.1 hv
    rw [hll] at h1
    obtain ⟨q, rfl⟩ := Int.eq_ofNat_of_zero_le h0
    have hqn : q < n := by omega
    have HVR := Lib.hid (right_of hr)
    rw [if_pos rfl]
    obtain ⟨B, hB⟩ : ∃ B, blockL L q = B := ⟨_, rfl⟩
    have HI : Hid (∀ b ∈ B, IsBlk L q b) := Lib.hid (fun b hb => blockL_mem (by rw [hB]; exact hb))
    have hBl : B.length ≤ 40 := by rw [← hB]; exact blockL_len (right_of hr) q
    have HRR := Lib.hid hB
    obtain ⟨R, hR⟩ : ∃ R, blockN L q = R := ⟨_, rfl⟩
    have HA : Hid (maxB L 0 (B.drop 0) = R) := Lib.hid (by rw [← hR, ← hB]; rfl)
    simp only []
    rw [hR]
    clear hL hv hll hB hR
    go_enter Tryz.func98, Tryz.ntmps98
    go_wp2_with (first
      | (go_at_call 117; (with_reducible refine (isTask_is HR.out HV.out).mono ?_); rintro e w1 ⟨rfl, hb1⟩; have B1 := Lib.hid hb1; clear hb1)
      | (go_at_call 118; (with_reducible refine (blockers_any _ _ _ L q _ (HR.out.ext B1.out) HVR.out hqn).mono ?_); rw [HRR.out]; rintro e w2 ⟨a2, n2, c2, rfl, ho2, hb2⟩; have HO := Lib.hid (ownsP_rd ho2); have B2 := Lib.hid hb2; have hn2 : B.length = n2 := (ownsP_rd ho2).length; clear ho2 hb2))
    have hn40 : n2 ≤ 40 := by omega
    go_loopw [6, 17] (fun v i wr => ∃ (k : Nat) (m : Int), k ≤ n2 ∧ v = .int .i64 m ∧ i = .int .i64 k ∧ maxB L m (B.drop k) = R ∧ Below w2.heap.size w2 wr) (fun _ i _ => n2 - (intOf i).toNat)
    case atStart => exact ⟨0, 0, Nat.zero_le _, rfl, rfl, HA.out, Below.refl _ _⟩
    case round =>
      clear HA
      obtain ⟨k, m, hk, rfl, rfl, he, hB⟩ := hrel
      have HE := Lib.hid he; have HB := Lib.hid hB
      clear he hB
      by_cases hlt : k < n2
      · obtain ⟨b, g1, off1, rfl, hg1, f1, f2, hbg, HD⟩ := (HO.out.ext HB.out).piece k hlt
        obtain ⟨j, i, g, off, pb, poff, pn, pc, p, rfl, hj, hi, rfl, hg, hpb, d5, d1, d2, ht, hps⟩ := (HR.out.ext (show Below w.heap.size w wr from (by repeat (first | (with_reducible exact Below.refl _ _) | (refine Below.then ?_ (Hid.out (by with_reducible assumption))))))).blk (HI.out b (List.mem_of_getElem? hbg))
        have hE := HE.out
        rw [HD.out, maxB_cons, ht] at hE
        obtain ⟨x, hx⟩ : ∃ x, p.1 = x := ⟨_, rfl⟩
        rw [hx] at hE d1
        simp only [] at f1 f2
        have HE2 := Lib.hid hE
        clear hbg HD ht hE hx
        go_wp2_with (refine wp_region_later_lit (by kernel_rfl) (by kernel_rfl) ?_; (repeat (go_big_quiet_step (fail))); refine wpQuiet_nil ?_; intro w3 hb3)
        go_roundw
        case rel => exact ⟨k + 1, max m x, by omega, rfl, by go_num, HE2.out, Below.then (Below.alloc HB.out HB.out.size _) hb3⟩
        case measure => simp [intOf]; omega
      · have hE := HE.out
        rw [List.drop_of_length_le (by omega)] at hE
        obtain rfl : m = R := hE
        go_wp2
        go_ret2
        exact ⟨rII_eq rfl rfl, (by repeat (first | (with_reducible exact Below.refl _ _) | (refine Below.then ?_ (Hid.out (by with_reducible assumption)))))⟩
end Go.Proofs.YtmahagcghpoekaaGreat
namespace Go.Proofs.YtmahagcghpoekaaGreat
open Go.RowKit
set_option linter.unusedSimpArgs false
set_option linter.unusedVariables false
set_option maxHeartbeats 1000000 in
theorem cost_any (p d fi ga ji : Int) (pa : Option Addr) (pn pc : Nat) (ps : List P2) (w : World) (hp : Rd w pa pn 2 (ps.map enc2)) (hv : ∀ q ∈ ps, 1 ≤ q.1 ∧ q.1 ≤ 200) (hn : pn ≤ 8) :
    Calls Tryz.prog 56 #[.agg #[.int .i64 p, .int .i64 d, .int .i64 fi, .int .i64 ga, .int .i64 ji, .slice pa pn pc]] w fun e w' => e = .returned (.int .i64 (costP ps)) ∧ Below w.heap.size w w' := by
  have hb := costP_bd ps hv
  have hl := hp.length
  rw [hl] at hb
  obtain ⟨R, hR⟩ : ∃ R, costP ps = R := ⟨_, rfl⟩
  have HA : Hid (0 + costP (ps.drop 0) = R) := Lib.hid (by rw [Int.zero_add]; exact hR)
  have HQ : Hid (∀ k : Nat, 0 ≤ costP (ps.drop k)) := Lib.hid (fun k => by
    have := costP_bd (ps.drop k) (fun q hq => hv q (List.mem_of_mem_drop hq))
    omega)
  rw [hR] at hb ⊢
  have HP := Lib.hid hp
  have HL := Lib.hid hl
  have HV := Lib.hid hv
  clear hp hl hR hv
  go_enter Tryz.func56, Tryz.ntmps56
  go_wp2
  go_loopw [3, 9] (fun v i wr => ∃ (k : Nat) (m : Int), k ≤ pn ∧ v = .int .i64 m ∧ i = .int .i64 k ∧ 0 ≤ m ∧ m + costP (ps.drop k) = R ∧ Below w.heap.size w wr) (fun _ i _ => pn - (intOf i).toNat)
  case atStart => exact ⟨0, 0, Nat.zero_le _, rfl, rfl, by omega, HA.out, by (repeat' (first | (with_reducible exact Below.refl _ _) | (with_reducible assumption) | (with_reducible refine Below.alloc ?_ ?_ _) | (with_reducible refine Below.drew ?_) | (with_reducible refine Below.draws ?_ _) | (with_reducible refine Below.setCell ?_ ?_ _) | (refine Below.then ?_ (by with_reducible assumption)) | go_size))⟩
  case round =>
    clear HA
    obtain ⟨k, m, hk, rfl, rfl, hm, he, hB⟩ := hrel
    have HE := Lib.hid he; have HB := Lib.hid hB
    clear he hB
    by_cases hlt : k < pn
    · obtain ⟨x, y, b, off, rfl, hbb, e1, e2, hpg, HD⟩ := (HP.out.ext HB.out).pc_at k hlt
      have hE := HE.out
      rw [costP_drop hpg] at hE
      have hx := HV.out (x, y) (List.mem_of_getElem? hpg)
      have hr := HQ.out (k + 1)
      simp only [] at hE hx
      have HE2 : Hid (m + x + costP (ps.drop (k + 1)) = R) := Lib.hid (by omega)
      have hmx : m + x ≤ 1600 := by omega
      clear hpg HD hE
      go_wp2
      go_roundw
      case rel => exact ⟨k + 1, m + x, by omega, rfl, by go_num, by omega, HE2.out, Below.alloc HB.out HB.out.size _⟩
      case measure => simp [intOf]; omega
    · have hE := HE.out
      rw [drop_end HL.out (by omega), costP, Int.add_zero] at hE
      subst hE
      go_wp2
      go_ret
      exact ⟨rfl, HB.out⟩
set_option maxHeartbeats 1000000 in
theorem rcost_any (p d fi ga ji : Int) (pa : Option Addr) (pn pc : Nat) (ps : List P2) (w : World) (hp : Rd w pa pn 2 (ps.map enc2)) (hv : ∀ q ∈ ps, 1 ≤ q.1 ∧ q.1 ≤ 200) (hn : pn ≤ 8) :
    Calls Tryz.prog 83 #[.agg #[.int .i64 p, .int .i64 d, .int .i64 fi, .int .i64 ga, .int .i64 ji, .slice pa pn pc]] w fun e w' => e = .returned (.int .i64 (costP ps)) ∧ Below w.heap.size w w' := by
  have hb := costP_bd ps hv
  have hl := hp.length
  rw [hl] at hb
  obtain ⟨R, hR⟩ : ∃ R, costP ps = R := ⟨_, rfl⟩
  have HA : Hid (0 + costP (ps.drop 0) = R) := Lib.hid (by rw [Int.zero_add]; exact hR)
  have HQ : Hid (∀ k : Nat, 0 ≤ costP (ps.drop k)) := Lib.hid (fun k => by
    have := costP_bd (ps.drop k) (fun q hq => hv q (List.mem_of_mem_drop hq))
    omega)
  rw [hR] at hb ⊢
  have hps := hp.small
  have HP := Lib.hid (hp.ext (Below.alloc (Below.refl _ _) (Nat.le_refl _) (.cells #[.int .i64 p, .int .i64 d, .int .i64 fi, .int .i64 ga, .int .i64 ji, .slice pa pn pc] 45)))
  have HL := Lib.hid hl
  have HV := Lib.hid hv
  clear hp hl hR hv
  go_enter Tryz.func83, Tryz.ntmps83
  go_wp2
  go_loop [3, 4] (fun v i => ∃ (k : Nat) (m : Int), k ≤ pn ∧ v = .int .i64 m ∧ i = .int .i64 k ∧ 0 ≤ m ∧ m + costP (ps.drop k) = R) (fun _ i => pn - (intOf i).toNat)
  case atStart => exact ⟨0, 0, Nat.zero_le _, rfl, rfl, by omega, HA.out⟩
  case round =>
    clear HA
    obtain ⟨k, m, hk, rfl, rfl, hm, he⟩ := hrel
    have HE := Lib.hid he
    clear he
    by_cases hlt : k < pn
    · obtain ⟨x, y, b, off, rfl, hbb, e1, e2, hpg, HD⟩ := HP.out.pc_at k hlt
      have hE := HE.out
      rw [costP_drop hpg] at hE
      have hx := HV.out (x, y) (List.mem_of_getElem? hpg)
      have hr := HQ.out (k + 1)
      simp only [] at hE hx
      have HE2 : Hid (m + x + costP (ps.drop (k + 1)) = R) := Lib.hid (by omega)
      have hmx : m + x ≤ 1600 := by omega
      clear hpg HD hE
      go_wp2
      go_round
      case rel => exact ⟨k + 1, m + x, by omega, rfl, by go_num, by omega, HE2.out⟩
      case measure => simp [intOf]; omega
    · have hE := HE.out
      rw [drop_end HL.out (by omega), costP, Int.add_zero] at hE
      subst hE
      go_wp2
      go_ret
      exact ⟨rfl, by (repeat' (first | (with_reducible exact Below.refl _ _) | (with_reducible assumption) | (with_reducible refine Below.alloc ?_ ?_ _) | (with_reducible refine Below.drew ?_) | (with_reducible refine Below.draws ?_ _) | (with_reducible refine Below.setCell ?_ ?_ _) | (refine Below.then ?_ (by with_reducible assumption)) | go_size))⟩
theorem avalid_is {f g j : Int} {b : Bool} {w : World} (h : vpat f g j = b) : Calls Tryz.prog 54 #[.agg #[.int .i64 f, .int .i64 g, .int .i64 j]] w fun e w' => e = .returned (.bool b) ∧ Below w.heap.size w w' := by subst h; exact valid_any f g j w
theorem arvalid_is {f g j : Int} {b : Bool} {w : World} (h : vpat f g j = b) : Calls Tryz.prog 68 #[.agg #[.int .i64 f, .int .i64 g, .int .i64 j]] w fun e w' => e = .returned (.bool b) ∧ Below w.heap.size w w' := by subst h; exact rvalid_any f g j w
theorem patF_any (t : TaV) (w : World) : Calls Tryz.prog 73 #[valTa t] w fun e w' => e = .returned (.bool (!patB t.ta)) ∧ Below w.heap.size w w' := by
  obtain ⟨pri, dl, fi, ga, ji, a, n, c, pcs⟩ := t
  obtain ⟨R, hR⟩ : ∃ R, patB (TaV.ta ⟨pri, dl, fi, ga, ji, a, n, c, pcs⟩) = R := ⟨_, rfl⟩
  rw [hR]
  have hR' : (vpat fi ga ji && (decide (1 ≤ dl) && decide (dl ≤ ga))) = R := hR
  obtain ⟨v, hv⟩ : ∃ v, vpat fi ga ji = v := ⟨_, rfl⟩
  have HV := Lib.hid hv
  rw [hv] at hR'
  clear hR hv
  cases v
  · obtain rfl : R = false := by rw [← hR']; rfl
    clear hR'
    go_enter Tryz.func73, Tryz.ntmps73
    go_wp2_with (go_at_call 54; (with_reducible refine (avalid_is HV.out).mono ?_); rintro e w1 ⟨rfl, hb1⟩; have B1 := Lib.hid hb1; clear hb1)
    go_ret
    exact ⟨rfl, Below.then (Below.alloc (Below.refl _ _) (Nat.le_refl _) _) B1.out⟩
  · by_cases h1 : dl < 1
    · obtain rfl : R = false := by rw [← hR', decide_eq_false (show ¬ 1 ≤ dl by omega)]; rfl
      clear hR'
      go_enter Tryz.func73, Tryz.ntmps73
      go_wp2_with (go_at_call 54; (with_reducible refine (avalid_is HV.out).mono ?_); rintro e w1 ⟨rfl, hb1⟩; have B1 := Lib.hid hb1; have c1 := (hb1.cell (p := ⟨w.heap.size, 1, none⟩) (by simp)).trans (show _ = some (.int .i64 dl) by simp [go_sem]); have c3 := (hb1.cell (p := ⟨w.heap.size, 3, none⟩) (by simp)).trans (show _ = some (.int .i64 ga) by simp [go_sem]); clear hb1)
      go_ret
      exact ⟨rfl, Below.then (Below.alloc (Below.refl _ _) (Nat.le_refl _) _) B1.out⟩
    · have h1' : decide (dl < 1) = false := by simpa using h1
      have h2 : decide (ga < dl) = !R := by
        rw [← hR', decide_eq_true (show 1 ≤ dl by omega)]
        by_cases q : dl ≤ ga
        · rw [decide_eq_true q, decide_eq_false (by omega)]; rfl
        · rw [decide_eq_false q, decide_eq_true (by omega)]; rfl
      clear hR'
      go_enter Tryz.func73, Tryz.ntmps73
      go_wp2_with (go_at_call 54; (with_reducible refine (avalid_is HV.out).mono ?_); rintro e w1 ⟨rfl, hb1⟩; have B1 := Lib.hid hb1; have c1 := (hb1.cell (p := ⟨w.heap.size, 1, none⟩) (by simp)).trans (show _ = some (.int .i64 dl) by simp [go_sem]); have c3 := (hb1.cell (p := ⟨w.heap.size, 3, none⟩) (by simp)).trans (show _ = some (.int .i64 ga) by simp [go_sem]); clear hb1)
      go_ret
      exact ⟨rfl, Below.then (Below.alloc (Below.refl _ _) (Nat.le_refl _) _) B1.out⟩
theorem Ranks_is {a : Option Addr} {n c : Nat} {L : List Ta} {xs : List Int} {e : Int} {w : World} (hL : RdL w a n L) (h : ranksR L = (xs, e)) : Calls Tryz.prog 62 #[.slice a n c] w (OutTE w.heap.size w xs e) := by
  have := Ranks_any a n c L w hL
  rw [h] at this; exact this
theorem valid_any' (a : Option Addr) (n c : Nat) (L : List Ta) (w : World) (hL : RdL w a n L) : Calls Tryz.prog 42 #[.slice a n c] w fun e w' => e = .returned (.bool (validL L)) ∧ Below w.heap.size w w' := by
  have HR := Lib.hid hL
  unfold validL
  obtain ⟨rk, re, hrk⟩ : ∃ x e, ranksR L = (x, e) := ⟨_, _, rfl⟩
  have HRK := Lib.hid hrk
  cases hr : rightB L
  · obtain rfl : re = 1 := by rw [ranksR, hr] at hrk; simp at hrk; exact hrk.2.symm
    clear hL hrk hr
    go_enter Tryz.func42, Tryz.ntmps42
    go_wp2_with (go_at_call 62; (with_reducible refine (Ranks_is HR.out HRK.out).mono ?_); rintro e w1 ⟨a1, n1, c1, rfl, ho1, hb1⟩; have B1 := Lib.hid hb1; clear ho1 hb1)
    go_ret
    exact ⟨rfl, B1.out⟩
  · obtain rfl : re = 0 := by rw [ranksR, hr] at hrk; simp at hrk; exact hrk.2.symm
    obtain ⟨R, hR⟩ : ∃ R, L.all patB = R := ⟨_, rfl⟩
    have HC : Hid (∀ w1 : World, Below w.heap.size w w1 → Calls Tryz.prog 72 #[.slice a n c, .func (.func 73) #[] #[]] w1 fun e w' => e = .returned (.bool (!R)) ∧ Below w1.heap.size w1 w') := Lib.hid (fun w1 hb => by
      obtain ⟨g, hG, hg⟩ := hL.ext hb
      have := tk_con 73 #[] (fun t => !patB t.ta) a n c g w1 hG.rd ⟨fun args w => by kernel_rfl, fun x hx w' hb => patF_any x w'⟩
      rw [any_not (fun t : TaV => patB t.ta)] at this
      have e : g.all (fun t => patB t.ta) = R := by rw [← hR, ← hg, List.all_map]; rfl
      rw [e] at this
      exact this)
    rw [Bool.true_and, hR]
    clear hL hrk hr hR
    go_enter Tryz.func42, Tryz.ntmps42
    go_wp2_with (first
      | (go_at_call 62; (with_reducible refine (Ranks_is HR.out HRK.out).mono ?_); rintro e w1 ⟨a1, n1, c1, rfl, ho1, hb1⟩; have B1 := Lib.hid hb1; clear ho1 hb1)
      | (go_at_call 72; (with_reducible refine (HC.out _ B1.out).mono ?_); rintro e w2 ⟨rfl, hb2⟩; have B2 := Lib.hid hb2; clear hb2))
    go_ret
    exact ⟨ret_bool (by simp), (by repeat (first | (with_reducible exact Below.refl _ _) | (refine Below.then ?_ (Hid.out (by with_reducible assumption)))))⟩
theorem valid_is {a : Option Addr} {n c : Nat} {L : List Ta} {b : Bool} {w : World} (hL : RdL w a n L) (h : validL L = b) : Calls Tryz.prog 42 #[.slice a n c] w fun e w' => e = .returned (.bool b) ∧ Below w.heap.size w w' := by subst h; exact valid_any' a n c L w hL
set_option maxRecDepth 10000 in
set_option maxHeartbeats 2000000 in
theorem rValid_any (a : Option Addr) (n c : Nat) (L : List Ta) (w : World) (hL : RdL w a n L) : Calls Tryz.prog 30 #[.slice a n c] w fun e w' => e = .returned (.bool (validL L)) ∧ Below w.heap.size w w' := by
  have hll := hL.length
  have hs := hL.small
  have HR := Lib.hid hL
  have HLL := Lib.hid hll
  unfold validL
  cases hr : rightB L
  · have HV := Lib.hid hr
    clear hL hll hr
    go_enter Tryz.func30, Tryz.ntmps30
    go_wp2_with (go_at_call 67; (with_reducible refine (rTasks_is HR.out HV.out).mono ?_); rintro e w1 ⟨rfl, hb1⟩; have B1 := Lib.hid hb1; clear hb1)
    go_ret
    exact ⟨rfl, B1.out⟩
  · have HV := Lib.hid hr
    rw [Bool.true_and]
    obtain ⟨R, hR⟩ : ∃ R, L.all patB = R := ⟨_, rfl⟩
    have HA : Hid ((L.drop 0).all patB = R) := Lib.hid hR
    rw [hR]
    clear hL hll hr hR
    go_enter Tryz.func30, Tryz.ntmps30
    go_wp2_with (go_at_call 67; (with_reducible refine (rTasks_is HR.out HV.out).mono ?_); rintro e w1 ⟨rfl, hb1⟩; have B1 := Lib.hid hb1; clear hb1)
    go_loopw [3] (fun i wr => ∃ k : Nat, k ≤ n ∧ i = .int .i64 k ∧ (L.drop k).all patB = R ∧ Below w.heap.size w wr) (fun i _ => n - (intOf i).toNat)
    case atStart => exact ⟨0, Nat.zero_le _, rfl, HA.out, B1.out⟩
    case round =>
      clear HA
      obtain ⟨k, hk, rfl, he, hB⟩ := hrel
      have HE := Lib.hid he; have HB := Lib.hid hB
      clear he hB
      by_cases hlt : k < n
      · obtain ⟨t, b, off, pa, pn, pc, rfl, hb, c0, c1, c2, c3, c4, c5, hp, _, hg, HD⟩ := (HR.out.ext HB.out).at_ k hlt
        have hE := HE.out
        rw [HD.out, List.all_cons] at hE
        obtain ⟨pri, dl, fi, ga, ji, pcs⟩ := t
        simp only [] at c0 c1 c2 c3 c4
        have hE' : (vpat fi ga ji && (decide (1 ≤ dl) && decide (dl ≤ ga)) && (L.drop (k + 1)).all patB) = R := hE
        obtain ⟨v, hv⟩ : ∃ v, vpat fi ga ji = v := ⟨_, rfl⟩
        have HVP := Lib.hid hv
        rw [hv] at hE'
        clear hE hv hg HD hp
        cases v
        · obtain rfl : R = false := by rw [← hE']; rfl
          clear hE'
          go_wp2_with (refine wp_region_later_lit (by kernel_rfl) (by kernel_rfl) ?_; (repeat (go_big_quiet_step ((go_at_call 68; exact later_of (arvalid_is HVP.out))))); refine wpQuiet_nil ?_; intro w3 hb3)
          go_ret
          exact ⟨rfl, Below.then HB.out hb3⟩
        · by_cases h1 : dl < 1
          · obtain rfl : R = false := by rw [← hE', decide_eq_false (show ¬ 1 ≤ dl by omega)]; rfl
            clear hE'
            go_wp2_with (refine wp_region_later_lit (by kernel_rfl) (by kernel_rfl) ?_; (repeat (go_big_quiet_step ((go_at_call 68; exact later_of (arvalid_is HVP.out))))); refine wpQuiet_nil ?_; intro w3 hb3)
            go_ret
            exact ⟨rfl, Below.then HB.out hb3⟩
          · have h1' : decide (dl < 1) = false := by simpa using h1
            by_cases h2 : ga < dl
            · obtain rfl : R = false := by rw [← hE', decide_eq_false (show ¬ dl ≤ ga by omega)]; simp
              clear hE'
              go_wp2_with (refine wp_region_later_lit (by kernel_rfl) (by kernel_rfl) ?_; (repeat (go_big_quiet_step ((go_at_call 68; exact later_of (arvalid_is HVP.out))))); refine wpQuiet_nil ?_; intro w3 hb3)
              go_ret
              exact ⟨rfl, Below.then HB.out hb3⟩
            · have h2' : decide (ga < dl) = false := by simpa using h2
              have HE2 : Hid ((L.drop (k + 1)).all patB = R) := Lib.hid (by rw [← hE', decide_eq_true (show 1 ≤ dl by omega), decide_eq_true (show dl ≤ ga by omega)]; simp)
              clear hE'
              go_wp2_with (refine wp_region_later_lit (by kernel_rfl) (by kernel_rfl) ?_; (repeat (go_big_quiet_step ((go_at_call 68; exact later_of (arvalid_is HVP.out))))); refine wpQuiet_nil ?_; intro w3 hb3)
              go_roundw
              case rel => exact ⟨k + 1, by omega, by go_num, HE2.out, Below.then HB.out hb3⟩
              case measure => simp [intOf]; omega
      · have hE := HE.out
        rw [drop_end HLL.out (by omega), List.all_nil] at hE
        subst hE
        go_wp2
        go_ret
        exact ⟨rfl, HB.out⟩
theorem rValid_is {a : Option Addr} {n c : Nat} {L : List Ta} {b : Bool} {w : World} (hL : RdL w a n L) (h : validL L = b) : Calls Tryz.prog 30 #[.slice a n c] w fun e w' => e = .returned (.bool b) ∧ Below w.heap.size w w' := by subst h; exact rValid_any a n c L w hL
end Go.Proofs.YtmahagcghpoekaaGreat
