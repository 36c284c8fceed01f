/- The contracts of isTask, Ranks, Ceilings, Raised of the program. The conditions: the tasks read as named. -/
import Derived.Test.YtlhnhmimhpcoaaaTkRef4
import Derived.Test.YtlhnhmimhpcoaaaTkOf
import Derived.Deep.RegionWith
import Derived.Deep.Cut
namespace Go.Proofs.Ytlhnhmimhpcoaaa
open Go.RowKit
set_option linter.unusedSimpArgs false
set_option linter.unusedVariables false
theorem below_al {w w' : World} (h : Below w.heap.size w w') (o : Obj) : Below w.heap.size w (w'.alloc o) := Below.alloc h h.size o
theorem ranked_is {a : Option Addr} {n c : Nat} {L : List Ta} {w : World} {rk : List Int} (hL : RdL w a n L) (hn : n < 20) (h : rankL L = rk) : Calls Try.prog 101 #[.slice a n c] w (OutN w.heap.size n 3 1 w (rk.flatMap enc1)) := by subst h; exact ranked_any a n c L w hL hn
theorem isTask_any (a : Option Addr) (n c : Nat) (L : List Ta) (t : Int) (w : World) (hL : RdL w a n L) :
    Calls Try.prog 75 #[.slice a n c, .int .i64 t] w fun e w' => e = .returned (.bool (isTk L t)) ∧ Below w.heap.size w w' := by
  have hll := hL.length
  have hs := hL.small
  have HR := Lib.hid hL
  unfold isTk
  rw [hll]
  cases hv : rightB L
  all_goals
    have HV := Lib.hid hv
    have q2 : inB t 0 ((n : Int) - 1) = (decide (0 ≤ t) && decide (t < n)) := by rw [inB_eq]; congr 1; rw [decide_eq_decide]; omega
    rw [q2]
    clear hL hv hll q2
    go_enter Try.func75, Try.ntmps75
    go_wp2_with (go_at_call 100; (with_reducible refine (right_is HR.out HV.out).mono ?_); rintro e w1 ⟨rfl, hb1⟩)
    all_goals
      go_ret
      exact ⟨ret_bool (by simp [*] <;> (first | omega | (intros; omega))), by (repeat' (first | (with_reducible exact Below.refl _ _) | (with_reducible assumption) | (with_reducible refine Below.alloc ?_ ?_ _) | (with_reducible refine Below.drew ?_) | (with_reducible refine Below.draws ?_ _) | (with_reducible refine Below.setCell ?_ ?_ _) | (refine Below.then ?_ (by with_reducible assumption)) | go_size))⟩
theorem isTask_is {a : Option Addr} {n c : Nat} {L : List Ta} {t : Int} {w : World} {b : Bool} (hL : RdL w a n L) (h : isTk L t = b) :
    Calls Try.prog 75 #[.slice a n c, .int .i64 t] w fun e w' => e = .returned (.bool b) ∧ Below w.heap.size w w' := by subst h; exact isTask_any a n c L t w hL
theorem Ranks_any (a : Option Addr) (n c : Nat) (L : List Ta) (w : World) (hL : RdL w a n L) :
    Calls Try.prog 70 #[.slice a n c] w (OutTE w.heap.size w (ranksR L).1 (ranksR L).2) := by
  have hll := hL.length
  have HR := Lib.hid hL
  unfold ranksR
  cases hv : rightB L
  · have HV := Lib.hid hv
    clear hL hv hll
    go_enter Try.func70, Try.ntmps70
    go_wp2_with (go_at_call 100; (with_reducible refine (right_is HR.out HV.out).mono ?_); rintro e w1 ⟨rfl, hb1⟩)
    go_ret2
    exact .none (by (repeat' (first | (with_reducible exact Below.refl _ _) | (with_reducible assumption) | (with_reducible refine Below.alloc ?_ ?_ _) | (with_reducible refine Below.drew ?_) | (with_reducible refine Below.draws ?_ _) | (with_reducible refine Below.setCell ?_ ?_ _) | (refine Below.then ?_ (by with_reducible assumption)) | go_size)))
  · have HV := Lib.hid hv
    have h5 := (right_of hv).len
    rw [hll] at h5
    rw [if_pos rfl]
    obtain ⟨rk, hrk⟩ : ∃ R, rankL L = R := ⟨_, rfl⟩
    have HRK := Lib.hid hrk
    simp only []
    rw [hrk]
    clear hL hv hll hrk
    go_enter Try.func70, Try.ntmps70
    go_wp2_with (first
      | (go_at_call 100; (with_reducible refine (right_is HR.out HV.out).mono ?_); rintro e w1 ⟨rfl, hb1⟩; have B1 := Lib.hid hb1; clear hb1)
      | (go_at_call 101; (with_reducible refine (ranked_is (HR.out.ext B1.out) (by omega) HRK.out).mono ?_); rintro e w2 ⟨a2, c2, rfl, ho2, hb2⟩; have HO2 := Lib.hid ho2; have B2 := Lib.hid hb2; clear ho2 hb2))
    go_ret2
    exact ⟨_, _, _, rfl, owns_mono HO2.out B1.out.size, (by repeat (first | (with_reducible exact Below.refl _ _) | (refine Below.then ?_ (Hid.out (by with_reducible assumption)))))⟩
theorem OutK_eq {w : World} {n : Nat} {L : List Ta} {f : Nat → Int} (hf : f = fun (k : Nat) => ceilG L (k : Int)) : OutK w n L = fun e w' => ∃ a c, e = .returned (.agg #[.slice a n c, .int .i64 (f 0), .int .i64 (f 1), .int .i64 (f 2), .int .i64 (f 3), .int .i64 (f 4), .int .i64 (f 5)]) ∧ w'.ownsRow w.heap.size 3 1 (.slice a n c) n ((ofL L).flatMap enc1) ∧ Below w.heap.size w w' := by subst hf; rfl
def OutRE (w : World) (xs : List Int) (er : Int) (e : Ending) (w' : World) : Prop :=
  ∃ a n c, e = .returned (.tuple #[.slice a n c, .int .i64 er]) ∧ Rd w' a n 1 (xs.map enc1) ∧ Below w.heap.size w w'
theorem rd_six {w : World} {q : Nat} {xs : List Int} (hl : xs.length = 6) (hq : q < w.heap.size) (hc : ∀ j, j < 6 → ∃ x, xs[j]? = some x ∧ w.cell? ⟨q, 1 + j, none⟩ = some (.int .i64 x)) : Rd w (some ⟨q, 1, none⟩) 6 1 (xs.map enc1) := by
  refine ⟨by simp [hl], by omega, fun _ => ⟨q, 1, rfl, hq, ?_⟩⟩
  intro k hk i hi
  have h6 : k < 6 := by simpa [hl] using hk
  obtain ⟨x, hx, h⟩ := hc k h6
  obtain ⟨h1, h2⟩ := List.getElem?_eq_some_iff.1 hx
  obtain rfl : i = 0 := by simp [enc1] at hi; exact hi
  simp [enc1, h, h2]
theorem rk_field (a : Option Addr) (n c : Nat) (x0 x1 x2 x3 x4 x5 : Int) (w : World) :
    (Instr.field 135 (.agg #[.slice a n c, .int .i64 x0, .int .i64 x1, .int .i64 x2, .int .i64 x3, .int .i64 x4, .int .i64 x5]) 1).run Try.prog w = .ok (.agg #[.int .i64 x0, .int .i64 x1, .int .i64 x2, .int .i64 x3, .int .i64 x4, .int .i64 x5]) w := by
  kernel_rfl
theorem rk_index (f : Nat → Int) (m : Nat) (hm : m < 6) (w : World) :
    (Instr.index 133 (.agg #[.int .i64 (f 0), .int .i64 (f 1), .int .i64 (f 2), .int .i64 (f 3), .int .i64 (f 4), .int .i64 (f 5)]) (.int .i64 (m : Int))).run Try.prog w = .ok (.int .i64 (f m)) w := by
  rcases six_cases hm with rfl | rfl | rfl | rfl | rfl | rfl <;> kernel_rfl
set_option maxRecDepth 10000 in
set_option maxHeartbeats 1000000 in
theorem Raised_any (a : Option Addr) (n c : Nat) (L : List Ta) (t p : Int) (w : World) (hL : RdL w a n L) :
    Calls Try.prog 134 #[.slice a n c, .int .i64 t, .int .i64 p] w fun e w' => e = rII (raisedR L t p).1 (raisedR L t p).2 ∧ Below w.heap.size w w' := by
  have hll := hL.length
  have hs := hL.small
  have HR := Lib.hid hL
  unfold raisedR
  cases hv : isTk L t
  · have HV := Lib.hid hv
    rw [Bool.false_and]
    clear hL hv hll
    go_enter Try.func134, Try.ntmps134
    go_wp2_with (go_at_call 75; (with_reducible refine (isTask_is HR.out HV.out).mono ?_); rintro e w1 ⟨rfl, hb1⟩; have B1 := Lib.hid hb1; clear hb1)
    go_ret2
    exact ⟨rII_eq rfl rfl, B1.out⟩
  · have HV := Lib.hid hv
    rw [Bool.true_and]
    obtain ⟨hr, h0, h1⟩ := isTk_iff.1 hv
    have HVR := Lib.hid (right_of hr)
    rw [hll] at h1
    obtain ⟨q, rfl⟩ := Int.eq_ofNat_of_zero_le h0
    have hqn : q < n := by omega
    obtain ⟨u, b, off, pa, pn, pc, rfl, hb, _, _, _, _, _, c5, hp, _, hg, _⟩ := hL.at_ q hqn
    rw [taAt_of hg, hp.length]
    have hps := hp.small
    have C5 : Hid (∀ w1 : World, Below w.heap.size w w1 → w1.cell? ⟨b, off + q * 6 + 5, none⟩ = some (.slice pa pn pc)) := Lib.hid (fun w1 h => (h.cell (p := ⟨b, off + q * 6 + 5, none⟩) hb).trans c5)
    by_cases h2 : p < 0
    · rw [if_neg (by rw [inB_iff]; omega)]
      clear hL hv hll hg hp c5
      go_enter Try.func134, Try.ntmps134
      go_wp2_with (go_at_call 75; (with_reducible refine (isTask_is HR.out HV.out).mono ?_); rintro e w1 ⟨rfl, hb1⟩; have B1 := Lib.hid hb1; have c5 := C5.out _ hb1; clear hb1)
      go_ret2
      exact ⟨rII_eq rfl rfl, B1.out⟩
    · have h2' : decide (p < 0) = false := by simpa using h2
      by_cases h3 : (pn : Int) ≤ p
      · rw [if_neg (by rw [inB_iff]; omega)]
        clear hL hv hll hg hp c5
        go_enter Try.func134, Try.ntmps134
        go_wp2_with (go_at_call 75; (with_reducible refine (isTask_is HR.out HV.out).mono ?_); rintro e w1 ⟨rfl, hb1⟩; have B1 := Lib.hid hb1; have c5 := C5.out _ hb1; clear hb1)
        go_ret2
        exact ⟨rII_eq rfl rfl, B1.out⟩
      · obtain ⟨j, rfl⟩ := Int.eq_ofNat_of_zero_le (Int.not_lt.1 h2)
        have hjn : j < pn := by omega
        have h3' : decide ((pn : Int) ≤ (j : Int)) = false := by simpa using h3
        have h3'' : decide (pn ≤ j) = false := by simp; omega
        obtain ⟨v, b1, off1, rfl, hb1, e1, e2, hpg, _⟩ := hp.piece j hjn
        have hyv := (HVR.out.piece u (List.mem_of_getElem? hg) v (List.mem_of_getElem? hpg)).2
        rw [if_pos (by rw [inB_iff]; omega), Int.toNat_natCast, hpg]
        obtain ⟨x, y⟩ := v
        have E2 : Hid (∀ w1 : World, Below w.heap.size w w1 → w1.cell? ⟨b1, off1 + j * 2 + 1, none⟩ = some (.int .i64 y)) := Lib.hid (fun w1 h => (h.cell (p := ⟨b1, off1 + j * 2 + 1, none⟩) hb1).trans e2)
        have E1 : Hid (∀ w1 : World, Below w.heap.size w w1 → w1.cell? ⟨b1, off1 + j * 2, none⟩ = some (.int .i64 x)) := Lib.hid (fun w1 h => (h.cell (p := ⟨b1, off1 + j * 2, none⟩) hb1).trans e1)
        simp only [Option.getD_some] at hyv ⊢
        clear hL hv hll hg hp c5 e1 e2 hpg
        by_cases h4 : y < 0
        · rw [if_pos h4]
          have h4' : decide (0 ≤ y) = false := by simpa using h4
          go_enter Try.func134, Try.ntmps134
          go_wp2_with (go_at_call 75; (with_reducible refine (isTask_is HR.out HV.out).mono ?_); rintro e w1 ⟨rfl, hb1⟩; have B1 := Lib.hid hb1; have c5 := C5.out _ hb1; have c6 := E2.out _ hb1; have c7 := E1.out _ hb1; clear hb1)
          go_ret2
          exact ⟨rII_eq rfl rfl, below_al (by repeat (first | (with_reducible exact Below.refl _ _) | (refine Below.then ?_ (Hid.out (by with_reducible assumption))))) _⟩
        · rw [if_neg h4]
          obtain ⟨m, rfl⟩ := Int.eq_ofNat_of_zero_le (show 0 ≤ y by omega)
          have hm6 : m < 6 := by omega
          obtain ⟨f, hf⟩ : ∃ f : Nat → Int, f = fun (k : Nat) => ceilG L (k : Int) := ⟨_, rfl⟩
          have HF := Lib.hid hf
          have hfm : ceilG L (m : Int) = f m := by rw [hf]
          rw [hfm]
          clear hfm hf
          go_enter Try.func134, Try.ntmps134
          have hfl := rk_field
          have hix := rk_index f m hm6
          go_upto_region 5 with (go_at_call 75; (with_reducible refine (isTask_is HR.out HV.out).mono ?_); rintro e w1 ⟨rfl, hb1⟩; have B1 := Lib.hid hb1; have c5 := C5.out _ hb1; have c6 := E2.out _ hb1; have c7 := E1.out _ hb1; clear hb1)
          go_region_with (go_at_call 106; refine (ranksOf_any _ _ _ L _ ?_ HVR.out).mono ?_; exact (HR.out.ext (below_al (by repeat (first | (with_reducible exact Below.refl _ _) | (refine Below.then ?_ (Hid.out (by with_reducible assumption))))) _).drew); rw [OutK_eq HF.out]; rintro e w2 ⟨a2, c2, rfl, ho2, hb2⟩; have B2 := Lib.hid hb2; have z2 := (hb2.cell (p := ⟨w1.heap.size, 1, none⟩) (by simp)).trans (by simp [go_sem]; rfl); clear ho2 hb2)
          all_goals
            go_wp2_with fail
            go_ret2
            exact ⟨rII_eq rfl rfl, Below.then (below_al B1.out _).drew B2.out⟩
end Go.Proofs.Ytlhnhmimhpcoaaa
