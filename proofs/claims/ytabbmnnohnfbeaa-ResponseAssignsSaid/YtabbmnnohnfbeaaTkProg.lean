/- The contracts of isTask, Ranks, Ceilings, Raised of the program. The conditions: the tasks read as named. -/
import Derived.Test.YtabbmnnohnfbeaaTkRef4
import Derived.Test.YtabbmnnohnfbeaaTkOf
import Derived.Deep.RegionWith
import Derived.Deep.Cut
namespace Go.Proofs.Ytabbmnnohnfbeaa
open Go.RowKit
set_option linter.unusedSimpArgs false
set_option linter.unusedVariables false
theorem below_al {w w' : World} (h : Below w.heap.size w w') (o : Obj) : Below w.heap.size w (w'.alloc o) := Below.alloc h h.size o
theorem ranked_is {a : Option Addr} {n c : Nat} {L : List Ta} {w : World} {rk : List Int} (hL : RdL w a n L) (hn : n < 20) (h : rankL L = rk) : Calls Try.prog 114 #[.slice a n c] w (OutN w.heap.size n 3 1 w (rk.flatMap enc1)) := by subst h; exact ranked_any a n c L w hL hn
theorem isTask_any (a : Option Addr) (n c : Nat) (L : List Ta) (t : Int) (w : World) (hL : RdL w a n L) :
    Calls Try.prog 131 #[.slice a n c, .int .i64 t] w fun e w' => e = .returned (.bool (isTk L t)) ∧ Below w.heap.size w w' := by
  have hll := hL.length
  have hs := hL.small
  have HR := Lib.hid hL
  unfold isTk
  rw [hll]
  cases hv : rightB L
  all_goals
    have HV := Lib.hid hv
    have q2 : inB t 0 ((n : Int) - 1) = (decide (0 ≤ t) && decide (t < n)) := by rw [inB_eq]; congr 1; rw [decide_eq_decide]; omega
    rw [q2]
    clear hL hv hll q2
    go_enter Try.func131, Try.ntmps131
    go_wp2_with (go_at_call 113; (with_reducible refine (right_is HR.out HV.out).mono ?_); rintro e w1 ⟨rfl, hb1⟩)
    all_goals
      go_ret
      exact ⟨ret_bool (by simp [*] <;> (first | omega | (intros; omega))), by (repeat' (first | (with_reducible exact Below.refl _ _) | (with_reducible assumption) | (with_reducible refine Below.alloc ?_ ?_ _) | (with_reducible refine Below.drew ?_) | (with_reducible refine Below.draws ?_ _) | (with_reducible refine Below.setCell ?_ ?_ _) | (refine Below.then ?_ (by with_reducible assumption)) | go_size))⟩
theorem isTask_is {a : Option Addr} {n c : Nat} {L : List Ta} {t : Int} {w : World} {b : Bool} (hL : RdL w a n L) (h : isTk L t = b) :
    Calls Try.prog 131 #[.slice a n c, .int .i64 t] w fun e w' => e = .returned (.bool b) ∧ Below w.heap.size w w' := by subst h; exact isTask_any a n c L t w hL
theorem Ranks_any (a : Option Addr) (n c : Nat) (L : List Ta) (w : World) (hL : RdL w a n L) :
    Calls Try.prog 72 #[.slice a n c] w (OutTE w.heap.size w (ranksR L).1 (ranksR L).2) := by
  have hll := hL.length
  have HR := Lib.hid hL
  unfold ranksR
  cases hv : rightB L
  · have HV := Lib.hid hv
    clear hL hv hll
    go_enter Try.func72, Try.ntmps72
    go_wp2_with (go_at_call 113; (with_reducible refine (right_is HR.out HV.out).mono ?_); rintro e w1 ⟨rfl, hb1⟩)
    go_ret2
    exact .none (by (repeat' (first | (with_reducible exact Below.refl _ _) | (with_reducible assumption) | (with_reducible refine Below.alloc ?_ ?_ _) | (with_reducible refine Below.drew ?_) | (with_reducible refine Below.draws ?_ _) | (with_reducible refine Below.setCell ?_ ?_ _) | (refine Below.then ?_ (by with_reducible assumption)) | go_size)))
  · have HV := Lib.hid hv
    have h5 := (right_of hv).len
    rw [hll] at h5
    rw [if_pos rfl]
    obtain ⟨rk, hrk⟩ : ∃ R, rankL L = R := ⟨_, rfl⟩
    have HRK := Lib.hid hrk
    simp only []
    rw [hrk]
    clear hL hv hll hrk
    go_enter Try.func72, Try.ntmps72
    go_wp2_with (first
      | (go_at_call 113; (with_reducible refine (right_is HR.out HV.out).mono ?_); rintro e w1 ⟨rfl, hb1⟩; have B1 := Lib.hid hb1; clear hb1)
      | (go_at_call 114; (with_reducible refine (ranked_is (HR.out.ext B1.out) (by omega) HRK.out).mono ?_); rintro e w2 ⟨a2, c2, rfl, ho2, hb2⟩; have HO2 := Lib.hid ho2; have B2 := Lib.hid hb2; clear ho2 hb2))
    go_ret2
    exact ⟨_, _, _, rfl, owns_mono HO2.out B1.out.size, (by repeat (first | (with_reducible exact Below.refl _ _) | (refine Below.then ?_ (Hid.out (by with_reducible assumption)))))⟩
theorem OutK_eq {w : World} {n : Nat} {L : List Ta} {f : Nat → Int} (hf : f = fun (k : Nat) => ceilG L (k : Int)) : OutK w n L = fun e w' => ∃ a c, e = .returned (.agg #[.slice a n c, .int .i64 (f 0), .int .i64 (f 1), .int .i64 (f 2), .int .i64 (f 3), .int .i64 (f 4), .int .i64 (f 5)]) ∧ w'.ownsRow w.heap.size 3 1 (.slice a n c) n ((ofL L).flatMap enc1) ∧ Below w.heap.size w w' := by subst hf; rfl
def OutRE (w : World) (xs : List Int) (er : Int) (e : Ending) (w' : World) : Prop :=
  ∃ a n c, e = .returned (.tuple #[.slice a n c, .int .i64 er]) ∧ Rd w' a n 1 (xs.map enc1) ∧ Below w.heap.size w w'
theorem rd_six {w : World} {q : Nat} {xs : List Int} (hl : xs.length = 6) (hq : q < w.heap.size) (hc : ∀ j, j < 6 → ∃ x, xs[j]? = some x ∧ w.cell? ⟨q, 1 + j, none⟩ = some (.int .i64 x)) : Rd w (some ⟨q, 1, none⟩) 6 1 (xs.map enc1) := by
  refine ⟨by simp [hl], by omega, fun _ => ⟨q, 1, rfl, hq, ?_⟩⟩
  intro k hk i hi
  have h6 : k < 6 := by simpa [hl] using hk
  obtain ⟨x, hx, h⟩ := hc k h6
  obtain ⟨h1, h2⟩ := List.getElem?_eq_some_iff.1 hx
  obtain rfl : i = 0 := by simp [enc1] at hi; exact hi
  simp [enc1, h, h2]
theorem rk_field (a : Option Addr) (n c : Nat) (x0 x1 x2 x3 x4 x5 : Int) (w : World) :
    (Instr.field 129 (.agg #[.slice a n c, .int .i64 x0, .int .i64 x1, .int .i64 x2, .int .i64 x3, .int .i64 x4, .int .i64 x5]) 1).run Try.prog w = .ok (.agg #[.int .i64 x0, .int .i64 x1, .int .i64 x2, .int .i64 x3, .int .i64 x4, .int .i64 x5]) w := by
  kernel_rfl
end Go.Proofs.Ytabbmnnohnfbeaa
