/- The contract of the law's example: it is true. No condition. -/
import Derived.Test.YtgldgomjlcojaaaBsFar
namespace Go.Proofs.Ytgldgomjlcojaaa
open Go.RowKit
set_option linter.unusedSimpArgs false
set_option linter.unusedVariables false
theorem ES : Elt Try.prog 22 27 2 16 := Elt.mk' (z := .agg #[.int .i64 0, .int .i64 0]) Try.underlying22 (by kernel_rfl) rfl (by decide)
theorem enc2_len (x : P2) : (enc2 x).length = 2 := rfl
theorem enc2_one (x : P2) : ∀ u ∈ enc2 x, u.oneCell' = true := by intro u hu; simp [enc2] at hu; rcases hu with rfl | rfl <;> rfl
theorem End_val {a : Option Addr} {n c : Nat} {l : List P2} {m o k : Int} {w : World} {R : P2} (hR : Rd w a n 2 (l.map enc2)) (h : endR l m o k = R) :
    Calls Try.prog 16 #[.slice a n c, val3 m o k] w fun e w' => e = rII R.1 R.2 ∧ Below w.heap.size w w' := h ▸ End_any a n c l m o k w hR
theorem Worst_val {a : Option Addr} {n c : Nat} {l : List P2} {m k : Int} {w : World} {R : Int × Int × Int} (hR : Rd w a n 2 (l.map enc2)) (h : farR true l m k = R) :
    Calls Try.prog 15 #[.slice a n c, .int .i64 m, .int .i64 k] w fun e w' => e = rIII R.1 R.2.1 R.2.2 ∧ Below w.heap.size w w' := h ▸ Worst_any a n c l m k w hR
theorem Best_val {a : Option Addr} {n c : Nat} {l : List P2} {m k : Int} {w : World} {R : Int × Int × Int} (hR : Rd w a n 2 (l.map enc2)) (h : farR false l m k = R) :
    Calls Try.prog 19 #[.slice a n c, .int .i64 m, .int .i64 k] w fun e w' => e = rIII R.1 R.2.1 R.2.2 ∧ Below w.heap.size w w' := h ▸ Best_any a n c l m k w hR
theorem Least_val {a : Option Addr} {n c : Nat} {l : List P2} {m k : Int} {w : World} {R : Int × Int × Int} (hR : Rd w a n 2 (l.map enc2)) (h : winR l m k = R) :
    Calls Try.prog 14 #[.slice a n c, .int .i64 m, .int .i64 k] w fun e w' => e = rII R.1 R.2.2 ∧ Below w.heap.size w w' := h ▸ Least_any a n c l m k w hR
theorem Most_val {a : Option Addr} {n c : Nat} {l : List P2} {m k : Int} {w : World} {R : Int × Int × Int} (hR : Rd w a n 2 (l.map enc2)) (h : winR l m k = R) :
    Calls Try.prog 22 #[.slice a n c, .int .i64 m, .int .i64 k] w fun e w' => e = rII R.2.1 R.2.2 ∧ Below w.heap.size w w' := h ▸ Most_any a n c l m k w hR
theorem sane_rd (w : World) (T : TypeId) : Rd (w.alloc (.cells #[.int .i64 0, .int .i64 2, .int .i64 1, .int .i64 3] T)) (some ⟨w.heap.size, 0, none⟩) 2 2 (([(0, 2), (1, 3)] : List P2).map enc2) := by
  refine ⟨rfl, by decide, fun _ => ⟨w.heap.size, 0, rfl, by simp, fun i hi j hj => ?_⟩⟩
  simp at hi
  have h1 : i = 0 ∨ i = 1 := by omega
  have h2 : j = 0 ∨ j = 1 := by omega
  rcases h1 with rfl | rfl <;> rcases h2 with rfl | rfl <;> simp [go_sem, enc2]
theorem sane_any (w : World) : Calls Try.prog 13 #[] w fun e w' => e = .returned (.bool true) ∧ Below w.heap.size w w' := by
  have h1 : endR [(0, 2), (1, 3)] 0 1 2 = (6, 0) := by decide +kernel
  have h2 : farR true [(0, 2), (1, 3)] 0 1 = (4, 2, 0) := by decide +kernel
  have H1 := Lib.hid h1; have H2 := Lib.hid h2
  have HR := Lib.hid (sane_rd w 27)
  have HB : Hid (Below w.heap.size w (w.alloc (.cells #[.int .i64 0, .int .i64 2, .int .i64 1, .int .i64 3] 27))) := Lib.hid (by (repeat' (first | (with_reducible exact Below.refl _ _) | (with_reducible assumption) | (with_reducible refine Below.alloc ?_ ?_ _) | (with_reducible refine Below.drew ?_) | (with_reducible refine Below.draws ?_ _) | (with_reducible refine Below.setCell ?_ ?_ _) | (refine Below.then ?_ (by with_reducible assumption)) | go_size)))
  clear h1 h2
  go_enter Try.func13, Try.ntmps13
  go_wp2_with (first
    | (go_at_call 16; (with_reducible refine (End_val HR.out H1.out).mono ?_); rintro e w1 ⟨rfl, hb1⟩; have W1 := Lib.hid hb1; clear hb1)
    | (go_at_call 15; (with_reducible refine (Worst_val (HR.out.ext W1.out) H2.out).mono ?_); rintro e w2 ⟨rfl, hb2⟩))
  go_ret
  exact ⟨rfl, Below.then HB.out (Below.then W1.out hb2)⟩
end Go.Proofs.Ytgldgomjlcojaaa
