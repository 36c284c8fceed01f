/- What the laws of the chapter call: sane. No condition. -/
import Derived.Test.YtlhnhmimhpcoaaaScVal2
import Derived.Deep.RegionHeld3
namespace Go.Proofs.Ytlhnhmimhpcoaaa
open Go.RowKit
set_option linter.unusedSimpArgs false
set_option linter.unusedVariables false
def saneR : Rn := ⟨[⟨0, 4, 0, 4, 0, [(2, -1)]⟩], 4, 1, [[(0, 0)]], [0], []⟩
def saneE : List En := [⟨0, 0, 1, 0, 0⟩, ⟨0, -1, 3, 0, 0⟩, ⟨1, 0, 4, 0, 0⟩, ⟨2, 0, 4, 0, 0⟩, ⟨3, 0, 5, 0, 0⟩]
set_option maxRecDepth 100000 in
theorem sane_sim : simR saneR 4 = (saneE, 0) := by decide
def saneW (w : World) : World := (((((w.alloc (.cells #[.int .i64 2, .int .i64 (-1)] 52)).alloc (.cells #[.int .i64 0, .int .i64 4, .int .i64 0, .int .i64 4, .int .i64 0, .slice (some ⟨w.heap.size, 0, none⟩) 1 1] 50)).alloc (.cells #[.int .i64 0, .int .i64 0] 44)).alloc (.cells #[.slice (some ⟨w.heap.size + 2, 0, none⟩) 1 1] 27)).alloc (.cells #[.int .i64 0] 3))
def saneH (w : World) : RunH := ⟨some ⟨w.heap.size + 1, 0, none⟩, 1, 1, some ⟨w.heap.size + 3, 0, none⟩, 1, 1, some ⟨w.heap.size + 4, 0, none⟩, 1, 1, none, 0, 0⟩
theorem rd_one {α : Type} {w : World} {b k : Nat} {f : α → List Value} (x : α) (hk : (f x).length = k) (hb : b < w.heap.size) (h : ∀ j, j < k → w.cell? ⟨b, j, none⟩ = (f x)[j]?) : Rd w (some ⟨b, 0, none⟩) 1 k ([x].map f) := by
  refine ⟨by simp, by omega, fun _ => ⟨b, 0, rfl, hb, fun i hi j hj => ?_⟩⟩
  have : i = 0 := by simpa using hi
  subst this
  have := h j hj
  simpa using this
theorem saneW_rd (w : World) : ReadRun (saneW w) (saneH w) saneR := by
  have hz : w.heap.size + 5 = (saneW w).heap.size := by simp [saneW]
  refine ⟨⟨[⟨0, 4, 0, 4, 0, some ⟨w.heap.size, 0, none⟩, 1, 1, [(2, -1)]⟩], ⟨rd_one _ rfl (by omega) (fun j hj => ?_), fun t ht => ?_⟩, rfl⟩, ⟨[⟨some ⟨w.heap.size + 2, 0, none⟩, 1, 1, [(0, 0)]⟩], rd_one _ rfl (by omega) (fun j hj => ?_), fun v hv => ?_, rfl⟩, rd_one _ rfl (by omega) (fun j hj => ?_), Rd.nil _ _ _⟩
  · match j, hj with
    | 0, _ => simp [saneW, encTa, go_sem]
    | 1, _ => simp [saneW, encTa, go_sem]
    | 2, _ => simp [saneW, encTa, go_sem]
    | 3, _ => simp [saneW, encTa, go_sem]
    | 4, _ => simp [saneW, encTa, go_sem]
    | 5, _ => simp [saneW, encTa, go_sem]
  · simp at ht
    subst ht
    refine ⟨rd_one _ rfl (by omega) (fun j hj => ?_), fun h => by simp at h⟩
    match j, hj with
    | 0, _ => simp [saneW, enc2, go_sem]
    | 1, _ => simp [saneW, enc2, go_sem]
  · match j, hj with
    | 0, _ => simp [saneW, encV, go_sem]
  · simp at hv
    subst hv
    refine rd_one _ rfl (by first | omega | (simp only []; omega)) (fun j hj => ?_)
    match j, hj with
    | 0, _ => simp [saneW, enc2, go_sem]
    | 1, _ => simp [saneW, enc2, go_sem]
  · match j, hj with
    | 0, _ => simp [saneW, enc1, go_sem]
theorem Sim_is {H : RunH} {R : Rn} {t : Int} {w : World} {xs : List En} {y : Int} (hR : ReadRun w H R) (h : simR R t = (xs, y)) : Calls Try.prog 15 #[runV H R.fr R.sl, .int .i64 t] w (OutEn w xs y) := by
  have := Simulate_any H R t w hR
  rw [h] at this; exact this
theorem sane_cells {w : World} {B : Nat} {a : Option Addr} {n c : Nat} (h : w.ownsRow B 43 5 (.slice a n c) n (saneE.flatMap encE)) : ∃ g, a = some ⟨g, 0, none⟩ ∧ n = 5 ∧
    w.cell? ⟨g, 2, none⟩ = some (.int .i64 1) ∧ w.cell? ⟨g, 7, none⟩ = some (.int .i64 3) ∧ w.cell? ⟨g, 12, none⟩ = some (.int .i64 4) ∧ w.cell? ⟨g, 17, none⟩ = some (.int .i64 4) ∧ w.cell? ⟨g, 15, none⟩ = some (.int .i64 2) ∧ w.cell? ⟨g, 22, none⟩ = some (.int .i64 5) ∧ w.cell? ⟨g, 20, none⟩ = some (.int .i64 3) := by
  have hn : n = 5 := by have := (Rd.of_owns encE_len (by decide) h).length; simpa [saneE] using this.symm
  subst hn
  rcases h.2 with ⟨_, h8⟩ | ⟨g, cap, cur, hv, _⟩
  · omega
  · simp at hv
    obtain ⟨rfl, _⟩ := hv
    refine ⟨g, rfl, rfl, ?_, ?_, ?_, ?_, ?_, ?_, ?_⟩ <;> (rw [h.cellAt _ (by decide)]; rfl)
set_option maxRecDepth 10000 in
set_option maxHeartbeats 2000000 in
theorem sane_any (w : World) : Calls Try.prog 14 #[] w fun e w' => e = .returned (.bool true) ∧ Below w.heap.size w w' := by
  have hW := saneW_rd w
  have hBW : Below w.heap.size w (saneW w) := by unfold saneW; (repeat' (first | (with_reducible exact Below.refl _ _) | (with_reducible assumption) | (with_reducible refine Below.alloc ?_ ?_ _) | (with_reducible refine Below.drew ?_) | (with_reducible refine Below.draws ?_ _) | (with_reducible refine Below.setCell ?_ ?_ _) | (refine Below.then ?_ (by with_reducible assumption)) | go_size))
  have hW2 := hW.ext (show Below (saneW w).heap.size (saneW w) ((saneW w).alloc (.cells #[.slice (some ⟨w.heap.size + 1, 0, none⟩) 1 1, .int .i64 4, .int .i64 1, .slice (some ⟨w.heap.size + 3, 0, none⟩) 1 1, .slice (some ⟨w.heap.size + 4, 0, none⟩) 1 1, .slice none 0 0] 29)) by (repeat' (first | (with_reducible exact Below.refl _ _) | (with_reducible assumption) | (with_reducible refine Below.alloc ?_ ?_ _) | (with_reducible refine Below.drew ?_) | (with_reducible refine Below.draws ?_ _) | (with_reducible refine Below.setCell ?_ ?_ _) | (refine Below.then ?_ (by with_reducible assumption)) | go_size)))
  have hS := Sim_is hW2 sane_sim
  have hBW2 : Below w.heap.size w ((saneW w).alloc (.cells #[.slice (some ⟨w.heap.size + 1, 0, none⟩) 1 1, .int .i64 4, .int .i64 1, .slice (some ⟨w.heap.size + 3, 0, none⟩) 1 1, .slice (some ⟨w.heap.size + 4, 0, none⟩) 1 1, .slice none 0 0] 29)) := Below.alloc hBW hBW.size _
  unfold runV saneH saneW at hS
  unfold saneW at hBW2
  simp only [saneR] at hS
  have HS := Lib.hid hS; have HB := Lib.hid hBW2
  clear hW hBW hW2 hS hBW2
  go_enter Try.func14, Try.ntmps14
  go_wp2_with (go_at_call 15; (with_reducible refine HS.out.mono ?_); rintro e w1 ⟨a1, n1, c1, rfl, h1, hb1⟩; obtain ⟨g, rfl, rfl, k2, k7, k12, k17, k15, k22, k20⟩ := sane_cells h1; have B1 := Lib.hid (Below.then HB.out hb1); clear h1 hb1)
  go_ret
  exact ⟨rfl, B1.out⟩
/-- how many parts a run has -/
def hvA (R : Rn) : Nat := R.L.length + R.ev.length + R.bu.length + R.sg.length
def hvE : List (List P2) → Nat → Nat
  | [], n => n
  | l :: ls, n => hvE ls (n + l.length)
def hvT : List Ta → Nat → Nat
  | [], n => n
  | t :: ts, n => hvT ts (n + t.pcs.length)
def heavyB (R : Rn) : Bool := decide (300 < hvA R) || decide (1000 < hvT R.L (hvE R.ev (hvA R)))
end Go.Proofs.Ytlhnhmimhpcoaaa
