/- sane of the locks' laws returns true. No condition. -/
import Derived.Test.YtmdjbnicjohkjaaLkEff
import Derived.Test.YtmdjbnicjohkjaaLkSame
namespace Go.Proofs.Ytmdjbnicjohkjaa
open Go.RowKit
set_option linter.unusedSimpArgs false
set_option linter.unusedVariables false
theorem rd_of_cells {w : World} {b n k : Nat} {α : Type} {enc : α → List Value} {xs : List α} (hl : xs.length = n) (hn : n ≤ 1000) (hb : b < w.heap.size) (h : ∀ i, (hi : i < xs.length) → ∀ j, j < k → w.cell? ⟨b, i * k + j, none⟩ = (enc xs[i])[j]?) : Rd w (some ⟨b, 0, none⟩) n k (xs.map enc) :=
  ⟨by simpa using hl, by omega, fun _ => ⟨b, 0, rfl, hb, fun i hi j hj => by have := h i (by simpa using hi) j hj; simpa using this⟩⟩
theorem rd_one {w : World} {b : Nat} {x : Int} (hb : b < w.heap.size) (h : w.cell? ⟨b, 0, none⟩ = some (.int .i64 x)) : Rd w (some ⟨b, 0, none⟩) 1 1 ([x].map enc1) :=
  rd_of_cells rfl (by omega) hb (fun i hi j hj => by
    obtain rfl : i = 0 := by simpa using hi
    obtain rfl : j = 0 := by omega
    simpa [enc1] using h)
theorem rd_lit (w : World) (xs : List Int) (T : TypeId) (hl : xs.length ≤ 1000) : Rd (w.alloc (.cells (xs.map (Value.int .i64)).toArray T)) (some ⟨w.heap.size, 0, none⟩) xs.length 1 (xs.map enc1) :=
  rd_of_cells rfl hl (by simp) (fun i hi j hj => by
    obtain rfl : j = 0 := by omega
    have : (w.alloc (.cells (xs.map (Value.int .i64)).toArray T)).cell? ⟨w.heap.size, i * 1 + 0, none⟩ = (xs.map (Value.int .i64)).toArray[i * 1 + 0]? := World.cell?_alloc_new w _ T _
    rw [this]; simp [enc1, hi])
theorem rd999 (w : World) : Rd (w.alloc (.cells #[.int .i64 9, .int .i64 9, .int .i64 9] 3)) (some ⟨w.heap.size, 0, none⟩) 3 1 ([9, 9, 9].map enc1) := rd_lit w [9, 9, 9] _ (by decide)
theorem rd10 (w : World) : Rd (w.alloc (.cells #[.int .i64 1, .int .i64 0] 3)) (some ⟨w.heap.size, 0, none⟩) 2 1 ([1, 0].map enc1) := rd_lit w [1, 0] _ (by decide)
def saneG (q : Nat) : List ThV := [⟨1, some ⟨q, 0, none⟩, 1, 1, -1, [0]⟩, ⟨5, some ⟨q + 1, 0, none⟩, 1, 1, 0, [1]⟩, ⟨9, none, 0, 0, 1, []⟩]
theorem saneG_th (q : Nat) : (saneG q).map ThV.th = [⟨1, [0], -1⟩, ⟨5, [1], 0⟩, ⟨9, [], 1⟩] := rfl
theorem sane_eff : effR [⟨1, [0], -1⟩, ⟨5, [1], 0⟩, ⟨9, [], 1⟩] = ([9, 9, 9], 0) := by decide +kernel
theorem sane_chain : chainR [⟨1, [0], -1⟩, ⟨5, [1], 0⟩, ⟨9, [], 1⟩] 2 = ([1, 0], 0) := by decide +kernel
def SaneL (w : World) (xs : List Int) (e : Ending) (w' : World) : Prop := ∃ a n c, e = .returned (.tuple #[.slice a n c, .int .i64 0]) ∧ Rd w' a n 1 (xs.map enc1) ∧ Below w.heap.size w w'
theorem eff_sane {q c : Nat} {a : Option Addr} {w : World} (hG : RdG w a 3 (saneG q)) : Calls Try.prog 27 #[.slice a 3 c] w (SaneL w [9, 9, 9]) := by
  have := Effective_any a 3 c (saneG q) w hG
  rw [saneG_th, sane_eff] at this
  exact this.mono fun e w' ⟨a, n, c, h1, h2, h3⟩ => ⟨a, n, c, h1, ownsI_rd h2, h3⟩
theorem chain_sane {q c : Nat} {a : Option Addr} {w : World} (hG : RdG w a 3 (saneG q)) : Calls Try.prog 16 #[.slice a 3 c, .int .i64 2] w (SaneL w [1, 0]) := by
  have := Chain_any a 3 c (saneG q) 2 w hG
  rw [saneG_th, sane_chain] at this
  exact this.mono fun e w' ⟨a, n, c, h1, h2, h3⟩ => ⟨a, n, c, h1, ownsI_rd h2, h3⟩
def saneW (w : World) : World := ((w.alloc (.cells #[.int .i64 0] 3)).alloc (.cells #[.int .i64 1] 3)).alloc (.cells #[.int .i64 1, .slice (some ⟨w.heap.size, 0, none⟩) 1 1, .int .i64 (-1), .int .i64 5, .slice (some ⟨w.heap.size + 1, 0, none⟩) 1 1, .int .i64 0, .int .i64 9, .slice none 0 0, .int .i64 1] 52)
theorem saneW_rd (w : World) : RdG (saneW w) (some ⟨w.heap.size + 1 + 1, 0, none⟩) 3 (saneG w.heap.size) := by
  refine ⟨rd_of_cells rfl (by omega) (by simp [saneW]) (fun i hi j hj => ?_), fun t ht => ?_⟩
  · have hi' : i < 3 := hi
    rcases i with _ | _ | _ | i <;> first | omega | (rcases j with _ | _ | _ | j <;> first | omega | (simp [saneW, saneG, encTh, go_sem]))
  · simp [saneG] at ht
    rcases ht with rfl | rfl | rfl
    · exact ⟨rd_one (by simp [saneW]; omega) (by simp [saneW, go_sem]), fun h => by simp at h⟩
    · exact ⟨rd_one (by simp [saneW]) (by simp [saneW, go_sem]), fun h => by simp at h⟩
    · exact ⟨Rd.nil _ _ _, fun _ => .inl ⟨rfl, rfl⟩⟩
set_option maxRecDepth 10000 in
set_option maxHeartbeats 1000000 in
theorem sane_any (w : World) : Calls Try.prog 14 #[] w fun e w' => e = .returned (.bool true) ∧ Below w.heap.size w w' := by
  have hW := saneW_rd w
  have hBW : Below w.heap.size w (saneW w) := by unfold saneW; (repeat' (first | (with_reducible exact Below.refl _ _) | (with_reducible assumption) | (with_reducible refine Below.alloc ?_ ?_ _) | (with_reducible refine Below.drew ?_) | (with_reducible refine Below.draws ?_ _) | (with_reducible refine Below.setCell ?_ ?_ _) | (refine Below.then ?_ (by with_reducible assumption)) | go_size))
  unfold saneW at hW hBW
  have HW := Lib.hid hW; have HBW := Lib.hid hBW
  clear hW hBW
  go_enter Try.func14, Try.ntmps14
  go_wp2_with (first
    | (go_at_call 27; refine (eff_sane HW.out).mono ?_; rintro e w1 ⟨a1, n1, c1, rfl, hr1, hb1⟩; have HR1 := Lib.hid hr1; have HB1 := Lib.hid hb1; clear hr1 hb1)
    | (go_at_call 16; refine (chain_sane (HW.out.ext HB1.out)).mono ?_; rintro e w2 ⟨a2, n2, c2, rfl, hr2, hb2⟩; have HR2 := Lib.hid hr2; have HB2 := Lib.hid hb2; clear hr2 hb2)
    | (go_at_call 24; with_reducible refine (ints_eq _ _ _ _ _ _ [9, 9, 9] _ (HR1.out.ext (Below.alloc HB2.out HB2.out.size _)) (rd999 w2)).mono ?_; rintro e w3 ⟨rfl, hb3⟩; have HB3 := Lib.hid hb3; clear hb3)
    | (go_at_call 24; with_reducible refine (ints_eq _ _ _ _ _ _ [1, 0] _ (HR2.out.ext (Below.alloc (Below.then (Below.alloc (Below.refl _ _) (Nat.le_refl _) _) HB3.out) (by have := HB3.out.size; simp only [World.size_alloc] at this; omega) _)) (rd10 w3)).mono ?_; rintro e w4 ⟨rfl, hb4⟩; have HB4 := Lib.hid hb4; clear hb4))
  go_ret
  have h1 := Below.then HBW.out HB1.out
  have h2 := Below.then h1 HB2.out
  have h3 := Below.then (Below.alloc h2 h2.size _) HB3.out
  have h4 := Below.then (Below.alloc h3 h3.size _) HB4.out
  exact ⟨rfl, h4⟩
end Go.Proofs.Ytmdjbnicjohkjaa
