/- The contract of lock.Valid. The conditions: the graph reads as named. -/
import Derived.Test.YtmdjbnicjohkjaaLkRchain
namespace Go.Proofs.Ytmdjbnicjohkjaa
open Go.RowKit
set_option linter.unusedSimpArgs false
set_option linter.unusedVariables false
def holdsGo (S : List Int) : Int → List Int → Bool
  | _, [] => true
  | p, x :: xs => inB x 0 5 && !hasB S x && decide (p < x) && holdsGo S x xs
def thOk (t : Th) : Bool := inB t.pri 0 99 && inB t.waits (-1) 5
def thsGo : List Int → List Th → Bool
  | _, [] => true
  | S, t :: g => thOk t && holdsGo S (-1) t.holds && thsGo (S ++ t.holds) g
def allHolds (g : List Th) : List Int := g.flatMap Th.holds
def waitsOk (L : List Int) (t : Th) : Bool := decide (t.waits < 0) || (hasB L t.waits && !hasB t.holds t.waits)
/-- a graph is valid -/
def validG (g : List Th) : Bool := decide (g.length ≤ 8) && thsGo [] g && g.all (waitsOk (allHolds g))
theorem hasB_app (l l' : List Int) (x : Int) : hasB (l ++ l') x = (hasB l x || hasB l' x) := by
  rw [Bool.eq_iff_iff]; simp [hasB_iff]
theorem thsGo_ok : ∀ (g : List Th) (S : List Int), thsGo S g = true → ∀ t ∈ g, thOk t = true
  | [], _, _, _, h => by simp at h
  | x :: g, S, h, t, ht => by
    simp only [thsGo, Bool.and_eq_true] at h
    rcases List.mem_cons.1 ht with rfl | ht
    · exact h.1.1
    · exact thsGo_ok g _ h.2 t ht
theorem thOk_iff {t : Th} : thOk t = true ↔ (0 ≤ t.pri ∧ t.pri ≤ 99) ∧ -1 ≤ t.waits ∧ t.waits ≤ 5 := by
  unfold thOk; rw [Bool.and_eq_true, inB_iff, inB_iff]
/-- a block of the six marks -/
structure Held (w : World) (B : Nat) (S : List Int) : Prop where
  lt : B < w.heap.size
  at_ : ∀ j : Nat, j < 6 → w.cell? ⟨B, j, none⟩ = some (.bool (hasB S j))
  fz : ∀ j : Nat, j < 6 → w.frozen? ⟨B, j, none⟩ = false
theorem Held.ext {w w' : World} {B K : Nat} {S} (h : Held w B S) (hb : Below K w w') (hB : B < K) : Held w' B S :=
  ⟨Nat.lt_of_lt_of_le h.lt hb.size, fun j hj => (hb.cell (p := ⟨B, j, none⟩) hB).trans (h.at_ j hj), fun j hj => (hb.frozen (p := ⟨B, j, none⟩) hB).trans (h.fz j hj)⟩
theorem Held.set {w : World} {B : Nat} {S} (h : Held w B S) (m : Nat) (hm : m < 6) : Held (w.setCell ⟨B, m, none⟩ (.bool true)) B (S ++ [(m : Int)]) := by
  refine ⟨by simpa using h.lt, fun j hj => ?_, fun j hj => by rw [World.frozen?_setCell]; exact h.fz j hj⟩
  rw [hasB_app]
  by_cases e : m = j
  · subst e
    rw [World.cell?_setCell_same _ _ _ (h.at_ m hm)]
    simp [hasB]
  · rw [World.cell?_setCell_other _ _ _ _ (fun q => e (congrArg Addr.off q)), h.at_ j hj]
    have : ((m : Int)) ≠ j := by omega
    simp [hasB, Ne.symm this]
theorem valid1_any {w : World} {t : ThV} (ht : t.ok w) (ok : thOk t.th = true) (w' : World) (hb : Below w.heap.size w w') (L : List Int) (q : Nat) (hH : Held w q L) :
    Calls Try.prog 59 #[valTh t, .pointer (some ⟨q, 0, none⟩)] w' fun e w'' => e = .returned (.bool (!waitsOk L t.th)) ∧ Below w'.heap.size w' w'' := by
  have hH' := hH.ext hb hH.lt
  have RD := Lib.hid (ht.1.ext hb)
  have hk := (thOk_iff.1 ok).2
  have hql := hH'.lt
  obtain ⟨pri, a, n, c, waits, holds⟩ := t
  simp only [ThV.th] at RD hk ⊢
  have hw : waitsOk L (Th.mk pri holds waits) = (decide (waits < 0) || (hasB L waits && !hasB holds waits)) := rfl
  rw [hw]
  by_cases h0 : 0 ≤ waits
  · obtain ⟨m, rfl⟩ := Int.eq_ofNat_of_zero_le h0
    have hc := hH'.at_ m (by omega)
    clear hb ht hH hH' hw ok
    rw [show decide ((m : Int) < 0) = false by simp]
    cases q0 : hasB L m
    · go_enter Try.func59, Try.ntmps59
      go_wp2_with (go_at_call 60; refine (contains_any _ _ _ _ _ _ (RD.out.ext (by (repeat' (first | (with_reducible exact Below.refl _ _) | (with_reducible assumption) | (with_reducible refine Below.alloc ?_ ?_ _) | (with_reducible refine Below.drew ?_) | (with_reducible refine Below.draws ?_ _) | (with_reducible refine Below.setCell ?_ ?_ _) | (refine Below.then ?_ (by with_reducible assumption)) | go_size))))).mono ?_; rintro e w1 ⟨rfl, rfl⟩)
      go_ret
      exact ⟨rfl, by (repeat' (first | (with_reducible exact Below.refl _ _) | (with_reducible assumption) | (with_reducible refine Below.alloc ?_ ?_ _) | (with_reducible refine Below.drew ?_) | (with_reducible refine Below.draws ?_ _) | (with_reducible refine Below.setCell ?_ ?_ _) | (refine Below.then ?_ (by with_reducible assumption)) | go_size))⟩
    · go_enter Try.func59, Try.ntmps59
      go_wp2_with (go_at_call 60; refine (contains_any _ _ _ _ _ _ (RD.out.ext (by (repeat' (first | (with_reducible exact Below.refl _ _) | (with_reducible assumption) | (with_reducible refine Below.alloc ?_ ?_ _) | (with_reducible refine Below.drew ?_) | (with_reducible refine Below.draws ?_ _) | (with_reducible refine Below.setCell ?_ ?_ _) | (refine Below.then ?_ (by with_reducible assumption)) | go_size))))).mono ?_; rintro e w1 ⟨rfl, rfl⟩)
      go_ret
      exact ⟨ret_bool (by simp), by (repeat' (first | (with_reducible exact Below.refl _ _) | (with_reducible assumption) | (with_reducible refine Below.alloc ?_ ?_ _) | (with_reducible refine Below.drew ?_) | (with_reducible refine Below.draws ?_ _) | (with_reducible refine Below.setCell ?_ ?_ _) | (refine Below.then ?_ (by with_reducible assumption)) | go_size))⟩
  · rw [show decide (waits < 0) = true by simp; omega]
    clear hb ht hH hH' hw ok
    go_enter Try.func59, Try.ntmps59
    go_wp2_with (go_at_call 60; refine (contains_any _ _ _ _ _ _ (RD.out.ext (by (repeat' (first | (with_reducible exact Below.refl _ _) | (with_reducible assumption) | (with_reducible refine Below.alloc ?_ ?_ _) | (with_reducible refine Below.drew ?_) | (with_reducible refine Below.draws ?_ _) | (with_reducible refine Below.setCell ?_ ?_ _) | (refine Below.then ?_ (by with_reducible assumption)) | go_size))))).mono ?_; rintro e w1 ⟨rfl, rfl⟩)
    go_ret
    exact ⟨rfl, by (repeat' (first | (with_reducible exact Below.refl _ _) | (with_reducible assumption) | (with_reducible refine Below.alloc ?_ ?_ _) | (with_reducible refine Below.drew ?_) | (with_reducible refine Below.draws ?_ _) | (with_reducible refine Below.setCell ?_ ?_ _) | (refine Below.then ?_ (by with_reducible assumption)) | go_size))⟩
end Go.Proofs.Ytmdjbnicjohkjaa
