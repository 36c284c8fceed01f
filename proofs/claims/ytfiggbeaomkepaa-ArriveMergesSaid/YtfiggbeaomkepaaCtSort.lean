/- The contract of slices.Sort at ints, at a row that the call made. The conditions: the row is the caller's own. (The laying was printed by wip/tools/mksort.py.) -/
import Derived.Test.YtfiggbeaomkepaaIrow
import Derived.Test.YtfiggbeaomkepaaTkPure
import Derived.Shelf.SortM.Plain
import Derived.Shelf.SortM.SortNone
import Derived.Lib.SortBridge
import Derived.Lib.RowBridge
import Derived.Lib.AppendIntMem
namespace Go.Proofs.Ytfiggbeaomkepaa
open Go.RowKit
set_option linter.unusedSimpArgs false
set_option linter.unusedVariables false
def sortRen : Go.Shelf.Ren := ⟨fun | 5 => 58 | 8 => 77 | 7 => 76 | 19 => 98 | 20 => 99 | 10 => 89 | 11 => 90 | 12 => 91 | 13 => 92 | 14 => 93 | 15 => 94 | 16 => 95 | 17 => 96 | 18 => 97 | 30 => 102 | 31 => 103 | 32 => 104 | 33 => 105 | 34 => 106 | 35 => 80 | 40 => 108 | n => n, fun | 23 => 55 | 25 => 3 | 3 => 3 | 32 => 88 | 22 => 55 | 0 => 0 | 44 => 105 | 46 => 107 | 4 => 4 | 36 => 97 | 35 => 96 | 41 => 102 | 5 => 5 | 9 => 9 | 53 => 110 | 57 => 114 | 63 => 116 | 64 => 117 | n => n, fun n => n⟩
theorem sortLay : Go.Proofs.SlLaysM.n5 Try.prog sortRen := {
  mixed := by kernel_rfl
  f5 := ⟨Try.f58.name, by decide, Try.func58.trans (congrArg some (by kernel_rfl))⟩
  f7 := ⟨Try.f76.name, by decide, Try.func76.trans (congrArg some (by kernel_rfl))⟩
  f8 := Try.func77.trans (congrArg some (by kernel_rfl))
  f10 := ⟨Try.f89.name, by decide, Try.func89.trans (congrArg some (by kernel_rfl))⟩
  f11 := ⟨Try.f90.name, by decide, Try.func90.trans (congrArg some (by kernel_rfl))⟩
  f12 := ⟨Try.f91.name, by decide, Try.func91.trans (congrArg some (by kernel_rfl))⟩
  f13 := ⟨Try.f92.name, by decide, Try.func92.trans (congrArg some (by kernel_rfl))⟩
  f14 := ⟨Try.f93.name, by decide, Try.func93.trans (congrArg some (by kernel_rfl))⟩
  f15 := ⟨Try.f94.name, by decide, Try.func94.trans (congrArg some (by kernel_rfl))⟩
  f16 := ⟨Try.f95.name, by decide, Try.func95.trans (congrArg some (by kernel_rfl))⟩
  f17 := ⟨Try.f96.name, by decide, Try.func96.trans (congrArg some (by kernel_rfl))⟩
  f18 := ⟨Try.f97.name, by decide, Try.func97.trans (congrArg some (by kernel_rfl))⟩
  f19 := Try.func98.trans (congrArg some (by kernel_rfl))
  f20 := Try.func99.trans (congrArg some (by kernel_rfl))
  f30 := ⟨Try.f102.name, by decide, Try.func102.trans (congrArg some (by kernel_rfl))⟩
  f31 := Try.func103.trans (congrArg some (by kernel_rfl))
  f32 := Try.func104.trans (congrArg some (by kernel_rfl))
  f33 := ⟨Try.f105.name, by decide, Try.func105.trans (congrArg some (by kernel_rfl))⟩
  f34 := ⟨Try.f106.name, by decide, Try.func106.trans (congrArg some (by kernel_rfl))⟩
  f35 := ⟨Try.f80.name, by decide, Try.func80.trans (congrArg some (by kernel_rfl))⟩
  f40 := ⟨Try.f108.name, by decide, Try.func108.trans (congrArg some (by kernel_rfl))⟩
  t0 := Try.underlying0
  a0 := Try.isAgg0
  z0 := Try.sizeOf0
  v0 := Try.zeroValue0
  t3 := Try.underlying3
  a3 := Try.isAgg3
  z3 := Try.sizeOf3
  v3 := Try.zeroValue3
  t4 := Try.underlying4
  a4 := Try.isAgg4
  z4 := Try.sizeOf4
  v4 := Try.zeroValue4
  t5 := Try.underlying5
  a5 := Try.isAgg5
  z5 := Try.sizeOf5
  v5 := Try.zeroValue5
  t9 := Try.underlying9
  a9 := Try.isAgg9
  z9 := Try.sizeOf9
  v9 := Try.zeroValue9
  t22 := Try.underlying55
  a22 := Try.isAgg55
  z22 := Try.sizeOf55
  v22 := Try.zeroValue55
  t23 := Try.underlying55
  a23 := Try.isAgg55
  z23 := Try.sizeOf55
  v23 := Try.zeroValue55
  t25 := Try.underlying3
  a25 := Try.isAgg3
  z25 := Try.sizeOf3
  v25 := Try.zeroValue3
  t32 := Try.underlying88
  a32 := Try.isAgg88
  z32 := Try.sizeOf88
  v32 := Try.zeroValue88
  t35 := Try.underlying96
  a35 := Try.isAgg96
  z35 := Try.sizeOf96
  v35 := Try.zeroValue96
  t36 := Try.underlying97
  a36 := Try.isAgg97
  z36 := Try.sizeOf97
  v36 := Try.zeroValue97
  t41 := Try.underlying102
  a41 := Try.isAgg102
  z41 := Try.sizeOf102
  v41 := Try.zeroValue102
  t44 := Try.underlying105
  a44 := Try.isAgg105
  z44 := Try.sizeOf105
  v44 := Try.zeroValue105
  t46 := Try.underlying107
  a46 := Try.isAgg107
  z46 := Try.sizeOf107
  v46 := Try.zeroValue107
  t53 := Try.underlying110
  a53 := Try.isAgg110
  z53 := Try.sizeOf110
  v53 := Try.zeroValue110
  t57 := Try.underlying114
  a57 := Try.isAgg114
  z57 := Try.sizeOf114
  v57 := Try.zeroValue114
  t63 := Try.underlying116
  a63 := Try.isAgg116
  z63 := Try.sizeOf116
  v63 := Try.zeroValue116
  t64 := Try.underlying117
  a64 := Try.isAgg117
  z64 := Try.sizeOf117
  v64 := Try.zeroValue117 }
/-- cells written from place o on -/
def putL : List Value → Nat → List Value → List Value
  | xs, _, [] => xs
  | xs, o, v :: r => putL (xs.set o v) (o + 1) r
theorem putL_all : ∀ (r p q : List Value), q.length = r.length → putL (p ++ q) p.length r = p ++ r
  | [], p, q, h => by
    have : q = [] := List.length_eq_zero_iff.1 h
    rw [this]; rfl
  | v :: r, p, q, h => by
    obtain ⟨x, q', rfl⟩ : ∃ x q', q = x :: q' := by
      cases q with
      | nil => simp at h
      | cons x q' => exact ⟨x, q', rfl⟩
    rw [putL, List.set_append_right _ _ (Nat.le_refl _), Nat.sub_self, List.set_cons_zero]
    have := putL_all r (p ++ [v]) q' (by simpa using h)
    simpa using this
theorem owns_putL {B e k n c g : Nat} : ∀ (vs : List Value) (o : Nat) (w : World) (xs : List Value), w.ownsRow B e k (.slice (some ⟨g, 0, none⟩) n c) n xs →
    (w.setCells g o vs).ownsRow B e k (.slice (some ⟨g, 0, none⟩) n c) n (putL xs o vs) ∧ w.grownBy (w.setCells g o vs) (some g)
  | [], o, w, xs, h => ⟨h, World.grownBy.refl _ _⟩
  | v :: r, o, w, xs, h => by
    have h1 := h.stored o v
    have h2 := owns_putL r (o + 1) _ _ h1.1
    exact ⟨h2.1, h1.2.trans h2.2⟩
theorem merge_isort (xs : List Int) : xs.mergeSort (fun x y => decide (x ≤ y)) = isortL (fun a b : Int => decide (a < b)) xs := by
  have p1 : (xs.mergeSort (fun x y => decide (x ≤ y))).Perm (isortL (fun a b : Int => decide (a < b)) xs) := (List.mergeSort_perm xs _).trans (isort_perm _ xs).symm
  have s1 : (xs.mergeSort (fun x y => decide (x ≤ y))).Pairwise (fun a b => a ≤ b) := (List.pairwise_mergeSort (le := fun x y : Int => decide (x ≤ y)) (by intro a b c h1 h2; simp at *; omega) (by intro a b; simp; omega) xs).imp (by intro a b h; simpa using h)
  have s2 : (isortL (fun a b : Int => decide (a < b)) xs).Pairwise (fun a b => a ≤ b) := isort_pw (fun a b c h1 h2 => by omega) (fun a b h => by simp at h; omega) (List.pairwise_iff_forall_sublist.2 (fun {a b} _ => by intro h; simp at h; omega))
  exact p1.eq_of_pairwise (fun a b _ _ h1 h2 => by omega) s1 s2
def SortQ (B : Nat) (w : World) (v : Value) (n : Nat) (xs : List Int) (e : Ending) (w' : World) : Prop :=
  e = .returned (.tuple #[]) ∧ w'.ownsRow B 3 1 v n (xs.flatMap enc1) ∧ w.grownBy w' v.ownBlock
theorem grow_below' (w : World) (os : Array Obj) : Below w.heap.size w (Go.Sort.grow w os) := by
  refine ⟨rfl, rfl, rfl, ?_, fun j hj => ?_⟩
  · show w.heap.size ≤ (w.heap ++ os).size
    simp
  · show (w.heap ++ os)[j]? = w.heap[j]?
    rw [Array.getElem?_append_left hj]
theorem sortInt_any (B n c : Nat) (a : Option Addr) (xs : List Int) (w : World) (hn0 : n ≤ 1000) (hO : w.ownsRow B 3 1 (.slice a n c) n (xs.flatMap enc1)) :
    Calls Try.prog 58 #[.slice a n c] w (SortQ B w (.slice a n c) n (isortL (fun a b : Int => decide (a < b)) xs)) := by
  have hlen : xs.length = n := (ownsI_rd hO).length
  rcases hO.2 with ⟨hv, h0⟩ | ⟨g, cap, cur, hv, hB, hg, hn, hc, hs, ht⟩
  · simp at hv
    obtain ⟨rfl, rfl, rfl⟩ := hv
    obtain rfl : xs = [] := List.length_eq_zero_iff.1 hlen
    refine (AnyM.slices_Sort_int_none sortLay none 0 w).mono ?_
    rintro e w' ⟨rfl, rfl⟩
    exact ⟨rfl, hO, World.grownBy.refl _ _⟩
  · simp at hv
    obtain ⟨rfl, rfl⟩ := hv
    have hgs := (Array.getElem?_eq_some_iff.1 hg).1
    have hH : Go.Sort.Holds (Value.int .i64) w g 0 xs.toArray := by
      have := Lib.holds_of_ints (w := w) (b := g) (off := 0) (n := n) (zs := xs) (by omega) (fun j hj => by
        obtain ⟨x, hx, hcx, _⟩ := ownsI_at hO j (by omega)
        rw [Nat.zero_add, hcx, List.getD_eq_getElem?_getD, hx]; rfl) (fun j hj => by rw [Nat.zero_add]; exact hO.frozenAt j)
      rw [List.take_of_length_le (by omega)] at this
      exact this
    have hS := AnyM.slices_Sort_int sortLay g 0 c xs w hH hgs (by omega)
    rw [hlen] at hS
    refine hS.mono ?_
    rintro e w' ⟨rfl, q, os, rfl⟩
    have hl2 : (xs.mergeSort (fun x y => decide (x ≤ y))).length = xs.toArray.size := by rw [(List.mergeSort_perm xs _).length_eq]; rfl
    rw [Lib.sorted_world (Value.int .i64) w g 0 q xs.toArray (xs.mergeSort (fun x y => decide (x ≤ y))) os hH hl2]
    have h1 := owns_putL ((xs.mergeSort (fun x y => decide (x ≤ y))).map (Value.int .i64)) 0 (w.drewN q) _ (owns_ext hO (below_draws q))
    have e1 : putL (xs.flatMap enc1) 0 ((xs.mergeSort (fun x y => decide (x ≤ y))).map (Value.int .i64)) = (xs.mergeSort (fun x y => decide (x ≤ y))).map (Value.int .i64) := by
      have := putL_all ((xs.mergeSort (fun x y => decide (x ≤ y))).map (Value.int .i64)) [] (xs.flatMap enc1) (by rw [flat_enc1, List.length_map, List.length_map, (List.mergeSort_perm xs _).length_eq])
      simpa using this
    rw [e1] at h1
    have hb : Below ((w.drewN q).setCells g 0 ((xs.mergeSort (fun x y => decide (x ≤ y))).map (Value.int .i64))).heap.size ((w.drewN q).setCells g 0 ((xs.mergeSort (fun x y => decide (x ≤ y))).map (Value.int .i64))) (Go.Sort.grow ((w.drewN q).setCells g 0 ((xs.mergeSort (fun x y => decide (x ≤ y))).map (Value.int .i64))) os) := grow_below' _ _
    refine ⟨rfl, ?_, ?_⟩
    · rw [flat_enc1, ← merge_isort]
      exact owns_ext h1.1 hb
    · have h2 : w.grownBy (w.drewN q) (some g) := ⟨rfl, rfl, rfl, Nat.le_refl _, fun _ _ _ => rfl⟩
      exact (h2.trans h1.2).trans ⟨hb.os, hb.tape, hb.output, hb.size, fun j hj _ => hb.block j hj⟩
end Go.Proofs.Ytfiggbeaomkepaa
