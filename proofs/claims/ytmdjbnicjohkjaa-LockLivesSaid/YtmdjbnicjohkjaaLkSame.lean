/- Contracts of Ints and Same at equal lists, and of large. The conditions: the slices read as named. -/
import Derived.Test.YtmdjbnicjohkjaaLkCircW
namespace Go.Proofs.Ytmdjbnicjohkjaa
open Go.RowKit
set_option linter.unusedSimpArgs false
set_option linter.unusedVariables false
theorem ints_eq (a b : Option Addr) (n m c d : Nat) (xs : List Int) (w : World) (hA : Rd w a n 1 (xs.map enc1)) (hB : Rd w b m 1 (xs.map enc1)) :
    Calls Try.prog 24 #[.slice a n c, .slice b m d] w fun e w' => e = .returned (.bool true) ∧ Below w.heap.size w w' := by
  obtain rfl : m = n := by rw [← hA.length, ← hB.length]
  have hs := hA.small
  have HA := Lib.hid hA; have HB := Lib.hid hB
  clear hA hB
  go_enter Try.func24, Try.ntmps24
  go_wp2
  go_loopw [5] (fun i wr => ∃ k : Nat, k ≤ m ∧ i = .int .i64 k ∧ Below w.heap.size w wr) (fun i _ => m - (intOf i).toNat)
  case atStart => exact ⟨0, Nat.zero_le _, rfl, by (repeat' (first | (with_reducible exact Below.refl _ _) | (with_reducible assumption) | (with_reducible refine Below.alloc ?_ ?_ _) | (with_reducible refine Below.drew ?_) | (with_reducible refine Below.draws ?_ _) | (with_reducible refine Below.setCell ?_ ?_ _) | (refine Below.then ?_ (by with_reducible assumption)) | go_size))⟩
  case round =>
    obtain ⟨k, hk, rfl, hb⟩ := hrel
    have HW := Lib.hid hb
    clear hb
    by_cases hlt : k < m
    · obtain ⟨x, b1, o1, rfl, hb1, hx, HD⟩ := (HA.out.ext HW.out).next1 k hlt
      obtain ⟨y, b2, o2, rfl, hb2, hy, HD2⟩ := (HB.out.ext HW.out).next1 k hlt
      obtain rfl : x = y := by have h1 := HD.out; rw [HD2.out] at h1; simp at h1; exact h1.symm
      clear HD HD2
      go_wp2_with (refine wp_region_later_lit (by kernel_rfl) (by kernel_rfl) ?_; (repeat (go_big_quiet_step (fail))); refine wpQuiet_nil ?_; intro w1 hb1; obtain ⟨hc1, hf1, hz1, hr1⟩ := bfacts hb1; (try simp only [World.size_alloc, World.size_setCell, World.size_drew, World.size_drewN] at hz1 hr1); (try have hw0 : w.heap.size < w1.heap.size := by omega); (try have hw1 : w.heap.size + 1 < w1.heap.size := by omega); (try have hw2 : w.heap.size + 1 + 1 < w1.heap.size := by omega))
      go_roundw
      case rel => exact ⟨k + 1, by omega, by go_num, Below.then HW.out (by (repeat' (first | (with_reducible exact Below.refl _ _) | (with_reducible assumption) | (with_reducible refine Below.alloc ?_ ?_ _) | (with_reducible refine Below.drew ?_) | (with_reducible refine Below.draws ?_ _) | (with_reducible refine Below.setCell ?_ ?_ _) | (refine Below.then ?_ (by with_reducible assumption)) | go_size)))⟩
      case measure => simp [intOf]; omega
    · go_wp2
      go_ret
      exact ⟨rfl, HW.out⟩
theorem Rd.idx {w a n} {xs : List Int} (h : Rd w a n 1 (xs.map enc1)) (k : Nat) (hk : k < n) : ∃ (x : Int) (b off : Nat), a = some ⟨b, off, none⟩ ∧ b < w.heap.size ∧ w.cell? ⟨b, off + k, none⟩ = some (.int .i64 x) ∧ xs[k]? = some x := by
  obtain ⟨x, b, off, h1, h2, h3, HD⟩ := h.next1 k hk
  exact ⟨x, b, off, h1, h2, h3, get_of_drop HD.out⟩
set_option maxRecDepth 10000 in
set_option maxHeartbeats 1000000 in
theorem same_eq (a b : Option Addr) (n m c d : Nat) (g h : List ThV) (he : g.map ThV.th = h.map ThV.th) (w : World) (hA : RdG w a n g) (hB : RdG w b m h) :
    Calls Try.prog 25 #[.slice a n c, .slice b m d] w fun e w' => e = .returned (.bool true) ∧ Below w.heap.size w w' := by
  obtain rfl : m = n := by
    have := congrArg List.length he
    simp at this
    rw [← hA.length, ← hB.length, this]
  have hs := hA.small
  have HA := Lib.hid hA; have HB := Lib.hid hB; have HE := Lib.hid he
  clear hA hB he
  go_enter Try.func25, Try.ntmps25
  go_wp2
  go_loopw [5] (fun i wr => ∃ k : Nat, k ≤ m ∧ i = .int .i64 k ∧ Below w.heap.size w wr) (fun i _ => m - (intOf i).toNat)
  case atStart => exact ⟨0, Nat.zero_le _, rfl, by (repeat' (first | (with_reducible exact Below.refl _ _) | (with_reducible assumption) | (with_reducible refine Below.alloc ?_ ?_ _) | (with_reducible refine Below.drew ?_) | (with_reducible refine Below.draws ?_ _) | (with_reducible refine Below.setCell ?_ ?_ _) | (refine Below.then ?_ (by with_reducible assumption)) | go_size))⟩
  case round =>
    obtain ⟨k, hk, rfl, hb⟩ := hrel
    have HW := Lib.hid hb
    clear hb
    obtain ⟨hcw, hfw, hzw, hrw⟩ := bfacts HW.out
    by_cases hlt : k < m
    · obtain ⟨⟨pri, ta, tn, tc, waits, holds⟩, b1, o1, rfl, hb1, h1, h2, h3, ht, hgi, _⟩ := HA.out.at_ k hlt
      obtain ⟨⟨pri', ta', tn', tc', waits', holds'⟩, b2, o2, rfl, hb2, k1, k2, k3, kt, khi, _⟩ := HB.out.at_ k hlt
      have heq : (⟨pri, holds, waits⟩ : Th) = ⟨pri', holds', waits'⟩ := by
        have h5 : (g.map ThV.th)[k]? = (h.map ThV.th)[k]? := by rw [HE.out]
        rw [List.getElem?_map, List.getElem?_map, hgi, khi] at h5
        simpa [ThV.th] using h5
      simp only [Th.mk.injEq] at heq
      obtain ⟨rfl, rfl, rfl⟩ := heq
      obtain rfl : tn' = tn := kt.1.length.symm.trans ht.1.length
      simp only [] at h1 h2 h3 k1 k2 k3
      have HT := Lib.hid ht.1; have KT := Lib.hid kt.1
      have hts := ht.1.small
      clear ht kt hgi khi
      have hbz : b1 < wr.heap.size := by omega
      have hbz2 : b2 < wr.heap.size := by omega
      go_wp2_with (refine wp_region_later_lit (by kernel_rfl) (by kernel_rfl) ?_; (repeat (go_big_quiet_step (fail))); refine wpQuiet_nil ?_; intro w1 hb1; obtain ⟨hc1, hf1, hz1, hr1⟩ := bfacts hb1; (try simp only [World.size_alloc, World.size_setCell, World.size_drew, World.size_drewN] at hz1 hr1); (try have hw0 : w.heap.size < w1.heap.size := by omega); (try have hw1 : w.heap.size + 1 < w1.heap.size := by omega); (try have hw2 : w.heap.size + 1 + 1 < w1.heap.size := by omega))
      have HW1 : Hid (Below w.heap.size w w1) := Lib.hid (Below.then HW.out hb1)
      clear hcw hfw hzw hrw hc1 hf1 hz1 hr1 hb1 hbz hbz2
      go_loopw [6] (fun i wi => ∃ j : Nat, j ≤ tn' ∧ i = .int .i64 j ∧ Below w.heap.size w wi) (fun i _ => tn' - (intOf i).toNat)
      case atStart => exact ⟨0, Nat.zero_le _, rfl, HW1.out⟩
      case round =>
        obtain ⟨j, hj, rfl, hb⟩ := hrel
        have HW2 := Lib.hid hb
        clear hb
        obtain ⟨hcw, hfw, hzw, hrw⟩ := bfacts HW2.out
        have hbz : b1 < wr.heap.size := by omega
        have hbz2 : b2 < wr.heap.size := by omega
        by_cases hjl : j < tn'
        · obtain ⟨x, b3, o3, rfl, hb3, hx, HD⟩ := HT.out.next1 j hjl
          obtain ⟨y, b4, o4, rfl, hb4, hy, HD2⟩ := KT.out.next1 j hjl
          obtain rfl : x = y := by have h1 := HD.out; rw [HD2.out] at h1; simp at h1; exact h1.symm
          have hbz3 : b3 < wr.heap.size := by omega
          have hbz4 : b4 < wr.heap.size := by omega
          clear HD HD2
          go_wp2_with (refine wp_region_later_lit (by kernel_rfl) (by kernel_rfl) ?_; (repeat (go_big_quiet_step (fail))); refine wpQuiet_nil ?_; intro w1 hb1; obtain ⟨hc1, hf1, hz1, hr1⟩ := bfacts hb1; (try simp only [World.size_alloc, World.size_setCell, World.size_drew, World.size_drewN] at hz1 hr1); (try have hw0 : w.heap.size < w1.heap.size := by omega); (try have hw1 : w.heap.size + 1 < w1.heap.size := by omega); (try have hw2 : w.heap.size + 1 + 1 < w1.heap.size := by omega))
          go_roundw
          case rel => exact ⟨j + 1, by omega, by go_num, Below.then HW2.out hb1⟩
          case measure => simp [intOf]; omega
        · go_wp2
          go_roundw
          case rel => exact ⟨k + 1, by omega, by go_num, HW2.out⟩
          case measure => simp [intOf]; omega
    · go_wp2
      go_ret
      exact ⟨rfl, HW.out⟩
end Go.Proofs.Ytmdjbnicjohkjaa
