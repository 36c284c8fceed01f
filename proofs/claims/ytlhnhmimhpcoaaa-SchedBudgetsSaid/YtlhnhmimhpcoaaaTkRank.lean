/- The contracts of ranked of the program, and of Ahead, Tasks, Ceiling, Ranks of the reference. The conditions: the tasks read as named. -/
import Derived.Test.YtlhnhmimhpcoaaaTkMem
import Derived.Test.YtlhnhmimhpcoaaaTkSort
namespace Go.Proofs.Ytlhnhmimhpcoaaa
open Go.RowKit
set_option linter.unusedSimpArgs false
set_option linter.unusedVariables false
theorem priI_nat {L : List Ta} {x : Int} {t : Ta} (h0 : 0 ≤ x) (h : L[x.toNat]? = some t) : priI L x = t.pri := by simp [priI, taAt, h]
set_option maxHeartbeats 1000000 in
theorem rcmp_any (a : Option Addr) (n c q : Nat) (L : List Ta) (x y : Int) (w : World) (hL : RdL w a n L) (hq : w.cell? ⟨q, 0, none⟩ = some (.slice a n c)) (hqw : q < w.heap.size) (hx : 0 ≤ x ∧ x < n) (hy : 0 ≤ y ∧ y < n) :
    Calls Try.prog 124 #[.int .i64 x, .int .i64 y, .pointer (some ⟨q, 0, none⟩)] w fun e w' => e = .returned (.int .i64 (cmpI (priI L y) (priI L x))) ∧ Below w.heap.size w w' := by
  obtain ⟨i, rfl⟩ := Int.eq_ofNat_of_zero_le hx.1
  obtain ⟨j, rfl⟩ := Int.eq_ofNat_of_zero_le hy.1
  have hi : i < n := by omega
  have hj : j < n := by omega
  obtain ⟨t, b, off, pa, pn, pc, rfl, hb, c0, _, _, _, _, _, _, _, hg, _⟩ := hL.at_ i hi
  obtain ⟨u, b2, off2, pa2, pn2, pc2, e2, _, d0, _, _, _, _, _, _, _, hg2, _⟩ := hL.at_ j hj
  simp at e2
  obtain ⟨rfl, rfl⟩ := e2
  have hs := hL.small
  rw [priI_of hg, priI_of hg2]
  clear hL hx hy hg hg2
  go_enter Try.func124, Try.ntmps124
  go_wp2_with (refine wp_region_later_lit (by kernel_rfl) (by kernel_rfl) ?_; (repeat (go_big_quiet_step ((go_at_call 125; exact later_same (compare_any _ _ _))))); refine wpQuiet_nil ?_; intro w1 hb1)
  go_ret
  exact ⟨rfl, hb1⟩
theorem replicate_cut (n k : Nat) (h : k < n) : List.replicate (n - k) (0 : Int) = 0 :: List.replicate (n - (k + 1)) 0 := by
  rw [show n - k = (n - (k + 1)) + 1 by omega, List.replicate_succ]
theorem idxs_snoc (k : Nat) : idxs (k + 1) = idxs k ++ [(k : Int)] := by simp [idxs, List.range_succ]
theorem ltOf_rank (L : List Ta) : ltOf (fun x y => cmpI (priI L y) (priI L x)) = ltR L := by funext x y; unfold ltOf ltR; rw [cmpI_lt]
set_option maxRecDepth 10000 in
set_option maxHeartbeats 2000000 in
theorem ranked_any (a : Option Addr) (n c : Nat) (L : List Ta) (w : World) (hL : RdL w a n L) (hn : n < 20) :
    Calls Try.prog 101 #[.slice a n c] w (OutN w.heap.size n 3 1 w ((rankL L).flatMap enc1)) := by
  have hll := hL.length
  have HR := Lib.hid hL
  have HLL := Lib.hid hll
  clear hL hll
  go_enter Try.func101, Try.ntmps101
  go_wp2_with (at_make; refine wpList_mkI rfl _ _ rfl n rfl rfl rfl rfl (by omega) (Nat.le_refl _) ?_; intro w1 hown1 hb1 hlt1; have HO1 := Lib.hid hown1; have hc1 : w1.cell? ⟨w.heap.size, 0, none⟩ = some (.slice a n c) := (hb1.cell (p := ⟨w.heap.size, 0, none⟩) (by simp)).trans (by simp [go_sem]); have HB1 := Lib.hid hb1; clear hown1 hb1)
  simp only [World.size_alloc] at HO1 HB1 hlt1
  have HC1 := Lib.hid hc1
  clear hc1
  go_loopw [10] (fun i wr => ∃ k : Nat, k ≤ n ∧ i = .int .i64 k ∧ wr.ownsRow (w.heap.size + 1) 3 1 (.slice (some ⟨w.heap.size + 1, 0, none⟩) n n) n ((idxs k ++ List.replicate (n - k) 0).flatMap enc1) ∧ wr.cell? ⟨w.heap.size, 0, none⟩ = some (.slice a n c) ∧ w.heap.size + 1 < wr.heap.size ∧ Below w.heap.size w wr) (fun i _ => n - (intOf i).toNat)
  case atStart => exact ⟨0, Nat.zero_le _, rfl, HO1.out, HC1.out, hlt1, Below.trans (by (repeat' (first | (with_reducible exact Below.refl _ _) | (with_reducible assumption) | (with_reducible refine Below.alloc ?_ ?_ _) | (with_reducible refine Below.drew ?_) | (with_reducible refine Below.draws ?_ _) | (with_reducible refine Below.setCell ?_ ?_ _) | (refine Below.then ?_ (by with_reducible assumption)) | go_size))) (HB1.out.mono (by simp))⟩
  case round =>
    obtain ⟨k, hk, rfl, hO, hc, hz, hB⟩ := hrel
    have HO := Lib.hid hO; have HB := Lib.hid hB
    clear hO hB HO1 HC1 HB1 hlt1
    by_cases hlt : k < n
    · obtain ⟨x, hx, hcx, hfx, hqx⟩ := ownsI_at HO.out k hlt
      have HO2 : Hid ((wr.setCell ⟨w.heap.size + 1, k, none⟩ (.int .i64 k)).ownsRow (w.heap.size + 1) 3 1 (.slice (some ⟨w.heap.size + 1, 0, none⟩) n n) n ((idxs (k + 1) ++ List.replicate (n - (k + 1)) 0).flatMap enc1)) := by
        have := ownsI_set HO.out k k
        rw [List.set_append_right _ _ (by rw [idxs_len]; exact Nat.le_refl _), idxs_len, Nat.sub_self, replicate_cut n k hlt, List.set_cons_zero] at this
        rw [idxs_snoc, List.append_assoc]
        exact Lib.hid this
      clear hx
      go_wp2_with (first | go_region)
      go_roundw
      case rel => exact ⟨k + 1, by omega, by go_num, HO2.out, (World.cell?_setCell_other _ _ _ _ (fun q => by have := congrArg Addr.block q; simp only [] at this; omega)).trans hc, by simpa using hz, HB.out.setCell (p := ⟨w.heap.size + 1, k, none⟩) (by simp) _⟩
      case measure => simp [intOf]; omega
    · obtain rfl : k = n := by omega
      have hO := HO.out
      rw [Nat.sub_self, List.replicate_zero, List.append_nil] at hO
      have HO3 := Lib.hid hO
      have HCM : Hid (CmpOn 124 #[.pointer (some ⟨w.heap.size, 0, none⟩)] (fun x y => cmpI (priI L y) (priI L x)) (w.heap.size + 1) (idxs k) wr) := by
        refine Lib.hid ⟨fun args w => by kernel_rfl, fun wi x y hg hx hy => ?_⟩
        have hL' : RdL wi a k L := HR.out.ext ((HB.out).grown hg (by omega) (fun j hj => by simp at hj; omega))
        exact rcmp_any a k c w.heap.size L x y wi hL' (hg.cell hc (by simp)) (Nat.lt_of_lt_of_le (by omega) hg.size) (idxs_mem.1 hx) (idxs_mem.1 hy)
      have hcc := Lib.hid hc
      clear hO hc
      go_wp2_with (go_at_call 123; (with_reducible refine (sortStable_any _ _ _ _ _ _ _ _ _ hn HO3.out HCM.out).mono ?_); rintro e w2 ⟨rfl, ho2, hg2⟩; have HO4 := Lib.hid ho2; have HG2 := Lib.hid hg2; clear ho2 hg2)
      go_ret
      refine ⟨_, _, rfl, owns_mono ?_ (Nat.le_succ _), (HB.out).grown HG2.out (by omega) (fun j hj => by simp at hj; omega)⟩
      have := HO4.out
      rw [ltOf_rank] at this
      have e : rankL L = isortL (ltR L) (idxs k) := by unfold rankL; rw [HLL.out]
      rw [e]; exact this
end Go.Proofs.Ytlhnhmimhpcoaaa
