/- The contracts of as, entries; of the reference's Simulate on runs that are not valid. The conditions: the run reads as named. -/
import Derived.Test.YtlhnhmimhpcoaaaScHeavy
import Derived.Test.YtlhnhmimhpcoaaaScRval
namespace Go.Proofs.Ytlhnhmimhpcoaaa
open Go.RowKit
set_option linter.unusedSimpArgs false
set_option linter.unusedVariables false
theorem as_any (H : RunH) (fr sl_ : Int) (w : World) : Calls Try.prog 17 #[runV H fr sl_] w fun e w' => e = .returned (runV H fr sl_) ∧ Below w.heap.size w w' := by
  obtain ⟨tA, tN, tC, eA, eN, eC, bA, bN, bC, sA, sN, sC⟩ := H
  unfold runV
  simp only []
  go_enter Try.func17, Try.ntmps17
  go_wp2
  obtain ⟨w1, hw1⟩ : ∃ x, x = ((w.alloc (.cells #[.slice tA tN tC, .int .i64 fr, .int .i64 sl_, .slice eA eN eC, .slice bA bN bC, .slice sA sN sC] 29)).alloc (.cells #[.slice tA tN tC, .int .i64 fr, .int .i64 sl_, .slice eA eN eC, .slice bA bN bC, .slice sA sN sC] 37)) := ⟨_, rfl⟩
  rw [← hw1]
  have hb : Below w.heap.size w w1 := by rw [hw1]; (repeat' (first | (with_reducible exact Below.refl _ _) | (with_reducible assumption) | (with_reducible refine Below.alloc ?_ ?_ _) | (with_reducible refine Below.drew ?_) | (with_reducible refine Below.draws ?_ _) | (with_reducible refine Below.setCell ?_ ?_ _) | (refine Below.then ?_ (by with_reducible assumption)) | go_size))
  have x0 : w1.cell? ⟨w.heap.size + 1, 0, none⟩ = some (.slice tA tN tC) := by rw [hw1]; simp [go_sem]
  have x1 : w1.cell? ⟨w.heap.size + 1, 1, none⟩ = some (.int .i64 fr) := by rw [hw1]; simp [go_sem]
  have x2 : w1.cell? ⟨w.heap.size + 1, 2, none⟩ = some (.int .i64 sl_) := by rw [hw1]; simp [go_sem]
  have x3 : w1.cell? ⟨w.heap.size + 1, 3, none⟩ = some (.slice eA eN eC) := by rw [hw1]; simp [go_sem]
  have x4 : w1.cell? ⟨w.heap.size + 1, 4, none⟩ = some (.slice bA bN bC) := by rw [hw1]; simp [go_sem]
  have x5 : w1.cell? ⟨w.heap.size + 1, 5, none⟩ = some (.slice sA sN sC) := by rw [hw1]; simp [go_sem]
  exact bodyPost_ret (by simp [results, Try.results17, go_sem, x0, x1, x2, x3, x4, x5]) rfl ⟨rfl, hb⟩
theorem rSim_bad (H : RunH) (R : Rn) (t : Int) (w : World) (hR : ReadRun w H R) (h : (runB R && inB t 0 2000) = false) : Calls Try.prog 16 #[runV H R.fr R.sl, .int .i64 t] w fun e w' => e = .returned (.tuple #[.slice none 0 0, .int .i64 1]) ∧ Below w.heap.size w w' := by
  have HV := Lib.hid (fun w1 (hb : Below w.heap.size w w1) => rValid_run H R w1 (hR.ext hb))
  obtain ⟨A, hA⟩ : ∃ A, runB R = A := ⟨_, rfl⟩
  obtain ⟨C, hC⟩ : ∃ C, inB t 0 2000 = C := ⟨_, rfl⟩
  rw [hA, hC] at h
  rw [hA] at HV
  have HC := Lib.hid hC
  obtain ⟨fr, hfr⟩ : ∃ x, R.fr = x := ⟨_, rfl⟩
  obtain ⟨sl_, hsl⟩ : ∃ x, R.sl = x := ⟨_, rfl⟩
  rw [hfr, hsl] at HV ⊢
  obtain ⟨tA, tN, tC, eA, eN, eC, bA, bN, bC, sA, sN, sC⟩ := H
  unfold runV at HV ⊢
  simp only [] at HV ⊢
  clear hR hA hC hfr hsl
  cases A
  · go_enter Try.func16, Try.ntmps16
    go_wp2_with (go_at_call 19; (with_reducible refine (HV.out _ (by (repeat' (first | (with_reducible exact Below.refl _ _) | (with_reducible assumption) | (with_reducible refine Below.alloc ?_ ?_ _) | (with_reducible refine Below.drew ?_) | (with_reducible refine Below.draws ?_ _) | (with_reducible refine Below.setCell ?_ ?_ _) | (refine Below.then ?_ (by with_reducible assumption)) | go_size)))).mono ?_); rintro e w2 ⟨rfl, hb2⟩)
    go_ret2
    exact ⟨rfl, Below.trans (by (repeat' (first | (with_reducible exact Below.refl _ _) | (with_reducible assumption) | (with_reducible refine Below.alloc ?_ ?_ _) | (with_reducible refine Below.drew ?_) | (with_reducible refine Below.draws ?_ _) | (with_reducible refine Below.setCell ?_ ?_ _) | (refine Below.then ?_ (by with_reducible assumption)) | go_size))) (hb2.mono (by simp))⟩
  · obtain rfl : C = false := by simpa using h
    go_enter Try.func16, Try.ntmps16
    go_wp2_with (first
      | (go_at_call 19; (with_reducible refine (HV.out _ (by (repeat' (first | (with_reducible exact Below.refl _ _) | (with_reducible assumption) | (with_reducible refine Below.alloc ?_ ?_ _) | (with_reducible refine Below.drew ?_) | (with_reducible refine Below.draws ?_ _) | (with_reducible refine Below.setCell ?_ ?_ _) | (refine Below.then ?_ (by with_reducible assumption)) | go_size)))).mono ?_); rintro e w2 ⟨rfl, hb2⟩)
      | (go_at_call 47; (with_reducible refine (cin_is HC.out).mono ?_); rintro e w3 ⟨rfl, rfl⟩))
    go_ret2
    exact ⟨rfl, Below.trans (by (repeat' (first | (with_reducible exact Below.refl _ _) | (with_reducible assumption) | (with_reducible refine Below.alloc ?_ ?_ _) | (with_reducible refine Below.drew ?_) | (with_reducible refine Below.draws ?_ _) | (with_reducible refine Below.setCell ?_ ?_ _) | (refine Below.then ?_ (by with_reducible assumption)) | go_size))) (hb2.mono (by simp))⟩
theorem Rd.en_at {w : World} {a : Option Addr} {n : Nat} {xs : List En} (h : Rd w a n 5 (xs.map encE)) (k : Nat) (hk : k < n) : ∃ (e : En) (b off : Nat), a = some ⟨b, off, none⟩ ∧ b < w.heap.size ∧ xs[k]? = some e ∧
    w.cell? ⟨b, off + k * 5, none⟩ = some (.int .i64 e.m) ∧ w.cell? ⟨b, off + k * 5 + 1, none⟩ = some (.int .i64 e.k) ∧ w.cell? ⟨b, off + k * 5 + 2, none⟩ = some (.int .i64 e.w) ∧ w.cell? ⟨b, off + k * 5 + 3, none⟩ = some (.int .i64 e.a) ∧ w.cell? ⟨b, off + k * 5 + 4, none⟩ = some (.int .i64 e.b) := by
  obtain ⟨x, b, off, rfl, hb, hc, _, hg, _⟩ := h.nextK k hk
  have h0 := hc 0 (by omega)
  have h1 := hc 1 (by omega)
  have h2 := hc 2 (by omega)
  have h3 := hc 3 (by omega)
  have h4 := hc 4 (by omega)
  exact ⟨x, b, off, rfl, hb, hg, h0, h1, h2, h3, h4⟩
set_option maxRecDepth 100000 in
set_option maxHeartbeats 2000000 in
theorem entries_eq (a b : Option Addr) (n m c d : Nat) (xs : List En) (w : World) (hA : Rd w a n 5 (xs.map encE)) (hB : Rd w b m 5 (xs.map encE)) :
    Calls Try.prog 18 #[.slice a n c, .slice b m d] w fun e w' => e = .returned (.bool true) ∧ Below w.heap.size w w' := by
  obtain rfl : m = n := by rw [← hA.length, ← hB.length]
  have hs := hA.small
  have HA := Lib.hid hA; have HB := Lib.hid hB
  clear hA hB
  go_enter Try.func18, Try.ntmps18
  go_wp2
  go_loopw [5] (fun i wr => ∃ k : Nat, k ≤ m ∧ i = .int .i64 k ∧ Below w.heap.size w wr) (fun i _ => m - (intOf i).toNat)
  case atStart => exact ⟨0, Nat.zero_le _, rfl, by (repeat' (first | (with_reducible exact Below.refl _ _) | (with_reducible assumption) | (with_reducible refine Below.alloc ?_ ?_ _) | (with_reducible refine Below.drew ?_) | (with_reducible refine Below.draws ?_ _) | (with_reducible refine Below.setCell ?_ ?_ _) | (refine Below.then ?_ (by with_reducible assumption)) | go_size))⟩
  case round =>
    obtain ⟨k, hk, rfl, hb⟩ := hrel
    have HW := Lib.hid hb
    clear hb
    by_cases hlt : k < m
    · obtain ⟨x, b1, o1, rfl, hb1, hx, x0, x1, x2, x3, x4⟩ := (HA.out.ext HW.out).en_at k hlt
      obtain ⟨y, b2, o2, rfl, hb2, hy, y0, y1, y2, y3, y4⟩ := (HB.out.ext HW.out).en_at k hlt
      obtain rfl : x = y := by rw [hx] at hy; simpa using hy
      clear hx hy
      obtain ⟨m1, k1, w1, a1, c1⟩ := x
      simp only [] at x0 x1 x2 x3 x4 y0 y1 y2 y3 y4
      go_wp2_with (refine wp_region_later_lit (by kernel_rfl) (by kernel_rfl) ?_; (repeat (go_big_quiet_step (fail))); refine wpQuiet_nil ?_; intro w1 hb1)
      exact ⟨⟨k + 1, hlt, by go_num, Below.then HW.out hb1⟩, by simp [intOf]; omega⟩
    · go_wp2
      go_ret
      exact ⟨rfl, HW.out⟩
end Go.Proofs.Ytlhnhmimhpcoaaa
