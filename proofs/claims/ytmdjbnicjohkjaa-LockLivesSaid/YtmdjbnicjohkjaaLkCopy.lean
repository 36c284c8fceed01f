/- The contract of copied: slices.Clone of threads and of ints. The conditions: the graph reads as named. -/
import Derived.Test.YtmdjbnicjohkjaaLkHold
import Derived.Test.YtmdjbnicjohkjaaLkTo
namespace Go.Proofs.Ytmdjbnicjohkjaa
open Go.RowKit
set_option linter.unusedSimpArgs false
set_option linter.unusedVariables false
def ThV.blk (t : ThV) : Option Nat := (Value.slice t.a t.n t.c).ownBlock
/-- no two threads' locks lie in one block -/
def BlkAp (g : List ThV) : Prop := g.Pairwise (fun t u => ∀ x, t.blk = some x → u.blk ≠ some x)
theorem ThO.low {B : Nat} {w : World} {t : ThV} (h : ThO B w t) : ∀ x, t.blk = some x → B ≤ x ∧ x < w.heap.size := by
  intro x hx
  rcases h.2 with ⟨hv, _⟩ | ⟨g, cap, cur, hv, hB, hg, _⟩
  · unfold ThV.blk at hx; rw [hv] at hx; simp [Value.ownBlock] at hx
  · unfold ThV.blk at hx; rw [hv] at hx; simp [Value.ownBlock] at hx; subst hx; exact ⟨hB, (Array.getElem?_eq_some_iff.1 hg).1⟩
theorem flat_setH : ∀ (g : List ThV) (k : Nat) (t : ThV) (a : Option Addr) (n c : Nat) (hs : List Int), g[k]? = some t → (g.flatMap encTh).set (k * 3 + 1) (.slice a n c) = (g.set k ⟨t.pri, a, n, c, t.waits, hs⟩).flatMap encTh
  | [], k, t, a, n, c, hs, h => by simp at h
  | u :: g, 0, t, a, n, c, hs, h => by simp at h; subst h; rfl
  | u :: g, k + 1, t, a, n, c, hs, h => by
    have := flat_setH g k t a n c hs (by simpa using h)
    simp only [List.flatMap_cons, List.set_cons_succ]
    rw [← this]
    show ([Value.int .i64 u.pri, .slice u.a u.n u.c, .int .i64 u.waits] ++ g.flatMap encTh).set ((k + 1) * 3 + 1) _ = [Value.int .i64 u.pri, .slice u.a u.n u.c, .int .i64 u.waits] ++ _
    rw [show (k + 1) * 3 + 1 = (k * 3 + 1) + 1 + 1 + 1 by omega]
    rfl
theorem flat_setW : ∀ (g : List ThV) (k : Nat) (t : ThV) (x : Int), g[k]? = some t → (g.flatMap encTh).set (k * 3 + 2) (.int .i64 x) = (g.set k ⟨t.pri, t.a, t.n, t.c, x, t.holds⟩).flatMap encTh
  | [], k, t, x, h => by simp at h
  | u :: g, 0, t, x, h => by simp at h; subst h; rfl
  | u :: g, k + 1, t, x, h => by
    have := flat_setW g k t x (by simpa using h)
    simp only [List.flatMap_cons, List.set_cons_succ]
    rw [← this]
    show ([Value.int .i64 u.pri, .slice u.a u.n u.c, .int .i64 u.waits] ++ g.flatMap encTh).set ((k + 1) * 3 + 2) _ = [Value.int .i64 u.pri, .slice u.a u.n u.c, .int .i64 u.waits] ++ _
    rw [show (k + 1) * 3 + 2 = (k * 3 + 2) + 1 + 1 + 1 by omega]
    rfl
def OutN (B n : Nat) (T k : Nat) (w : World) (xs : List Value) (e : Ending) (w' : World) : Prop :=
  ∃ a c, e = .returned (.slice a n c) ∧ w'.ownsRow B T k (.slice a n c) n xs ∧ Below B w w'
theorem cloneG_any (ad : Addr) (n c : Nat) (g : List ThV) (w : World) (hn : n ≤ 1000) (hR : Rd w (some ad) n 3 (g.map encTh)) :
    Calls Try.prog 82 #[.slice (some ad) n c] w (OutN w.heap.size n 52 3 w (g.flatMap encTh)) := by
  have HR := Lib.hid hR
  have e1 := ETl
  have HOW : Hid ((w.alloc (.cells #[] 52)).ownsRow w.heap.size 52 3 (.slice (some ⟨w.heap.size, 0, none⟩) 0 0) 0 []) := Lib.hid (World.ownsRow_lit w #[] 0 (Nat.le_refl _) (by decide) rfl)
  have heq := Lib.run_eql_slice_nil (P := Try.prog) w 25 52 (some ad) n c 0 0 Try.underlying25
  clear hR
  go_enter Try.func82, Try.ntmps82
  go_wp2_with (at_builtin; refine wpList_pushAll (B := w.heap.size) (n := 0) (xs := []) rfl _ _ _ rfl e1 encTh_len encTh_one rfl HOW.out rfl (HR.out.ext (by (repeat' (first | (with_reducible exact Below.refl _ _) | (with_reducible assumption) | (with_reducible refine Below.alloc ?_ ?_ _) | (with_reducible refine Below.drew ?_) | (with_reducible refine Below.draws ?_ _) | (with_reducible refine Below.setCell ?_ ?_ _) | (refine Below.then ?_ (by with_reducible assumption)) | go_size)))) (fun _ => .inr ⟨_, rfl⟩) (by omega) (by decide) (by simp) ?_; intro v2 w2 hown2 hv2 hb2)
  rw [Nat.zero_add, List.nil_append] at hown2
  obtain ⟨a', c', rfl⟩ := hv2
  rw [Nat.zero_add] at hown2 ⊢
  go_ret
  exact ⟨_, _, rfl, hown2, Below.trans (by (repeat' (first | (with_reducible exact Below.refl _ _) | (with_reducible assumption) | (with_reducible refine Below.alloc ?_ ?_ _) | (with_reducible refine Below.drew ?_) | (with_reducible refine Below.draws ?_ _) | (with_reducible refine Below.setCell ?_ ?_ _) | (refine Below.then ?_ (by with_reducible assumption)) | go_size))) hb2⟩
theorem cloneI_any (a : Option Addr) (n c : Nat) (xs : List Int) (w : World) (hn : n ≤ 1000) (hR : Rd w a n 1 (xs.map enc1)) (h0 : n = 0 → (a = none ∧ c = 0) ∨ ∃ ad, a = some ad) :
    Calls Try.prog 83 #[.slice a n c] w (OutN w.heap.size n 3 1 w (xs.flatMap enc1)) := by
  have hl := hR.length
  rcases a with _ | ad
  · obtain rfl : n = 0 := by
      rcases Nat.eq_zero_or_pos n with q | q
      · exact q
      · obtain ⟨b, off, q2, _⟩ := hR.at_ q; simp at q2
    rcases h0 rfl with ⟨_, rfl⟩ | ⟨ad, q⟩
    · obtain rfl : xs = [] := List.length_eq_zero_iff.1 hl
      have heq := Lib.run_eql_slice_nil (P := Try.prog) w 27 3 none 0 0 0 0 Try.underlying27
      go_enter Try.func83, Try.ntmps83
      go_wp2
      go_ret
      exact ⟨_, _, rfl, World.ownsRow_nil _ _ _ _, Below.refl _ _⟩
    · simp at q
  · have HR := Lib.hid hR
    have e1 := E1
    have HOW : Hid ((w.alloc (.cells #[] 3)).ownsRow w.heap.size 3 1 (.slice (some ⟨w.heap.size, 0, none⟩) 0 0) 0 []) := Lib.hid (World.ownsRow_lit w #[] 0 (Nat.le_refl _) (by decide) rfl)
    have heq := Lib.run_eql_slice_nil (P := Try.prog) w 27 3 (some ad) n c 0 0 Try.underlying27
    clear hR hl h0
    go_enter Try.func83, Try.ntmps83
    go_wp2_with (at_builtin; refine wpList_pushAll (B := w.heap.size) (n := 0) (xs := []) rfl _ _ _ rfl e1 enc1_len enc1_one rfl HOW.out rfl (HR.out.ext (by (repeat' (first | (with_reducible exact Below.refl _ _) | (with_reducible assumption) | (with_reducible refine Below.alloc ?_ ?_ _) | (with_reducible refine Below.drew ?_) | (with_reducible refine Below.draws ?_ _) | (with_reducible refine Below.setCell ?_ ?_ _) | (refine Below.then ?_ (by with_reducible assumption)) | go_size)))) (fun _ => .inr ⟨_, rfl⟩) (by omega) (by decide) (by simp) ?_; intro v2 w2 hown2 hv2 hb2)
    rw [Nat.zero_add, List.nil_append] at hown2
    obtain ⟨a', c', rfl⟩ := hv2
    rw [Nat.zero_add] at hown2 ⊢
    go_ret
    exact ⟨_, _, rfl, hown2, Below.trans (by (repeat' (first | (with_reducible exact Below.refl _ _) | (with_reducible assumption) | (with_reducible refine Below.alloc ?_ ?_ _) | (with_reducible refine Below.drew ?_) | (with_reducible refine Below.draws ?_ _) | (with_reducible refine Below.setCell ?_ ?_ _) | (refine Below.then ?_ (by with_reducible assumption)) | go_size))) hb2⟩
/-- a copy of a graph: the locks in blocks of their own, apart from one another -/
def OutC (T : Nat) (n : Nat) (w : World) (g : List Th) (e : Ending) (w' : World) : Prop :=
  ∃ a c g', e = .returned (.slice a n c) ∧ OwnG T w.heap.size w' a n c g' ∧ g'.map ThV.th = g ∧ BlkAp g' ∧ Below w.heap.size w w'
theorem owns_addr {w : World} {B e k n c : Nat} {a : Option Addr} {xs : List Value} (h : w.ownsRow B e k (.slice a n c) n xs) (hn : 0 < n) : ∃ g, a = some ⟨g, 0, none⟩ ∧ B ≤ g ∧ g < w.heap.size := by
  rcases h.2 with ⟨_, h8⟩ | ⟨g, cap, cur, hv, hB, hg, _⟩
  · omega
  · simp at hv; exact ⟨g, hv.1, hB, (Array.getElem?_eq_some_iff.1 hg).1⟩
theorem owns3_at {w : World} {B q n c : Nat} {g : List ThV} (h : w.ownsRow B 52 3 (.slice (some ⟨q, 0, none⟩) n c) n (g.flatMap encTh)) {k : Nat} {t : ThV} (hk : g[k]? = some t) :
    w.cell? ⟨q, k * 3, none⟩ = some (.int .i64 t.pri) ∧ w.cell? ⟨q, k * 3 + 1, none⟩ = some (.slice t.a t.n t.c) ∧ w.cell? ⟨q, k * 3 + 2, none⟩ = some (.int .i64 t.waits) := by
  obtain ⟨hi, rfl⟩ := List.getElem?_eq_some_iff.1 hk
  have hl := (Rd.of_owns encTh_len (by decide) h).length
  have h0 := flat_get encTh_len g k 0 hi (by omega)
  have h1 := flat_get encTh_len g k 1 hi (by omega)
  have h2 := flat_get encTh_len g k 2 hi (by omega)
  rw [Nat.add_zero] at h0
  rw [h.cellAt (k * 3) (by omega), h.cellAt (k * 3 + 1) (by omega), h.cellAt (k * 3 + 2) (by omega), h0, h1, h2]
  exact ⟨rfl, rfl, rfl⟩
set_option maxRecDepth 10000 in
set_option maxHeartbeats 2000000 in
theorem copied_any (a : Option Addr) (n c : Nat) (g : List ThV) (hn0 : 0 < n) (hn : n ≤ 1000) (hH : ∀ t ∈ g, t.n ≤ 1000) (w : World) (hG : RdG w a n g) :
    Calls Try.prog 64 #[.slice a n c] w (OutC 52 n w (g.map ThV.th)) := by
  obtain ⟨_, b, off, rfl, hbw, _⟩ := hG.at_ 0 hn0
  have HR := Lib.hid hG
  have HG0 := Lib.hid hG.length
  have HH := Lib.hid hH
  clear hG hH
  go_enter Try.func64, Try.ntmps64
  go_wp2_with (go_at_call 82; (with_reducible refine (cloneG_any _ _ _ g _ hn HR.out.rd).mono ?_); rintro e w1 ⟨a1, c1, rfl, hown1, hb1⟩; obtain ⟨q, rfl, hq1, hq2⟩ := owns_addr hown1 hn0; have HO1 := Lib.hid hown1; have HB1 := Lib.hid hb1; clear hown1 hb1)
  go_loopw [9] (fun i wr => ∃ (k : Nat) (g' : List ThV), k ≤ n ∧ i = .int .i64 k ∧ g'.length = k ∧ wr.ownsRow w.heap.size 52 3 (.slice (some ⟨q, 0, none⟩) n c1) n ((g' ++ g.drop k).flatMap encTh) ∧ (∀ t ∈ g', ThO w.heap.size wr t) ∧ BlkAp g' ∧ g'.map ThV.th = (g.take k).map ThV.th ∧ q < wr.heap.size ∧ Below w.heap.size w wr) (fun i _ => n - (intOf i).toNat)
  case atStart => exact ⟨0, [], Nat.zero_le _, rfl, rfl, HO1.out, by simp, List.Pairwise.nil, rfl, hq2, HB1.out⟩
  case round =>
    obtain ⟨k, g', hk, rfl, hl, hO, hok, hap, hg', hq, hB⟩ := hrel
    have HO := Lib.hid hO; have HB := Lib.hid hB; have HG' := Lib.hid hg'; have HOK := Lib.hid hok; have HAP := Lib.hid hap; have HL := Lib.hid hl
    have hz := hB.size
    clear hO hB hg' hok hap hl HO1
    by_cases hlt : k < n
    · obtain ⟨⟨pri, ta, tn, tc, waits, holds⟩, b1, off1, e1, hb, h1, h2, h3, ht, hgi, HD⟩ := (HR.out.ext HB.out).at_ k hlt
      simp only [] at h1 h2 h3
      simp at e1
      obtain ⟨rfl, rfl⟩ := e1
      have htn : tn ≤ 1000 := HH.out _ (List.mem_of_getElem? hgi)
      have HT1 : Hid (Rd wr ta tn 1 (holds.map enc1)) := Lib.hid ht.1
      have HT2 : Hid (tn = 0 → (ta = none ∧ tc = 0) ∨ ∃ ad, ta = some ad) := Lib.hid ht.2
      have HTK := Lib.hid (take_of_drop HD.out)
      have hpl : (g' ++ g.drop k)[k]? = some (⟨pri, ta, tn, tc, waits, holds⟩ : ThV) := by
        rw [List.getElem?_append_right (by rw [HL.out]; exact Nat.le_refl _), HL.out, Nat.sub_self, HD.out]; rfl
      have HPL := Lib.hid hpl
      have hcq := (owns3_at HO.out hpl).2.1
      have hfq := HO.out.frozenAt (k * 3 + 1)
      simp only [] at hcq
      clear ht hgi hpl
      go_wp2_with (go_at_call 83; (with_reducible refine (cloneI_any _ _ _ holds _ htn HT1.out HT2.out).mono ?_); rintro e w2 ⟨a2, c2, rfl, hown2, hb2⟩; have HO2 := Lib.hid hown2; have HB2 := Lib.hid hb2; (have hc2 := (hb2.cell (p := ⟨q, k * 3 + 1, none⟩) hq).trans hcq); (have hf2 := (hb2.frozen (p := ⟨q, k * 3 + 1, none⟩) hq).trans hfq); have hz2 := hb2.size; clear hown2 hb2)
      go_roundw
      case rel =>
        have hs := (owns_ext HO.out HB2.out).stored (k * 3 + 1) (.slice a2 tn c2)
        rw [flat_setH _ k _ _ _ _ holds HPL.out] at hs
        have hst : ∀ {t : ThV} {B : Nat}, ThO B w2 t → ThO B (w2.setCell ⟨q, k * 3 + 1, none⟩ (.slice a2 tn c2)) t := fun h => owns_kept h (owns_ext HO.out HB2.out) (by decide) hs.2
        refine ⟨k + 1, g' ++ [⟨pri, a2, tn, c2, waits, holds⟩], by omega, by go_num, by simp [HL.out], ?_, ?_, ?_, ?_, by simp; omega, ?_⟩
        · have e : (g' ++ g.drop k).set k (⟨pri, a2, tn, c2, waits, holds⟩ : ThV) = g' ++ [⟨pri, a2, tn, c2, waits, holds⟩] ++ g.drop (k + 1) := by
            rw [List.set_append_right _ _ (by rw [HL.out]; exact Nat.le_refl _), HL.out, Nat.sub_self, HD.out, List.append_assoc]; rfl
          rw [← e]; exact hs.1
        · intro t ht
          rcases List.mem_append.1 ht with ht | ht
          · exact hst (owns_ext (HOK.out t ht) HB2.out)
          · simp at ht; subst ht; exact hst (owns_mono HO2.out hz)
        · refine List.pairwise_append.2 ⟨HAP.out, List.pairwise_singleton _ _, ?_⟩
          intro t ht u hu x hx hy
          simp at hu
          subst hu
          have h1 := (ThO.low (HOK.out t ht) x hx).2
          have h2 := (ThO.low (B := wr.heap.size) (t := ⟨pri, a2, tn, c2, waits, holds⟩) HO2.out x hy).1
          omega
        · rw [HTK.out, List.map_append, List.map_append, HG'.out]; rfl
        · exact (Below.then HB.out HB2.out).setCell (p := ⟨q, k * 3 + 1, none⟩) hq1 _
      case measure => simp [intOf]; omega
    · have hkn : k = n := by omega
      subst hkn
      have e1 : g.drop k = [] := List.drop_of_length_le (by rw [HG0.out]; exact Nat.le_refl _)
      have e2 : g.take k = g := List.take_of_length_le (by rw [HG0.out]; exact Nat.le_refl _)
      have hO := HO.out
      rw [e1, List.append_nil] at hO
      have HO3 := Lib.hid hO
      have hg' := HG'.out
      rw [e2] at hg'
      have HG3 := Lib.hid hg'
      clear hO hg' e1 e2
      go_wp2
      go_ret
      exact ⟨_, _, g', rfl, ⟨HO3.out, HOK.out⟩, HG3.out, HAP.out, HB.out⟩
end Go.Proofs.Ytmdjbnicjohkjaa
