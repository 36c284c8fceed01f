/- Contracts of to and from of the law's package. The conditions: the graph reads as named. -/
import Derived.Test.YtmdjbnicjohkjaaLkValid2
import Derived.Test.YtmdjbnicjohkjaaApp
namespace Go.Proofs.Ytmdjbnicjohkjaa
open Go.RowKit
set_option linter.unusedSimpArgs false
set_option linter.unusedVariables false
theorem ETl : Elt Try.prog 25 52 3 40 := Elt.mk' (z := .agg #[.int .i64 0, .slice none 0 0, .int .i64 0]) Try.underlying25 (by kernel_rfl) rfl (by decide)
theorem ETr : Elt Try.prog 22 45 3 40 := Elt.mk' (z := .agg #[.int .i64 0, .slice none 0 0, .int .i64 0]) Try.underlying22 (by kernel_rfl) rfl (by decide)
/-- a thread whose locks lie in a row that the call made -/
def ThO (B : Nat) (w : World) (t : ThV) : Prop := w.ownsRow B 3 1 (.slice t.a t.n t.c) t.n (t.holds.flatMap enc1)
/-- a graph that the call made -/
structure OwnG (T B : Nat) (w : World) (a : Option Addr) (n c : Nat) (g : List ThV) : Prop where
  own : w.ownsRow B T 3 (.slice a n c) n (g.flatMap encTh)
  ok : ∀ t ∈ g, ThO B w t
theorem owns_nil' {w : World} {B e k n c : Nat} {a : Option Addr} {xs : List Value} (h : w.ownsRow B e k (.slice a n c) n xs) : n = 0 → (a = none ∧ c = 0) ∨ ∃ ad, a = some ad := by
  intro _
  rcases h.2 with ⟨hv, _⟩ | ⟨g, cap, cur, hv, _⟩
  · simp at hv; exact .inl ⟨hv.1, hv.2.2⟩
  · simp at hv; exact .inr ⟨_, hv.1⟩
theorem OwnG.rd {T B : Nat} {w : World} {a n c g} (h : OwnG T B w a n c g) : RdG w a n g :=
  ⟨Rd.of_owns encTh_len (by decide) h.own, fun t ht => ⟨ownsI_rd (h.ok t ht), owns_nil' (h.ok t ht)⟩⟩
theorem OwnG.ext {T B : Nat} {w w' : World} {a n c g} (h : OwnG T B w a n c g) (hb : Below w.heap.size w w') : OwnG T B w' a n c g :=
  ⟨owns_ext h.own hb, fun t ht => owns_ext (h.ok t ht) hb⟩
def OutG (T B : Nat) (w : World) (g : List Th) (e : Ending) (w' : World) : Prop :=
  ∃ a n c g', e = .returned (.slice a n c) ∧ OwnG T B w' a n c g' ∧ g'.map ThV.th = g ∧ Below B w w'
set_option maxRecDepth 10000 in
set_option maxHeartbeats 2000000 in
theorem to_any (a : Option Addr) (n c : Nat) (g : List ThV) (hn : n ≤ 1000) (hH : ∀ t ∈ g, t.n ≤ 1000) (w : World) (hG : RdG w a n g) :
    Calls Try.prog 15 #[.slice a n c] w (OutG 52 w.heap.size w (g.map ThV.th)) := by
  have HR := Lib.hid hG
  have HG0 := Lib.hid hG.length
  clear hG
  have HH := Lib.hid hH
  clear hH
  have e1 := E1
  have e2 := ETl
  go_enter Try.func15, Try.ntmps15
  go_wp2
  go_loopw [3, 4] (fun v i wr => ∃ (k : Nat) (g' : List ThV) (a' : Option Addr) (c' : Nat), k ≤ n ∧ v = .slice a' k c' ∧ i = .int .i64 k ∧ OwnG 52 w.heap.size wr a' k c' g' ∧ g'.map ThV.th = (g.take k).map ThV.th ∧ Below w.heap.size w wr) (fun _ i _ => n - (intOf i).toNat)
  case atStart => exact ⟨0, [], none, 0, Nat.zero_le _, rfl, rfl, ⟨World.ownsRow_nil _ _ _ _, by simp⟩, rfl, by (repeat' (first | (with_reducible exact Below.refl _ _) | (with_reducible assumption) | (with_reducible refine Below.alloc ?_ ?_ _) | (with_reducible refine Below.drew ?_) | (with_reducible refine Below.draws ?_ _) | (with_reducible refine Below.setCell ?_ ?_ _) | (refine Below.then ?_ (by with_reducible assumption)) | go_size))⟩
  case round =>
    obtain ⟨k, g', a', c', hk, rfl, rfl, hO, hg', hB⟩ := hrel
    have HO := Lib.hid hO; have HB := Lib.hid hB; have HG' := Lib.hid hg'
    have hz := hB.size
    clear hO hB hg'
    by_cases hlt : k < n
    · obtain ⟨⟨pri, ta, tn, tc, waits, holds⟩, b, off, rfl, hb, h1, h2, h3, ht, hgi, HD⟩ := (HR.out.ext HB.out).at_ k hlt
      simp only [] at h1 h2 h3
      have hT := HR.out.ok _ (List.mem_of_getElem? hgi)
      have htn : tn ≤ 1000 := HH.out _ (List.mem_of_getElem? hgi)
      have HT := Lib.hid (hT.ext HB.out)
      have hl1 := HT.out.1.length
      simp only [] at hl1
      have HL1 := Lib.hid hl1
      clear hl1 hT
      have HTK := Lib.hid (take_of_drop HD.out)
      clear ht hgi HD
      obtain ⟨t0, b0, off0, e0, hb0, g1, g2, g3, _, hgi0, _⟩ := HR.out.at_ k hlt
      simp at e0
      obtain ⟨rfl, rfl⟩ := e0
      have h1w : w.cell? ⟨b, off + k * 3, none⟩ = some (.int .i64 pri) := (HB.out.cell (p := ⟨b, off + k * 3, none⟩) hb0).symm.trans h1
      have h2w : w.cell? ⟨b, off + k * 3 + 1, none⟩ = some (.slice ta tn tc) := (HB.out.cell (p := ⟨b, off + k * 3 + 1, none⟩) hb0).symm.trans h2
      have h3w : w.cell? ⟨b, off + k * 3 + 2, none⟩ = some (.int .i64 waits) := (HB.out.cell (p := ⟨b, off + k * 3 + 2, none⟩) hb0).symm.trans h3
      clear g1 g2 g3 hgi0
      go_wp2_with fail
      go_region_held3 (fun w' => w'.cell? ⟨b, off + k * 3, none⟩ = some (.int .i64 pri) ∧ w'.cell? ⟨b, off + k * 3 + 1, none⟩ = some (.slice ta tn tc) ∧ w'.cell? ⟨b, off + k * 3 + 2, none⟩ = some (.int .i64 waits))
        (first | go_keep)
        (first
          | (refine step_app (by rfl) _ _ _ (by rfl) e1 (B := wr.heap.size) (by rfl) (n := 0) (xs := []) (by exact (World.ownsRow_lit wr #[] 0 (Nat.le_refl _) (by decide) rfl)) (by rfl) (by rw [flat_len enc1_len, HL1.out]) (by exact News.rd enc1_len (by decide) (HT.out.1.ext (by (repeat' (first | (with_reducible exact Below.refl _ _) | (with_reducible assumption) | (with_reducible refine Below.alloc ?_ ?_ _) | (with_reducible refine Below.drew ?_) | (with_reducible refine Below.draws ?_ _) | (with_reducible refine Below.setCell ?_ ?_ _) | (refine Below.then ?_ (by with_reducible assumption)) | go_size)))) HT.out.2) (by intro u hu; obtain ⟨y, _, hy⟩ := List.mem_flatMap.1 hu; exact enc1_one y u hy) (by omega) (by decide) (by simp) ?_
             intro a1 c1 w1 hown1 hg1
             have hbw : Below wr.heap.size wr w1 := Below.trans (by (repeat' (first | (with_reducible exact Below.refl _ _) | (with_reducible assumption) | (with_reducible refine Below.alloc ?_ ?_ _) | (with_reducible refine Below.drew ?_) | (with_reducible refine Below.draws ?_ _) | (with_reducible refine Below.setCell ?_ ?_ _) | (refine Below.then ?_ (by with_reducible assumption)) | go_size))) (grown_below (B := wr.heap.size) (e := 3) (k := 1) (n := 0) (xs := []) (by exact (World.ownsRow_lit wr #[] 0 (Nat.le_refl _) (by decide) rfl)) hg1 (by simp))
             rw [Nat.zero_add] at hown1
             have HO1 := Lib.hid hown1
             have HB1 := Lib.hid hbw
             obtain ⟨hc1, hf1, hz1, hr1⟩ := bfacts hbw
             clear hown1 hg1 hbw)
          | (refine step_app (by rfl) _ _ _ (by rfl) e2 (B := w.heap.size) (news := [.int .i64 pri, .slice a1 tn c1, .int .i64 waits]) (by rfl) (by exact (HO.out.ext HB1.out).own.alloc _) (by rfl) (by rfl) (by exact .inr ⟨_, rfl, World.news_of_block (heap_alloc_new _ _)⟩) (by intro u hu; simp at hu; rcases hu with rfl | rfl | rfl <;> rfl) (by omega) (by decide) (by simp; omega) ?_
             intro a2 c2 w2 hown2 hg2
             have hbw2 : Below w.heap.size w w2 := (Below.trans (Below.then HB.out HB1.out) (Below.alloc (Below.refl _ _) (by omega) _)).trans (grown_below (B := w.heap.size) (e := 52) (k := 3) (by exact (HO.out.ext HB1.out).own.alloc _) hg2 (by simp; omega))
             obtain ⟨hc2, hf2, hz2, hr2⟩ := bfacts hbw2
             have HB2 := Lib.hid hbw2
             have HO2 := Lib.hid hown2
             clear hbw2
             have HG2 := Lib.hid hg2
             clear hown2 hg2))
      go_wp2
      go_roundw
      case rel =>
        refine ⟨k + 1, g' ++ [⟨pri, a1, tn, c1, waits, holds⟩], a2, c2, by omega, rfl, by go_num, ⟨by rw [List.flatMap_append]; exact HO2.out, fun t ht => ?_⟩, by rw [HTK.out, List.map_append, List.map_append, HG'.out]; rfl, HB2.out⟩
        rcases List.mem_append.1 ht with ht | ht
        · exact owns_kept (((HO.out.ext HB1.out).ok t ht).alloc _) ((HO.out.ext HB1.out).own.alloc _) (by decide) HG2.out
        · simp at ht
          subst ht
          exact owns_kept ((owns_mono HO1.out hz).alloc _) ((HO.out.ext HB1.out).own.alloc _) (by decide) HG2.out
      case measure => simp [intOf]; omega
    · have hkn : k = n := by omega
      subst hkn
      have hgg : g'.map ThV.th = g.map ThV.th := by rw [HG'.out, List.take_of_length_le (by rw [HG0.out]; exact Nat.le_refl _)]
      have HGG := Lib.hid hgg
      clear hgg
      go_wp2
      go_ret
      exact ⟨_, _, _, g', rfl, HO.out, HGG.out, HB.out⟩
set_option maxRecDepth 10000 in
set_option maxHeartbeats 2000000 in
theorem from_any (a : Option Addr) (n c : Nat) (g : List ThV) (hn : n ≤ 1000) (hH : ∀ t ∈ g, t.n ≤ 1000) (w : World) (hG : RdG w a n g) :
    Calls Try.prog 26 #[.slice a n c] w (OutG 45 w.heap.size w (g.map ThV.th)) := by
  have HR := Lib.hid hG
  have HG0 := Lib.hid hG.length
  clear hG
  have HH := Lib.hid hH
  clear hH
  have e1 := E1
  have e2 := ETr
  go_enter Try.func26, Try.ntmps26
  go_wp2
  go_loopw [3, 4] (fun v i wr => ∃ (k : Nat) (g' : List ThV) (a' : Option Addr) (c' : Nat), k ≤ n ∧ v = .slice a' k c' ∧ i = .int .i64 k ∧ OwnG 45 w.heap.size wr a' k c' g' ∧ g'.map ThV.th = (g.take k).map ThV.th ∧ Below w.heap.size w wr) (fun _ i _ => n - (intOf i).toNat)
  case atStart => exact ⟨0, [], none, 0, Nat.zero_le _, rfl, rfl, ⟨World.ownsRow_nil _ _ _ _, by simp⟩, rfl, by (repeat' (first | (with_reducible exact Below.refl _ _) | (with_reducible assumption) | (with_reducible refine Below.alloc ?_ ?_ _) | (with_reducible refine Below.drew ?_) | (with_reducible refine Below.draws ?_ _) | (with_reducible refine Below.setCell ?_ ?_ _) | (refine Below.then ?_ (by with_reducible assumption)) | go_size))⟩
  case round =>
    obtain ⟨k, g', a', c', hk, rfl, rfl, hO, hg', hB⟩ := hrel
    have HO := Lib.hid hO; have HB := Lib.hid hB; have HG' := Lib.hid hg'
    have hz := hB.size
    clear hO hB hg'
    by_cases hlt : k < n
    · obtain ⟨⟨pri, ta, tn, tc, waits, holds⟩, b, off, rfl, hb, h1, h2, h3, ht, hgi, HD⟩ := (HR.out.ext HB.out).at_ k hlt
      simp only [] at h1 h2 h3
      have hT := HR.out.ok _ (List.mem_of_getElem? hgi)
      have htn : tn ≤ 1000 := HH.out _ (List.mem_of_getElem? hgi)
      have HT := Lib.hid (hT.ext HB.out)
      have hl1 := HT.out.1.length
      simp only [] at hl1
      have HL1 := Lib.hid hl1
      clear hl1 hT
      have HTK := Lib.hid (take_of_drop HD.out)
      clear ht hgi HD
      obtain ⟨t0, b0, off0, e0, hb0, g1, g2, g3, _, hgi0, _⟩ := HR.out.at_ k hlt
      simp at e0
      obtain ⟨rfl, rfl⟩ := e0
      have h1w : w.cell? ⟨b, off + k * 3, none⟩ = some (.int .i64 pri) := (HB.out.cell (p := ⟨b, off + k * 3, none⟩) hb0).symm.trans h1
      have h2w : w.cell? ⟨b, off + k * 3 + 1, none⟩ = some (.slice ta tn tc) := (HB.out.cell (p := ⟨b, off + k * 3 + 1, none⟩) hb0).symm.trans h2
      have h3w : w.cell? ⟨b, off + k * 3 + 2, none⟩ = some (.int .i64 waits) := (HB.out.cell (p := ⟨b, off + k * 3 + 2, none⟩) hb0).symm.trans h3
      clear g1 g2 g3 hgi0
      go_wp2_with fail
      go_region_held3 (fun w' => w'.cell? ⟨b, off + k * 3, none⟩ = some (.int .i64 pri) ∧ w'.cell? ⟨b, off + k * 3 + 1, none⟩ = some (.slice ta tn tc) ∧ w'.cell? ⟨b, off + k * 3 + 2, none⟩ = some (.int .i64 waits))
        (first | go_keep)
        (first
          | (refine step_app (by rfl) _ _ _ (by rfl) e1 (B := wr.heap.size) (by rfl) (n := 0) (xs := []) (by exact (World.ownsRow_lit wr #[] 0 (Nat.le_refl _) (by decide) rfl)) (by rfl) (by rw [flat_len enc1_len, HL1.out]) (by exact News.rd enc1_len (by decide) (HT.out.1.ext (by (repeat' (first | (with_reducible exact Below.refl _ _) | (with_reducible assumption) | (with_reducible refine Below.alloc ?_ ?_ _) | (with_reducible refine Below.drew ?_) | (with_reducible refine Below.draws ?_ _) | (with_reducible refine Below.setCell ?_ ?_ _) | (refine Below.then ?_ (by with_reducible assumption)) | go_size)))) HT.out.2) (by intro u hu; obtain ⟨y, _, hy⟩ := List.mem_flatMap.1 hu; exact enc1_one y u hy) (by omega) (by decide) (by simp) ?_
             intro a1 c1 w1 hown1 hg1
             have hbw : Below wr.heap.size wr w1 := Below.trans (by (repeat' (first | (with_reducible exact Below.refl _ _) | (with_reducible assumption) | (with_reducible refine Below.alloc ?_ ?_ _) | (with_reducible refine Below.drew ?_) | (with_reducible refine Below.draws ?_ _) | (with_reducible refine Below.setCell ?_ ?_ _) | (refine Below.then ?_ (by with_reducible assumption)) | go_size))) (grown_below (B := wr.heap.size) (e := 3) (k := 1) (n := 0) (xs := []) (by exact (World.ownsRow_lit wr #[] 0 (Nat.le_refl _) (by decide) rfl)) hg1 (by simp))
             rw [Nat.zero_add] at hown1
             have HO1 := Lib.hid hown1
             have HB1 := Lib.hid hbw
             obtain ⟨hc1, hf1, hz1, hr1⟩ := bfacts hbw
             clear hown1 hg1 hbw)
          | (refine step_app (by rfl) _ _ _ (by rfl) e2 (B := w.heap.size) (news := [.int .i64 pri, .slice a1 tn c1, .int .i64 waits]) (by rfl) (by exact (HO.out.ext HB1.out).own.alloc _) (by rfl) (by rfl) (by exact .inr ⟨_, rfl, World.news_of_block (heap_alloc_new _ _)⟩) (by intro u hu; simp at hu; rcases hu with rfl | rfl | rfl <;> rfl) (by omega) (by decide) (by simp; omega) ?_
             intro a2 c2 w2 hown2 hg2
             have hbw2 : Below w.heap.size w w2 := (Below.trans (Below.then HB.out HB1.out) (Below.alloc (Below.refl _ _) (by omega) _)).trans (grown_below (B := w.heap.size) (e := 45) (k := 3) (by exact (HO.out.ext HB1.out).own.alloc _) hg2 (by simp; omega))
             obtain ⟨hc2, hf2, hz2, hr2⟩ := bfacts hbw2
             have HB2 := Lib.hid hbw2
             have HO2 := Lib.hid hown2
             clear hbw2
             have HG2 := Lib.hid hg2
             clear hown2 hg2))
      go_wp2
      go_roundw
      case rel =>
        refine ⟨k + 1, g' ++ [⟨pri, a1, tn, c1, waits, holds⟩], a2, c2, by omega, rfl, by go_num, ⟨by rw [List.flatMap_append]; exact HO2.out, fun t ht => ?_⟩, by rw [HTK.out, List.map_append, List.map_append, HG'.out]; rfl, HB2.out⟩
        rcases List.mem_append.1 ht with ht | ht
        · exact owns_kept (((HO.out.ext HB1.out).ok t ht).alloc _) ((HO.out.ext HB1.out).own.alloc _) (by decide) HG2.out
        · simp at ht
          subst ht
          exact owns_kept ((owns_mono HO1.out hz).alloc _) ((HO.out.ext HB1.out).own.alloc _) (by decide) HG2.out
      case measure => simp [intOf]; omega
    · have hkn : k = n := by omega
      subst hkn
      have hgg : g'.map ThV.th = g.map ThV.th := by rw [HG'.out, List.take_of_length_le (by rw [HG0.out]; exact Nat.le_refl _)]
      have HGG := Lib.hid hgg
      clear hgg
      go_wp2
      go_ret
      exact ⟨_, _, _, g', rfl, HO.out, HGG.out, HB.out⟩
end Go.Proofs.Ytmdjbnicjohkjaa
