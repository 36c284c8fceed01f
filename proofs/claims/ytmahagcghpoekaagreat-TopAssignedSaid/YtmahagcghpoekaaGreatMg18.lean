/- The contract of many: where it says no, the tasks are few. The conditions: the tasks read as named. The contract of sane of the law's package. No condition. The contract of copied of the law's package: tasks with memory of their own. The conditions: the tasks read as named and are few. Tasks that the call made and may write: cells of the tasks and of their pieces. The conditions: the tasks read as named and are few. slices.Clone and slices.DeleteFunc at ints, as Assign uses them. The conditions: the row is the caller's own and holds the number once. Printed by mkaslib.py out of the texts for chapter 21. slices.Grow of nil, slices.Concat and slices.Delete at ints. The conditions are the ones that each contract names. -/
import Derived.Test.YtmahagcghpoekaaGreatMg6
import Derived.Test.YtmahagcghpoekaaGreatMg14
import Derived.Test.YtmahagcghpoekaaGreatMg5
import Derived.OneCell
import Derived.Laws.OwnMore
import Derived.Test.YtmahagcghpoekaaGreatMg1
import Derived.Lib.SliceRun
import Derived.Shelf.Spec.SlicesGrow
import Derived.ArgAppend
import Derived.BigRegion
namespace Go.Proofs.YtmahagcghpoekaaGreat
open Go.RowKit
set_option linter.unusedSimpArgs false
set_option linter.unusedVariables false
def addP : Nat → List Ta → Nat
  | n, [] => n
  | n, t :: g => if n < 400 then addP (n + t.pcs.length) g else n
def manyL (n : Nat) (g : List Ta) : Bool := decide (400 ≤ addP n g)
theorem many_no : ∀ (g : List Ta) (n : Nat), addP n g < 400 → n < 400 ∧ ∀ t ∈ g, t.pcs.length < 400
  | [], n, h => ⟨h, by simp⟩
  | t :: g, n, h => by
    unfold addP at h
    split at h
    · obtain ⟨h1, h2⟩ := many_no g _ h
      refine ⟨by omega, fun u hu => ?_⟩
      rcases List.mem_cons.1 hu with rfl | hu
      · omega
      · exact h2 u hu
    · omega
theorem many_any (a : Option Addr) (n c : Nat) (L : List Ta) (w : World) (hL : RdL w a n L) (hT : ∀ t ∈ L, t.pcs.length ≤ 281474976710656) :
    Calls Tryz.prog 29 #[.slice a n c] w fun e w' => e = .returned (.bool (manyL n L)) ∧ w = w' := by
  have HR := Lib.hid hL
  have hs := hL.small
  have HTS := Lib.hid hT
  have HG0 := Lib.hid hL.length
  obtain ⟨R, hR⟩ : ∃ R, R = addP n L := ⟨_, rfl⟩
  have HST : Hid (addP n (L.drop 0) = R) := Lib.hid hR.symm
  rw [show manyL n L = decide (400 ≤ R) by rw [manyL, hR]]
  clear hL hT hR
  go_enter Tryz.func29, Tryz.ntmps29
  go_wp2
  go_loop [3, 4] (fun v i => ∃ (k m : Nat), k ≤ n ∧ v = .int .i64 m ∧ i = .int .i64 k ∧ addP m (L.drop k) = R ∧ (m : Int) ≤ 9223372036854775807) (fun _ i => n - (intOf i).toNat)
  case atStart => exact ⟨0, n, Nat.zero_le _, rfl, rfl, HST.out, by omega⟩
  case round =>
    obtain ⟨k, m, hk, rfl, rfl, he, hm⟩ := hrel
    have HE := Lib.hid he
    clear he
    by_cases hlt : k < n
    · obtain ⟨u, b, off, pa, pn, pc, rfl, hb, _, _, _, _, _, c5, hp, _, hg, HD⟩ := HR.out.at_ k hlt
      have htn : pn ≤ 281474976710656 := by rw [← hp.length]; exact HTS.out _ (List.mem_of_getElem? hg)
      have HE2 : Hid ((if m < 400 then addP (m + pn) (L.drop (k + 1)) else m) = R) := by have := HE.out; rw [HD.out, addP, hp.length] at this; exact this
      clear HE hp hg HD
      by_cases hm4 : m < 400
      · rw [if_pos hm4] at HE2
        have hm4' : (m : Int) < 400 := by omega
        go_wp2
        go_round
        case rel => exact ⟨k + 1, m + pn, by omega, by go_num, by go_num, HE2.out, by omega⟩
        case measure => simp [intOf]; omega
      · rw [if_neg hm4] at HE2
        have hv := HE2.out
        subst hv
        have hm4' : ¬ (m : Int) < 400 := by omega
        go_wp2
        go_ret
        exact ⟨ret_bool (by simp <;> omega), rfl⟩
    · have hv : R = m := by rw [← HE.out, drop_end HG0.out (by omega)]; rfl
      subst hv
      go_wp2
      go_ret
      exact ⟨ret_bool (by simp <;> omega), rfl⟩
/-- what it says of tasks -/
theorem manyL_no {n : Nat} {L : List Ta} (h : manyL n L = false) : n < 400 ∧ ∀ t ∈ L, t.pcs.length < 400 := many_no L n (by simpa [manyL] using h)
/-- the ceiling of a lock that is used -/
theorem ceil_used {L : List Ta} {i j : Nat} {u : Ta} {v : P2} (hu : L[i]? = some u) (hv : u.pcs[j]? = some v) : 0 ≤ ceilG L v.2 ∧ ceilG L v.2 < L.length ∧ ¬ Ahead L i (ceilG L v.2) := by
  have hc := isCeil L v.2
  have hus : uses L i v.2 := ⟨v, by rw [taAt_of hu]; exact List.mem_of_getElem? hv, rfl⟩
  have hi := (List.getElem?_eq_some_iff.1 hu).1
  rcases Int.lt_or_le (ceilG L v.2) 0 with h | h
  · exact absurd hus (hc.none_ h i hi)
  · refine ⟨h, hc.hi, fun ha => ?_⟩
    by_cases e : (i : Int) = ceilG L v.2
    · rw [← e] at ha; exact ahead_irr _ ha
    · exact ahead_asym _ _ ((hc.some_ h).2 i hi hus e) ha
end Go.Proofs.YtmahagcghpoekaaGreat
namespace Go.Proofs.YtmahagcghpoekaaGreat
open Go.RowKit
set_option linter.unusedSimpArgs false
set_option linter.unusedVariables false
def saneL : List Ta := [⟨0, 20, 0, 20, 0, [(4, -1)]⟩]
theorem sane_win : winR saneL 10 3 0 = (7, 0) := by decide +kernel
theorem sane_accR : accE saneL 10 3 = 0 := by decide +kernel
def saneWR (w : World) : World := (w.alloc (.cells #[.int .i64 4, .int .i64 (-1)] 55)).alloc (.cells #[.int .i64 0, .int .i64 20, .int .i64 0, .int .i64 20, .int .i64 0, .slice (some ⟨w.heap.size, 0, none⟩) 1 1] 45)
theorem saneWR_rd (w : World) : RdL (saneWR w) (some ⟨w.heap.size + 1, 0, none⟩) 1 saneL := by
  refine ⟨[⟨0, 20, 0, 20, 0, some ⟨w.heap.size, 0, none⟩, 1, 1, [(4, -1)]⟩], ⟨⟨rfl, by omega, fun _ => ⟨_, 0, rfl, by simp [saneWR], fun i hi j hj => ?_⟩⟩, fun t ht => ?_⟩, rfl⟩
  · have hi' : i < 1 := hi
    obtain rfl : i = 0 := by omega
    have hj' : j < 6 := hj
    rcases j with _ | _ | _ | _ | _ | _ | j <;> first | omega | (simp [saneWR, encTa, go_sem])
  · simp at ht
    subst ht
    refine ⟨⟨rfl, by simp, fun _ => ⟨_, 0, rfl, by simp [saneWR]; omega, fun i hi j hj => ?_⟩⟩, fun h => by simp at h⟩
    have hi' : i < 1 := hi
    obtain rfl : i = 0 := by omega
    have hj' : j < 2 := hj
    rcases j with _ | _ | j <;> first | omega | (simp [saneWR, enc2, go_sem])
theorem Many_no {n : Nat} {L : List Ta} (h : manyL n L = false) : n < 400 ∧ ∀ t ∈ L, t.pcs.length ≤ 1000 := by
  obtain ⟨h1, h2⟩ := manyL_no h
  exact ⟨h1, fun t ht => by have := h2 t ht; omega⟩
end Go.Proofs.YtmahagcghpoekaaGreat
namespace Go.Proofs.YtmahagcghpoekaaGreat
open Go.RowKit
set_option linter.unusedSimpArgs false
set_option linter.unusedVariables false
theorem EPc : Elt Tryz.prog 43 55 2 16 := Elt.mk' (z := .agg #[.int .i64 0, .int .i64 0]) Tryz.underlying43 (by kernel_rfl) rfl (by decide)
theorem ETk : Elt Tryz.prog 22 45 6 64 := Elt.mk' (z := .agg #[.int .i64 0, .int .i64 0, .int .i64 0, .int .i64 0, .int .i64 0, .slice none 0 0]) Tryz.underlying22 (by kernel_rfl) rfl (by decide)
def PcO (B : Nat) (w : World) (t : TaV) : Prop := w.ownsRow B 55 2 (.slice t.a t.n t.c) t.n (t.pcs.flatMap enc2)
/-- tasks that the call made -/
structure OwnT (B : Nat) (w : World) (a : Option Addr) (n c : Nat) (g : List TaV) : Prop where
  own : w.ownsRow B 45 6 (.slice a n c) n (g.flatMap encTa)
  ok : ∀ t ∈ g, PcO B w t
theorem owns_nilT {w : World} {B e k n c : Nat} {a : Option Addr} {xs : List Value} (h : w.ownsRow B e k (.slice a n c) n xs) : NilOk a n c := by
  intro _
  rcases h.2 with ⟨hv, _⟩ | ⟨g, cap, cur, hv, _⟩
  · simp at hv; exact .inl ⟨hv.1, hv.2.2⟩
  · simp at hv; exact .inr ⟨_, hv.1⟩
theorem OwnT.rd {B : Nat} {w : World} {a n c g} (h : OwnT B w a n c g) : RdT w a n g :=
  ⟨Rd.of_owns encTa_len (by decide) h.own, fun t ht => ⟨ownsP_rd (h.ok t ht), owns_nilT (h.ok t ht)⟩⟩
def OutT (w : World) (n : Nat) (L : List Ta) (e : Ending) (w' : World) : Prop :=
  ∃ a c, e = .returned (.slice a n c) ∧ RdL w' a n L ∧ Below w.heap.size w w'
set_option maxRecDepth 10000 in
set_option maxHeartbeats 4000000 in
theorem copied_T (a : Option Addr) (n c : Nat) (L : List Ta) (hn : n ≤ 1000) (hP : ∀ t ∈ L, t.pcs.length ≤ 1000) (w : World) (hL : RdL w a n L) (hN : NilOk a n c) :
    Calls Tryz.prog 15 #[.slice a n c] w (OutT w n L) := by
  obtain ⟨g, hG, rfl⟩ := hL
  have HR := Lib.hid hG
  have HL := Lib.hid hG.length
  have HH : Hid (∀ t ∈ g, t.n ≤ 1000) := Lib.hid (fun t ht => by
    have h1 := hP t.ta (List.mem_map_of_mem ht)
    have h2 := (hG.ok t ht).1.length
    have h3 : t.ta.pcs.length = t.pcs.length := rfl
    omega)
  clear hG hP
  have e1 := EPc
  have e2 := ETk
  go_enter Tryz.func15, Tryz.ntmps15
  go_wp2
  go_loopw [3, 4] (fun v i wr => ∃ (k : Nat) (g' : List TaV) (a' : Option Addr) (c' : Nat), k ≤ n ∧ v = .slice a' k c' ∧ i = .int .i64 k ∧ OwnT w.heap.size wr a' k c' g' ∧ g'.map TaV.ta = (g.take k).map TaV.ta ∧ Below w.heap.size w wr) (fun _ i _ => n - (intOf i).toNat)
  case atStart => exact ⟨0, [], none, 0, Nat.zero_le _, rfl, rfl, ⟨World.ownsRow_nil _ _ _ _, by simp⟩, rfl, by (repeat' (first | (with_reducible exact Below.refl _ _) | (with_reducible assumption) | (with_reducible refine Below.alloc ?_ ?_ _) | (with_reducible refine Below.drew ?_) | (with_reducible refine Below.draws ?_ _) | (with_reducible refine Below.setCell ?_ ?_ _) | (refine Below.then ?_ (by with_reducible assumption)) | go_size))⟩
  case round =>
    obtain ⟨k, g', a', c', hk, rfl, rfl, hO, hg', hB⟩ := hrel
    have HO := Lib.hid hO; have HB := Lib.hid hB; have HG' := Lib.hid hg'
    have hz := hB.size
    clear hO hB hg'
    by_cases hlt : k < n
    · have hkl : k < g.length := by rw [HL.out]; exact hlt
      have hgd : g.drop k = g[k] :: g.drop (k + 1) := List.drop_eq_getElem_cons hkl
      have hgm : g[k] ∈ g := List.getElem_mem hkl
      obtain ⟨t, ht⟩ : ∃ t, g[k] = t := ⟨_, rfl⟩
      rw [ht] at hgd hgm
      obtain ⟨b, off, rfl, hb0, hc⟩ := HR.out.rd.at_ (by omega)
      have hgk : (g.map encTa)[k]'(by simpa using hkl) = encTa t := by rw [List.getElem_map, ht]
      have x0 := hc k (by simpa using hkl) 0 (by omega)
      have x1 := hc k (by simpa using hkl) 1 (by omega)
      have x2 := hc k (by simpa using hkl) 2 (by omega)
      have x3 := hc k (by simpa using hkl) 3 (by omega)
      have x4 := hc k (by simpa using hkl) 4 (by omega)
      have x5 := hc k (by simpa using hkl) 5 (by omega)
      rw [hgk] at x0 x1 x2 x3 x4 x5
      clear hgk hc
      have hok := (HR.out.ok t hgm).ext HB.out
      have htn : t.n ≤ 1000 := HH.out _ hgm
      obtain ⟨pri, dl, fi, gap, jit, ta, tn, tc, pcs⟩ := t
      simp [encTa] at x0 x1 x2 x3 x4 x5
      simp only [] at htn
      have h0 := (HB.out.cell (p := ⟨b, off + k * 6, none⟩) hb0).trans x0
      have h1 := (HB.out.cell (p := ⟨b, off + k * 6 + 1, none⟩) hb0).trans x1
      have h2 := (HB.out.cell (p := ⟨b, off + k * 6 + 2, none⟩) hb0).trans x2
      have h3 := (HB.out.cell (p := ⟨b, off + k * 6 + 3, none⟩) hb0).trans x3
      have h4 := (HB.out.cell (p := ⟨b, off + k * 6 + 4, none⟩) hb0).trans x4
      have h5 := (HB.out.cell (p := ⟨b, off + k * 6 + 5, none⟩) hb0).trans x5
      have hb : b < wr.heap.size := by omega
      have HT1 : Hid (Rd wr ta tn 2 (pcs.map enc2)) := Lib.hid hok.1
      have HT2 : Hid (NilOk ta tn tc) := Lib.hid hok.2
      have HTK := Lib.hid (take_of_drop hgd)
      clear ht hok hgd hgm x0 x1 x2 x3 x4 x5
      have HOW : Hid (((wr.alloc (.cells #[.int .i64 pri, .int .i64 dl, .int .i64 fi, .int .i64 gap, .int .i64 jit, .slice ta tn tc] 45)).alloc (.cells #[] 55)).ownsRow (wr.heap.size + 1) 55 2 (.slice (some ⟨wr.heap.size + 1, 0, none⟩) 0 0) 0 []) := Lib.hid (by
        have := World.ownsRow_lit (e := 55) (size := 2) (base := wr.heap.size + 1) (wr.alloc (.cells #[.int .i64 pri, .int .i64 dl, .int .i64 fi, .int .i64 gap, .int .i64 jit, .slice ta tn tc] 45)) #[] 0 (by simp) (by decide) rfl
        rw [World.size_alloc] at this; exact this)
      go_wp2_with (first
        | (at_builtin; refine wpList_pushAll (B := wr.heap.size + 1) (n := 0) (xs := []) rfl _ _ _ rfl e1 enc2_len enc2_one rfl HOW.out rfl (HT1.out.ext (by (repeat' (first | (with_reducible exact Below.refl _ _) | (with_reducible assumption) | (with_reducible refine Below.alloc ?_ ?_ _) | (with_reducible refine Below.drew ?_) | (with_reducible refine Below.draws ?_ _) | (with_reducible refine Below.setCell ?_ ?_ _) | (refine Below.then ?_ (by with_reducible assumption)) | go_size)))) HT2.out (by omega) (by decide) (by simp) ?_
           intro v2 w2 hown2 hv2 hb2
           rw [Nat.zero_add, List.nil_append] at hown2
           obtain ⟨a2, c2, rfl⟩ := hv2
           rw [Nat.zero_add] at hown2 ⊢
           have HB2 := Lib.hid hb2
           have HO2 := Lib.hid hown2
           have hz2 := hb2.size
           simp only [World.size_alloc] at hz2
           have hc0 := (hb2.cell (p := ⟨wr.heap.size, 0, none⟩) (by simp)).trans (show _ = some (.int .i64 pri) by simp [go_sem])
           have hc1 := (hb2.cell (p := ⟨wr.heap.size, 1, none⟩) (by simp)).trans (show _ = some (.int .i64 dl) by simp [go_sem])
           have hc2 := (hb2.cell (p := ⟨wr.heap.size, 2, none⟩) (by simp)).trans (show _ = some (.int .i64 fi) by simp [go_sem])
           have hc3 := (hb2.cell (p := ⟨wr.heap.size, 3, none⟩) (by simp)).trans (show _ = some (.int .i64 gap) by simp [go_sem])
           have hc4 := (hb2.cell (p := ⟨wr.heap.size, 4, none⟩) (by simp)).trans (show _ = some (.int .i64 jit) by simp [go_sem])
           have hc5 := (hb2.cell (p := ⟨wr.heap.size, 5, none⟩) (by simp)).trans (show _ = some (.slice ta tn tc) by simp [go_sem])
           have hf5 := (hb2.frozen (p := ⟨wr.heap.size, 5, none⟩) (by simp)).trans (show _ = false by simp [go_sem])
           have HBW : Hid (Below wr.heap.size wr w2) := Lib.hid ((((Below.refl wr.heap.size wr).alloc (Nat.le_refl _) _).alloc (by simp) _).trans (hb2.mono (by omega)))
           clear hown2 hb2)
        | (at_builtin; refine wpList_pushM (N := w2.heap.size) (v := .slice a' k c') (by simp) rfl _ _ _ rfl e2 rfl (owns_ext HO.out.own (HBW.out.setCell (p := ⟨wr.heap.size, 5, none⟩) (Nat.le_refl _) _)) rfl rfl (by intro u hu; simp at hu; rcases hu with rfl | rfl | rfl | rfl | rfl | rfl <;> rfl) (by omega) (by decide) (by simp; omega) ?_; intro a3 c3 w3 hown3 hb3; have HO3 := Lib.hid hown3; have HB3 := Lib.hid hb3; clear hown3 hb3))
      go_roundw
      case rel =>
        have hS : Below wr.heap.size wr (w2.setCell ⟨wr.heap.size, 5, none⟩ (.slice a2 tn c2)) := HBW.out.setCell (p := ⟨wr.heap.size, 5, none⟩) (Nat.le_refl _) _
        have hOw := (owns_ext HO.out.own hS).alloc (.cells #[.int .i64 pri, .int .i64 dl, .int .i64 fi, .int .i64 gap, .int .i64 jit, .slice a2 tn c2] 45)
        have hkeep : ∀ {t : TaV} {B : Nat}, PcO B (w2.setCell ⟨wr.heap.size, 5, none⟩ (.slice a2 tn c2)) t → PcO B w3 t := fun h => owns_kept (h.alloc _) hOw (by decide) HB3.out
        refine ⟨k + 1, g' ++ [⟨pri, dl, fi, gap, jit, a2, tn, c2, pcs⟩], a3, c3, by omega, rfl, by go_num, ⟨by rw [List.flatMap_append]; exact HO3.out, fun t ht => ?_⟩, by rw [HTK.out, List.map_append, List.map_append, HG'.out]; rfl, ?_⟩
        · rcases List.mem_append.1 ht with ht | ht
          · exact hkeep (owns_ext (HO.out.ok t ht) hS)
          · simp at ht
            subst ht
            exact hkeep (t := ⟨pri, dl, fi, gap, jit, a2, tn, c2, pcs⟩) (owns_mono (owns_far HO2.out (Nat.lt_succ_self _) _) (by omega))
        · exact ((Below.then HB.out hS).alloc (by simp; omega) _).grown HB3.out (by simp; omega) (fun j hj => (HO.out.own.lt j hj).1)
      case measure => simp [intOf]; omega
    · have hkn : k = n := by omega
      subst hkn
      have hgg : g'.map TaV.ta = g.map TaV.ta := by rw [HG'.out, List.take_of_length_le (by rw [HL.out]; exact Nat.le_refl _)]
      have HGG := Lib.hid hgg
      clear hgg
      go_wp2
      go_ret
      exact ⟨_, _, rfl, ⟨g', HO.out.rd, HGG.out⟩, HB.out⟩
end Go.Proofs.YtmahagcghpoekaaGreat
namespace Go.Proofs.YtmahagcghpoekaaGreat
open Go.RowKit
set_option linter.unusedSimpArgs false
set_option linter.unusedVariables false
def TaV.blk (t : TaV) : Option Nat := (Value.slice t.a t.n t.c).ownBlock
/-- no two tasks' pieces lie in one block -/
def PcAp (g : List TaV) : Prop := g.Pairwise (fun t u => ∀ x, t.blk = some x → u.blk ≠ some x)
structure MutT (B : Nat) (w : World) (a : Option Addr) (n c : Nat) (g : List TaV) : Prop where
  own : OwnT B w a n c g
  ap : PcAp g
theorem PcO.low {B : Nat} {w : World} {t : TaV} (h : PcO B w t) : ∀ x, t.blk = some x → B ≤ x ∧ x < w.heap.size := by
  intro x hx
  rcases h.2 with ⟨hv, _⟩ | ⟨g, cap, cur, hv, hB, hg, _⟩
  · unfold TaV.blk at hx; rw [hv] at hx; simp [Value.ownBlock] at hx
  · unfold TaV.blk at hx; rw [hv] at hx; simp [Value.ownBlock] at hx; subst hx; exact ⟨hB, (Array.getElem?_eq_some_iff.1 hg).1⟩
theorem MutT.rd {B w a n c g} (h : MutT B w a n c g) : RdT w a n g := h.own.rd
theorem MutT.rdL {B w a n c g} (h : MutT B w a n c g) : RdL w a n (g.map TaV.ta) := ⟨g, h.own.rd, rfl⟩
theorem MutT.ext {B w w' a n c g} (h : MutT B w a n c g) (hb : Below w.heap.size w w') : MutT B w' a n c g :=
  ⟨⟨owns_ext h.own.own hb, fun t ht => owns_ext (h.own.ok t ht) hb⟩, h.ap⟩
theorem MutT.addr {B w a n c g} (h : MutT B w a n c g) (hn : 0 < n) : ∃ q, a = some ⟨q, 0, none⟩ ∧ B ≤ q ∧ q < w.heap.size := by
  rcases h.own.own.2 with ⟨_, h8⟩ | ⟨g, cap, cur, hv, hB, hg, _⟩
  · omega
  · simp at hv; exact ⟨g, hv.1, hB, (Array.getElem?_eq_some_iff.1 hg).1⟩
theorem PcO.addr {B w} {t : TaV} (h : PcO B w t) (hn : 0 < t.n) : ∃ q, t.a = some ⟨q, 0, none⟩ ∧ B ≤ q ∧ q < w.heap.size ∧ t.blk = some q := by
  rcases h.2 with ⟨_, h8⟩ | ⟨g, cap, cur, hv, hB, hg, _⟩
  · omega
  · simp at hv; exact ⟨g, hv.1, hB, (Array.getElem?_eq_some_iff.1 hg).1, by unfold TaV.blk; rw [hv.1]; rfl⟩
/-- rows of tasks and of pieces share no block -/
theorem owns_diff {w : World} {B B' e e' k k' n n' q c : Nat} {v : Value} {xs xs' : List Value} (h : w.ownsRow B e k (.slice (some ⟨q, 0, none⟩) n c) n xs) (h' : w.ownsRow B' e' k' v n' xs') (hne : e ≠ e') : v.ownBlock ≠ some q := by
  rcases h'.2 with ⟨rfl, _⟩ | ⟨g', cap', cur', rfl, _, hh', _⟩
  · simp [Value.ownBlock]
  · simp only [Value.ownBlock, ne_eq, Option.some.injEq]
    rintro rfl
    rcases h.2 with ⟨hv, _⟩ | ⟨g, cap, cur, hv, _, hh, _⟩
    · simp at hv
    · simp at hv
      obtain ⟨rfl, _⟩ := hv
      rw [hh] at hh'
      simp at hh'
      exact hne hh'.2
theorem flat_set {α : Type} {enc : α → List Value} {k : Nat} (he : ∀ x, (enc x).length = k) : ∀ (xs : List α) (i j : Nat) (x y : α) (u : Value), xs[i]? = some x → j < k → enc y = (enc x).set j u → (xs.flatMap enc).set (i * k + j) u = (xs.set i y).flatMap enc
  | [], i, j, x, y, u, h, _, _ => by simp at h
  | z :: xs, 0, j, x, y, u, h, hj, e => by
    simp at h; subst h
    simp only [List.flatMap_cons, List.set_cons_zero, Nat.zero_mul, Nat.zero_add]
    rw [List.set_append_left _ _ (by rw [he]; exact hj), e]
  | z :: xs, i + 1, j, x, y, u, h, hj, e => by
    have := flat_set he xs i j x y u (by simpa using h) hj e
    simp only [List.flatMap_cons, List.set_cons_succ]
    rw [List.set_append_right _ _ (by rw [he, Nat.add_mul]; omega), he, ← this]
    congr 2
    rw [Nat.add_mul]; omega
theorem pairwise_set {α β : Type} {R : α → α → Prop} (f : α → β) (hR : ∀ a b a' b', f a = f a' → f b = f b' → R a b → R a' b') : ∀ (g : List α) (k : Nat) (x y : α), g[k]? = some x → f x = f y → g.Pairwise R → (g.set k y).Pairwise R
  | [], _, _, _, h, _, _ => by simp at h
  | z :: g, 0, x, y, h, e, hp => by
    simp at h; subst h
    rw [List.pairwise_cons] at hp
    rw [List.set_cons_zero, List.pairwise_cons]
    exact ⟨fun b hb => hR z b y b e rfl (hp.1 b hb), hp.2⟩
  | z :: g, k + 1, x, y, h, e, hp => by
    rw [List.pairwise_cons] at hp
    rw [List.set_cons_succ, List.pairwise_cons]
    have hk : g[k]? = some x := by simpa using h
    refine ⟨fun b hb => ?_, pairwise_set f hR g k x y hk e hp.2⟩
    rcases List.mem_or_eq_of_mem_set hb with hb | rfl
    · exact hp.1 b hb
    · exact hR z x z b rfl e (hp.1 x (List.mem_of_getElem? hk))
theorem PcAp.set {g : List TaV} (h : PcAp g) {k : Nat} {t t' : TaV} (hk : g[k]? = some t) (e : t.blk = t'.blk) : PcAp (g.set k t') :=
  pairwise_set TaV.blk (fun a b a' b' e1 e2 r x hx => by rw [← e2]; exact r x (by rw [e1]; exact hx)) g k t t' hk e h
theorem mem_set {α : Type} {g : List α} {k : Nat} {x y : α} (h : y ∈ g.set k x) : y ∈ g ∨ y = x := List.mem_or_eq_of_mem_set h
theorem MutT.at_ {B w q n c g} (h : MutT B w (some ⟨q, 0, none⟩) n c g) {k : Nat} {t : TaV} (hk : g[k]? = some t) (j : Nat) (hj : j < 6) : w.cell? ⟨q, k * 6 + j, none⟩ = (encTa t)[j]? ∧ w.frozen? ⟨q, k * 6 + j, none⟩ = false := by
  obtain ⟨hi, rfl⟩ := List.getElem?_eq_some_iff.1 hk
  have hl := (Rd.of_owns encTa_len (by decide) h.own.own).length
  have : (k + 1) * 6 ≤ n * 6 := Nat.mul_le_mul_right 6 (by omega)
  rw [h.own.own.cellAt (k * 6 + j) (by omega), flat_get encTa_len g k j hi hj]
  exact ⟨rfl, h.own.own.frozenAt _⟩
theorem MutT.piece {B w a n c g} (h : MutT B w a n c g) {k : Nat} {t : TaV} (hk : g[k]? = some t) {q i : Nat} {p : P2} (ha : t.a = some ⟨q, 0, none⟩) (hi : t.pcs[i]? = some p) (j : Nat) (hj : j < 2) : w.cell? ⟨q, i * 2 + j, none⟩ = (enc2 p)[j]? ∧ w.frozen? ⟨q, i * 2 + j, none⟩ = false := by
  have hO := h.own.ok t (List.mem_of_getElem? hk)
  obtain ⟨ta, tn, tc, pcs, e⟩ : ∃ a n c ps, t.a = a ∧ t.n = n ∧ t.c = c ∧ t.pcs = ps := ⟨_, _, _, _, rfl, rfl, rfl, rfl⟩
  obtain ⟨hi', rfl⟩ := List.getElem?_eq_some_iff.1 hi
  have hO' : w.ownsRow B 55 2 (.slice (some ⟨q, 0, none⟩) t.n t.c) t.n (t.pcs.flatMap enc2) := by have := hO; unfold PcO at this; rw [ha] at this; exact this
  have hl := (Rd.of_owns enc2_len (by decide) hO').length
  have : (i + 1) * 2 ≤ t.n * 2 := Nat.mul_le_mul_right 2 (by omega)
  rw [hO'.cellAt (i * 2 + j) (by omega), flat_get enc2_len t.pcs i j hi' hj]
  exact ⟨rfl, hO'.frozenAt _⟩
/-- a cell of a task is written -/
theorem MutT.set {B w q n c g} (h : MutT B w (some ⟨q, 0, none⟩) n c g) {k : Nat} {t t' : TaV} (hk : g[k]? = some t) (j : Nat) (hj : j < 6) (u : Value) (he : encTa t' = (encTa t).set j u) (ha : t'.a = t.a) (hn : t'.n = t.n) (hc : t'.c = t.c) (hp : t'.pcs = t.pcs) :
    MutT B (w.setCell ⟨q, k * 6 + j, none⟩ u) (some ⟨q, 0, none⟩) n c (g.set k t') := by
  have hs := (h.own.own.stored (k * 6 + j) u).1
  rw [flat_set encTa_len g k j t t' u hk hj he] at hs
  have hkeep : ∀ x ∈ g, PcO B (w.setCell ⟨q, k * 6 + j, none⟩ u) x := fun x hx => ownsRow_setCell_other (h.own.ok x hx) (owns_diff h.own.own (h.own.ok x hx) (by decide)) u
  refine ⟨⟨hs, fun x hx => ?_⟩, h.ap.set hk (by unfold TaV.blk; rw [ha, hn, hc])⟩
  rcases mem_set hx with hx | rfl
  · exact hkeep x hx
  · have := hkeep t (List.mem_of_getElem? hk)
    unfold PcO at this ⊢
    rw [ha, hn, hc, hp]; exact this
theorem PcAp.ne {g : List TaV} (h : PcAp g) {i k : Nat} {t u : TaV} (hi : g[i]? = some t) (hk : g[k]? = some u) (hne : i ≠ k) {q : Nat} (hq : t.blk = some q) : u.blk ≠ some q := by
  obtain ⟨h1, rfl⟩ := List.getElem?_eq_some_iff.1 hi
  obtain ⟨h2, rfl⟩ := List.getElem?_eq_some_iff.1 hk
  unfold PcAp at h
  rw [List.pairwise_iff_getElem] at h
  rcases Nat.lt_or_gt_of_ne hne with h3 | h3
  · exact h i k h1 h2 h3 q hq
  · exact fun e => h k i h2 h1 h3 q e hq
/-- a cell of a piece is written -/
theorem MutT.setP {B w a n c g} (h : MutT B w a n c g) {k : Nat} {t t' : TaV} (hk : g[k]? = some t) {q i : Nat} {p p' : P2} (ha : t.a = some ⟨q, 0, none⟩) (hi : t.pcs[i]? = some p) (j : Nat) (hj : j < 2) (u : Value) (he : enc2 p' = (enc2 p).set j u) (ht : t' = { t with pcs := t.pcs.set i p' }) :
    MutT B (w.setCell ⟨q, i * 2 + j, none⟩ u) a n c (g.set k t') := by
  have hO := h.own.ok t (List.mem_of_getElem? hk)
  have hO' : w.ownsRow B 55 2 (.slice (some ⟨q, 0, none⟩) t.n t.c) t.n (t.pcs.flatMap enc2) := by have := hO; unfold PcO at this; rw [ha] at this; exact this
  have hs := (hO'.stored (i * 2 + j) u).1
  rw [flat_set enc2_len t.pcs i j p p' u hi hj he] at hs
  have hq : t.blk = some q := by unfold TaV.blk; rw [ha]; rfl
  have hm := ownsRow_setCell_other (a := ⟨q, i * 2 + j, none⟩) h.own.own (owns_diff hO' h.own.own (by decide)) u
  have hfl : (g.set k t').flatMap encTa = g.flatMap encTa := by
    have e1 : encTa t' = encTa t := by rw [ht]; rfl
    have : (g.set k t').map encTa = g.map encTa := by
      rw [List.map_set, e1]
      apply List.ext_getElem?
      intro m
      rw [List.getElem?_set]
      split
      · rename_i h1
        subst h1
        have hlt := (List.getElem?_eq_some_iff.1 hk).1
        rw [if_pos (by simpa using hlt), List.getElem?_map, hk]; rfl
      · rfl
    rw [List.flatMap_def, List.flatMap_def, this]
  refine ⟨⟨by rw [hfl]; exact hm, fun x hx => ?_⟩, h.ap.set hk (by rw [ht]; rfl)⟩
  obtain ⟨m, hm⟩ := List.getElem?_of_mem hx
  rw [List.getElem?_set] at hm
  split at hm
  · split at hm
    · simp at hm; subst hm; rw [ht]; unfold PcO; simp only []; rw [ha]; exact hs
    · simp at hm
  · rename_i hne
    exact ownsRow_setCell_other (h.own.ok x (List.mem_of_getElem? hm)) (h.ap.ne hk hm hne hq) u
theorem set_map {α β : Type} (f : α → β) (g : List α) (k : Nat) (x : α) : (g.set k x).map f = (g.map f).set k (f x) := List.map_set
/-- a copy that may be written -/
def OutM (w : World) (n : Nat) (L : List Ta) (e : Ending) (w' : World) : Prop :=
  ∃ a c g, e = .returned (.slice a n c) ∧ MutT w.heap.size w' a n c g ∧ g.map TaV.ta = L ∧ Below w.heap.size w w'
theorem PcAp.app {g : List TaV} {t : TaV} {K : Nat} (h : PcAp g) (h1 : ∀ u ∈ g, ∀ x, u.blk = some x → x < K) (h2 : ∀ x, t.blk = some x → K + 1 ≤ x) : PcAp (g ++ [t]) := by
  refine List.pairwise_append.2 ⟨h, List.pairwise_singleton _ _, fun u hu v hv x hx e => ?_⟩
  simp at hv; subst hv
  have := h1 u hu x hx
  have := h2 x e
  omega
set_option maxRecDepth 10000 in
set_option maxHeartbeats 4000000 in
theorem copied_M (a : Option Addr) (n c : Nat) (L : List Ta) (hn : n ≤ 1000) (hP : ∀ t ∈ L, t.pcs.length ≤ 1000) (w : World) (hL : RdL w a n L) (hN : NilOk a n c) :
    Calls Tryz.prog 15 #[.slice a n c] w (OutM w n L) := by
  obtain ⟨g, hG, rfl⟩ := hL
  have HR := Lib.hid hG
  have HL := Lib.hid hG.length
  have HH : Hid (∀ t ∈ g, t.n ≤ 1000) := Lib.hid (fun t ht => by
    have h1 := hP t.ta (List.mem_map_of_mem ht)
    have h2 := (hG.ok t ht).1.length
    have h3 : t.ta.pcs.length = t.pcs.length := rfl
    omega)
  clear hG hP
  have e1 := EPc
  have e2 := ETk
  go_enter Tryz.func15, Tryz.ntmps15
  go_wp2
  go_loopw [3, 4] (fun v i wr => ∃ (k : Nat) (g' : List TaV) (a' : Option Addr) (c' : Nat), k ≤ n ∧ v = .slice a' k c' ∧ i = .int .i64 k ∧ MutT w.heap.size wr a' k c' g' ∧ g'.map TaV.ta = (g.take k).map TaV.ta ∧ Below w.heap.size w wr) (fun _ i _ => n - (intOf i).toNat)
  case atStart => exact ⟨0, [], none, 0, Nat.zero_le _, rfl, rfl, ⟨⟨World.ownsRow_nil _ _ _ _, by simp⟩, List.Pairwise.nil⟩, rfl, by (repeat' (first | (with_reducible exact Below.refl _ _) | (with_reducible assumption) | (with_reducible refine Below.alloc ?_ ?_ _) | (with_reducible refine Below.drew ?_) | (with_reducible refine Below.draws ?_ _) | (with_reducible refine Below.setCell ?_ ?_ _) | (refine Below.then ?_ (by with_reducible assumption)) | go_size))⟩
  case round =>
    obtain ⟨k, g', a', c', hk, rfl, rfl, hO, hg', hB⟩ := hrel
    have HO := Lib.hid hO; have HB := Lib.hid hB; have HG' := Lib.hid hg'
    have hz := hB.size
    clear hO hB hg'
    by_cases hlt : k < n
    · have hkl : k < g.length := by rw [HL.out]; exact hlt
      have hgd : g.drop k = g[k] :: g.drop (k + 1) := List.drop_eq_getElem_cons hkl
      have hgm : g[k] ∈ g := List.getElem_mem hkl
      obtain ⟨t, ht⟩ : ∃ t, g[k] = t := ⟨_, rfl⟩
      rw [ht] at hgd hgm
      obtain ⟨b, off, rfl, hb0, hc⟩ := HR.out.rd.at_ (by omega)
      have hgk : (g.map encTa)[k]'(by simpa using hkl) = encTa t := by rw [List.getElem_map, ht]
      have x0 := hc k (by simpa using hkl) 0 (by omega)
      have x1 := hc k (by simpa using hkl) 1 (by omega)
      have x2 := hc k (by simpa using hkl) 2 (by omega)
      have x3 := hc k (by simpa using hkl) 3 (by omega)
      have x4 := hc k (by simpa using hkl) 4 (by omega)
      have x5 := hc k (by simpa using hkl) 5 (by omega)
      rw [hgk] at x0 x1 x2 x3 x4 x5
      clear hgk hc
      have hok := (HR.out.ok t hgm).ext HB.out
      have htn : t.n ≤ 1000 := HH.out _ hgm
      obtain ⟨pri, dl, fi, gap, jit, ta, tn, tc, pcs⟩ := t
      simp [encTa] at x0 x1 x2 x3 x4 x5
      simp only [] at htn
      have h0 := (HB.out.cell (p := ⟨b, off + k * 6, none⟩) hb0).trans x0
      have h1 := (HB.out.cell (p := ⟨b, off + k * 6 + 1, none⟩) hb0).trans x1
      have h2 := (HB.out.cell (p := ⟨b, off + k * 6 + 2, none⟩) hb0).trans x2
      have h3 := (HB.out.cell (p := ⟨b, off + k * 6 + 3, none⟩) hb0).trans x3
      have h4 := (HB.out.cell (p := ⟨b, off + k * 6 + 4, none⟩) hb0).trans x4
      have h5 := (HB.out.cell (p := ⟨b, off + k * 6 + 5, none⟩) hb0).trans x5
      have hb : b < wr.heap.size := by omega
      have HT1 : Hid (Rd wr ta tn 2 (pcs.map enc2)) := Lib.hid hok.1
      have HT2 : Hid (NilOk ta tn tc) := Lib.hid hok.2
      have HTK := Lib.hid (take_of_drop hgd)
      clear ht hok hgd hgm x0 x1 x2 x3 x4 x5
      have HOW : Hid (((wr.alloc (.cells #[.int .i64 pri, .int .i64 dl, .int .i64 fi, .int .i64 gap, .int .i64 jit, .slice ta tn tc] 45)).alloc (.cells #[] 55)).ownsRow (wr.heap.size + 1) 55 2 (.slice (some ⟨wr.heap.size + 1, 0, none⟩) 0 0) 0 []) := Lib.hid (by
        have := World.ownsRow_lit (e := 55) (size := 2) (base := wr.heap.size + 1) (wr.alloc (.cells #[.int .i64 pri, .int .i64 dl, .int .i64 fi, .int .i64 gap, .int .i64 jit, .slice ta tn tc] 45)) #[] 0 (by simp) (by decide) rfl
        rw [World.size_alloc] at this; exact this)
      go_wp2_with (first
        | (at_builtin; refine wpList_pushAll (B := wr.heap.size + 1) (n := 0) (xs := []) rfl _ _ _ rfl e1 enc2_len enc2_one rfl HOW.out rfl (HT1.out.ext (by (repeat' (first | (with_reducible exact Below.refl _ _) | (with_reducible assumption) | (with_reducible refine Below.alloc ?_ ?_ _) | (with_reducible refine Below.drew ?_) | (with_reducible refine Below.draws ?_ _) | (with_reducible refine Below.setCell ?_ ?_ _) | (refine Below.then ?_ (by with_reducible assumption)) | go_size)))) HT2.out (by omega) (by decide) (by simp) ?_
           intro v2 w2 hown2 hv2 hb2
           rw [Nat.zero_add, List.nil_append] at hown2
           obtain ⟨a2, c2, rfl⟩ := hv2
           rw [Nat.zero_add] at hown2 ⊢
           have HB2 := Lib.hid hb2
           have HO2 := Lib.hid hown2
           have hz2 := hb2.size
           simp only [World.size_alloc] at hz2
           have hc0 := (hb2.cell (p := ⟨wr.heap.size, 0, none⟩) (by simp)).trans (show _ = some (.int .i64 pri) by simp [go_sem])
           have hc1 := (hb2.cell (p := ⟨wr.heap.size, 1, none⟩) (by simp)).trans (show _ = some (.int .i64 dl) by simp [go_sem])
           have hc2 := (hb2.cell (p := ⟨wr.heap.size, 2, none⟩) (by simp)).trans (show _ = some (.int .i64 fi) by simp [go_sem])
           have hc3 := (hb2.cell (p := ⟨wr.heap.size, 3, none⟩) (by simp)).trans (show _ = some (.int .i64 gap) by simp [go_sem])
           have hc4 := (hb2.cell (p := ⟨wr.heap.size, 4, none⟩) (by simp)).trans (show _ = some (.int .i64 jit) by simp [go_sem])
           have hc5 := (hb2.cell (p := ⟨wr.heap.size, 5, none⟩) (by simp)).trans (show _ = some (.slice ta tn tc) by simp [go_sem])
           have hf5 := (hb2.frozen (p := ⟨wr.heap.size, 5, none⟩) (by simp)).trans (show _ = false by simp [go_sem])
           have HBW : Hid (Below wr.heap.size wr w2) := Lib.hid ((((Below.refl wr.heap.size wr).alloc (Nat.le_refl _) _).alloc (by simp) _).trans (hb2.mono (by omega)))
           clear hown2 hb2)
        | (at_builtin; refine wpList_pushM (N := w2.heap.size) (v := .slice a' k c') (by simp) rfl _ _ _ rfl e2 rfl (owns_ext HO.out.own.own (HBW.out.setCell (p := ⟨wr.heap.size, 5, none⟩) (Nat.le_refl _) _)) rfl rfl (by intro u hu; simp at hu; rcases hu with rfl | rfl | rfl | rfl | rfl | rfl <;> rfl) (by omega) (by decide) (by simp; omega) ?_; intro a3 c3 w3 hown3 hb3; have HO3 := Lib.hid hown3; have HB3 := Lib.hid hb3; clear hown3 hb3))
      go_roundw
      case rel =>
        have hS : Below wr.heap.size wr (w2.setCell ⟨wr.heap.size, 5, none⟩ (.slice a2 tn c2)) := HBW.out.setCell (p := ⟨wr.heap.size, 5, none⟩) (Nat.le_refl _) _
        have hOw := (owns_ext HO.out.own.own hS).alloc (.cells #[.int .i64 pri, .int .i64 dl, .int .i64 fi, .int .i64 gap, .int .i64 jit, .slice a2 tn c2] 45)
        have hkeep : ∀ {t : TaV} {B : Nat}, PcO B (w2.setCell ⟨wr.heap.size, 5, none⟩ (.slice a2 tn c2)) t → PcO B w3 t := fun h => owns_kept (h.alloc _) hOw (by decide) HB3.out
        refine ⟨k + 1, g' ++ [⟨pri, dl, fi, gap, jit, a2, tn, c2, pcs⟩], a3, c3, by omega, rfl, by go_num, ⟨⟨by rw [List.flatMap_append]; exact HO3.out, fun t ht => ?_⟩, PcAp.app HO.out.ap (fun u hu x hx => ((HO.out.own.ok u hu).low x hx).2) (fun x hx => (PcO.low (t := ⟨pri, dl, fi, gap, jit, a2, tn, c2, pcs⟩) HO2.out x hx).1)⟩, by rw [HTK.out, List.map_append, List.map_append, HG'.out]; rfl, ?_⟩
        · rcases List.mem_append.1 ht with ht | ht
          · exact hkeep (owns_ext (HO.out.own.ok t ht) hS)
          · simp at ht
            subst ht
            exact hkeep (t := ⟨pri, dl, fi, gap, jit, a2, tn, c2, pcs⟩) (owns_mono (owns_far HO2.out (Nat.lt_succ_self _) _) (by omega))
        · exact ((Below.then HB.out hS).alloc (by simp; omega) _).grown HB3.out (by simp; omega) (fun j hj => (HO.out.own.own.lt j hj).1)
      case measure => simp [intOf]; omega
    · have hkn : k = n := by omega
      subst hkn
      have hgg : g'.map TaV.ta = g.map TaV.ta := by rw [HG'.out, List.take_of_length_le (by rw [HL.out]; exact Nat.le_refl _)]
      have HGG := Lib.hid hgg
      clear hgg
      go_wp2
      go_ret
      exact ⟨_, _, _, rfl, HO.out, HGG.out, HB.out⟩
end Go.Proofs.YtmahagcghpoekaaGreat
namespace Go.Proofs.YtmahagcghpoekaaGreat
open Go.RowKit
set_option linter.unusedSimpArgs false
set_option linter.unusedVariables false
theorem cloneA_any (a : Option Addr) (n c : Nat) (xs : List Int) (w : World) (hn : n ≤ 1000) (hR : Rd w a n 1 (xs.map enc1)) (h0 : n = 0 → (a = none ∧ c = 0) ∨ ∃ ad, a = some ad) :
    Calls Tryz.prog 36 #[.slice a n c] w (OutN w.heap.size n 3 1 w (xs.flatMap enc1)) := by
  have hl := hR.length
  rcases a with _ | ad
  · obtain rfl : n = 0 := by
      rcases Nat.eq_zero_or_pos n with q | q
      · exact q
      · obtain ⟨b, off, q2, _⟩ := hR.at_ q; simp at q2
    rcases h0 rfl with ⟨_, rfl⟩ | ⟨ad, q⟩
    · obtain rfl : xs = [] := List.length_eq_zero_iff.1 hl
      have heq := Lib.run_eql_slice_nil (P := Tryz.prog) w 26 3 none 0 0 0 0 Tryz.underlying26
      go_enter Tryz.func36, Tryz.ntmps36
      go_wp2
      go_ret
      exact ⟨_, _, rfl, World.ownsRow_nil _ _ _ _, Below.refl _ _⟩
    · simp at q
  · have HR := Lib.hid hR
    have e1 := E1
    have HOW : Hid ((w.alloc (.cells #[] 3)).ownsRow w.heap.size 3 1 (.slice (some ⟨w.heap.size, 0, none⟩) 0 0) 0 []) := Lib.hid (World.ownsRow_lit w #[] 0 (Nat.le_refl _) (by decide) rfl)
    have heq := Lib.run_eql_slice_nil (P := Tryz.prog) w 26 3 (some ad) n c 0 0 Tryz.underlying26
    clear hR hl h0
    go_enter Tryz.func36, Tryz.ntmps36
    go_wp2_with (at_builtin; refine wpList_pushAll (B := w.heap.size) (n := 0) (xs := []) rfl _ _ _ rfl e1 enc1_len enc1_one rfl HOW.out rfl (HR.out.ext (by (repeat' (first | (with_reducible exact Below.refl _ _) | (with_reducible assumption) | (with_reducible refine Below.alloc ?_ ?_ _) | (with_reducible refine Below.drew ?_) | (with_reducible refine Below.draws ?_ _) | (with_reducible refine Below.setCell ?_ ?_ _) | (refine Below.then ?_ (by with_reducible assumption)) | go_size)))) (fun _ => .inr ⟨_, rfl⟩) (by omega) (by decide) (by simp) ?_; intro v2 w2 hown2 hv2 hb2)
    rw [Nat.zero_add, List.nil_append] at hown2
    obtain ⟨a', c', rfl⟩ := hv2
    rw [Nat.zero_add] at hown2 ⊢
    go_ret
    exact ⟨_, _, rfl, hown2, Below.trans (by (repeat' (first | (with_reducible exact Below.refl _ _) | (with_reducible assumption) | (with_reducible refine Below.alloc ?_ ?_ _) | (with_reducible refine Below.drew ?_) | (with_reducible refine Below.draws ?_ _) | (with_reducible refine Below.setCell ?_ ?_ _) | (refine Below.then ?_ (by with_reducible assumption)) | go_size))) hb2⟩
def putAt : List Value → Nat → List Value → List Value
  | xs, _, [] => xs
  | xs, o, v :: r => putAt (xs.set o v) (o + 1) r
theorem putAt_len : ∀ (vs : List Value) (o : Nat) (xs : List Value), (putAt xs o vs).length = xs.length
  | [], _, _ => rfl
  | v :: r, o, xs => by rw [putAt, putAt_len r]; simp
theorem putAt_get : ∀ (vs : List Value) (o : Nat) (xs : List Value) (j : Nat), j < xs.length → (putAt xs o vs)[j]? = if o ≤ j ∧ j < o + vs.length then vs[j - o]? else xs[j]?
  | [], o, xs, j, h => by rw [putAt, if_neg (by simp)]
  | v :: r, o, xs, j, h => by
    rw [putAt, putAt_get r (o + 1) (xs.set o v) j (by simpa using h)]
    by_cases h1 : o + 1 ≤ j ∧ j < o + 1 + r.length
    · rw [if_pos h1, if_pos (by simp; omega), show j - o = (j - (o + 1)) + 1 by omega, List.getElem?_cons_succ]
    · rw [if_neg h1]
      by_cases h2 : j = o
      · subst h2
        rw [if_pos (by simp)]
        simp [h]
      · rw [if_neg (by simp at h1 ⊢; omega), List.getElem?_set_ne (by omega)]
theorem owns_put {B e k n c g : Nat} : ∀ (vs : List Value) (o : Nat) (w : World) (xs : List Value), w.ownsRow B e k (.slice (some ⟨g, 0, none⟩) n c) n xs →
    (w.setCells g o vs).ownsRow B e k (.slice (some ⟨g, 0, none⟩) n c) n (putAt xs o vs) ∧ w.grownBy (w.setCells g o vs) (some g)
  | [], o, w, xs, h => ⟨h, World.grownBy.refl _ _⟩
  | v :: r, o, w, xs, h => by
    have h1 := h.stored o v
    have h2 := owns_put r (o + 1) _ _ h1.1
    exact ⟨h2.1, h1.2.trans h2.2⟩
theorem delc_is {v l : Int} {q : Nat} {b : Bool} (w : World) (hc : w.cell? ⟨q, 0, none⟩ = some (.int .i64 l)) (h : (v == l) = b) : Calls Tryz.prog 37 #[.int .i64 v, .pointer (some ⟨q, 0, none⟩)] w fun e w' => e = .returned (.bool b) ∧ w = w' := by
  subst h
  go_enter Tryz.func37, Tryz.ntmps37
  go_wp2
  go_ret
  exact ⟨ret_bool (by simp), rfl⟩
theorem idxI_any (a : Option Addr) (n c : Nat) (xs : List Int) (l : Int) (q : Nat) (w : World) (hR : Rd w a n 1 (xs.map enc1)) (hq : w.cell? ⟨q, 0, none⟩ = some (.int .i64 l)) :
    Calls Tryz.prog 33 #[.slice a n c, .func (.func 37) #[] #[.pointer (some ⟨q, 0, none⟩)]] w fun e w' => e = .returned (.int .i64 (idxGo (fun v => v == l) 0 xs)) ∧ w = w' := by
  have HL := Lib.hid hR.length
  have hs := hR.small
  have HR := Lib.hid hR; clear hR
  have eg : ∀ args w, (callFunc 37 args).run Tryz.prog w = .ok (.enter 37 args) w := fun args w => by kernel_rfl
  generalize hg : idxGo (fun v => v == l) 0 xs = R
  have HG := Lib.hid hg; clear hg
  go_enter Tryz.func33, Tryz.ntmps33
  go_wp2
  go_loopw [8] (fun i wr => ∃ k : Nat, k ≤ n ∧ i = .int .i64 k ∧ idxGo (fun v => v == l) k (xs.drop k) = R ∧ w = wr) (fun i _ => n - (intOf i).toNat)
  case atStart => exact ⟨0, Nat.zero_le _, rfl, HG.out, rfl⟩
  case round =>
    obtain ⟨k, hk, rfl, he, rfl⟩ := hrel
    have HE := Lib.hid he; clear he
    by_cases hlt : k < n
    · obtain ⟨x, b, off, rfl, hb, hc, HD⟩ := HR.out.next1 k hlt
      have HE2 : Hid ((if (x == l) = true then (k : Int) else idxGo (fun v => v == l) (k + 1) (xs.drop (k + 1))) = R) := by have := HE.out; rw [HD.out] at this; exact this
      cases hx : x == l
      · have HX := Lib.hid hx
        rw [hx] at HE2
        clear hx
        go_wp2_with (go_at_fn 37; refine (delc_is _ hq HX.out).mono ?_; rintro e w1 ⟨rfl, rfl⟩)
        go_roundw
        case rel => exact ⟨k + 1, by omega, by go_num, by simpa using HE2.out, by first | rfl | trivial⟩
        case measure => simp [intOf]; omega
      · have HX := Lib.hid hx
        rw [hx] at HE2
        clear hx
        have : R = k := by simpa using HE2.out.symm
        subst this
        go_wp2_with (go_at_fn 37; refine (delc_is _ hq HX.out).mono ?_; rintro e w1 ⟨rfl, rfl⟩)
        go_ret
        exact ⟨rfl, by first | rfl | trivial⟩
    · have : R = -1 := by rw [← HE.out, drop_end HL.out (by omega)]; rfl
      subst this
      go_wp2
      go_ret
      exact ⟨rfl, by first | rfl | trivial⟩
theorem owns_less {w : World} {B e k n c m g : Nat} {xs : List Value} (h : w.ownsRow B e k (.slice (some ⟨g, 0, none⟩) n c) n xs) (hm : m ≤ n) : w.ownsRow B e k (.slice (some ⟨g, 0, none⟩) m c) m (xs.take (m * k)) := by
  obtain ⟨h0, h1 | ⟨g', cap, cur, hv, hB, hg, hn, hc, hs, ht⟩⟩ := h
  · simp at h1
  · simp at hv
    obtain ⟨rfl, rfl⟩ := hv
    have hmk : m * k ≤ n * k := Nat.mul_le_mul_right k hm
    refine ⟨by rw [List.length_take]; omega, .inr ⟨g, c, cur, rfl, hB, hg, by omega, hc, hs, ?_⟩⟩
    rw [← ht, List.take_take, Nat.min_eq_left hmk]
def cutL (xs : List Int) (i : Nat) : List Int := xs.take i ++ xs.drop (i + 1)
def midL (xs : List Int) (i j : Nat) : List Int := (cutL xs i).take (j - 1) ++ xs.drop (j - 1)
theorem cutL_len {xs : List Int} {i : Nat} (h : i < xs.length) : (cutL xs i).length = xs.length - 1 := by simp [cutL]; omega
theorem cutL_get {xs : List Int} {i : Nat} (h : i < xs.length) (j : Nat) : (cutL xs i)[j]? = if j < i then xs[j]? else xs[j + 1]? := by
  unfold cutL
  by_cases q : j < i
  · rw [if_pos q, List.getElem?_append_left (by simp; omega), List.getElem?_take, if_pos q]
  · rw [if_neg q, List.getElem?_append_right (by simp; omega), List.getElem?_drop]
    congr 1
    simp; omega
theorem midL_start {xs : List Int} {i : Nat} (h : i < xs.length) : midL xs i (i + 1) = xs := by
  unfold midL cutL
  rw [Nat.add_sub_cancel, List.take_left' (by simp; omega), List.take_append_drop]
theorem midL_len {xs : List Int} {i j : Nat} (h : i < xs.length) (hj : j ≤ xs.length) (h1 : 1 ≤ j) : (midL xs i j).length = xs.length := by
  unfold midL; rw [List.length_append, List.length_take, cutL_len h, List.length_drop]; omega
theorem midL_at {xs : List Int} {i j : Nat} (h : i < xs.length) (hj : j < xs.length) (h1 : 1 ≤ j) : (midL xs i j)[j]? = xs[j]? := by
  unfold midL
  have e : ((cutL xs i).take (j - 1)).length = j - 1 := by rw [List.length_take, cutL_len h]; omega
  rw [List.getElem?_append_right (by omega), e, List.getElem?_drop]
  congr 1; omega
theorem midL_step {xs : List Int} {i j : Nat} {x : Int} (h : i < j) (hj : xs[j]? = some x) : (midL xs i j).set (j - 1) x = midL xs i (j + 1) := by
  have hjl := (List.getElem?_eq_some_iff.1 hj).1
  have hil : i < xs.length := by omega
  have e : ((cutL xs i).take (j - 1)).length = j - 1 := by rw [List.length_take, cutL_len hil]; omega
  have hc : (cutL xs i)[j - 1]? = some x := by rw [cutL_get hil, if_neg (by omega), show j - 1 + 1 = j by omega]; exact hj
  unfold midL
  rw [List.set_append_right _ _ (by omega), e, Nat.sub_self, show j + 1 - 1 = (j - 1) + 1 by omega, List.take_add_one, hc]
  have hd : xs.drop (j - 1) = xs[j - 1]'(by omega) :: xs.drop (j - 1 + 1) := List.drop_eq_getElem_cons (by omega)
  rw [hd, List.set_cons_zero, List.append_assoc]
  rfl
theorem midL_end {xs : List Int} {i : Nat} (h : i < xs.length) : (midL xs i xs.length).take (xs.length - 1) = cutL xs i := by
  unfold midL
  have e : ((cutL xs i).take (xs.length - 1)) = cutL xs i := List.take_of_length_le (by rw [cutL_len h]; exact Nat.le_refl _)
  rw [e, List.take_left' (cutL_len h)]
theorem clear_one {w : World} {b o c : Nat} (hc : (w.cell? ⟨b, o, none⟩).isSome = true) (hf : w.frozen? ⟨b, o, none⟩ = false) (ty : TypeId) :
    (Builtin.clear_ #[26] ty #[.slice (some ⟨b, o, none⟩) 1 c]).run Tryz.prog w = .ok (.tuple #[]) (w.setCells b o [.int .i64 0]) :=
  Lib.run_clear_slice w 26 3 ty _ Tryz.underlying26 Tryz.zeroValue3 rfl rfl b o 1 c (by omega) (fun j hj => by rw [show o + j = o by omega]; exact hc) (fun j hj => by rw [show o + j = o by omega]; exact hf)
def DelP (B : Nat) (w : World) (b n c : Nat) (xs : List Int) (e : Ending) (w' : World) : Prop :=
  e = .returned (.slice (some ⟨b, 0, none⟩) n c) ∧ w'.ownsRow B 3 1 (.slice (some ⟨b, 0, none⟩) n c) n (xs.flatMap enc1) ∧ w.grownBy w' (some b)
set_option maxRecDepth 10000 in
set_option maxHeartbeats 4000000 in
theorem del_any (B b n c i : Nat) (xs : List Int) (l : Int) (q : Nat) (w : World) (hn : n ≤ 1000) (hO : w.ownsRow B 3 1 (.slice (some ⟨b, 0, none⟩) n c) n (xs.flatMap enc1)) (hqb : q ≠ b) (hqw : q < w.heap.size) (hq : w.cell? ⟨q, 0, none⟩ = some (.int .i64 l))
    (hi : idxGo (fun v => v == l) 0 xs = i) (hin : i < n) (hone : ∀ j x, i < j → xs[j]? = some x → (x == l) = false) :
    Calls Tryz.prog 35 #[.slice (some ⟨b, 0, none⟩) n c, .func (.func 37) #[] #[.pointer (some ⟨q, 0, none⟩)]] w (DelP B w b (n - 1) c (cutL xs i)) := by
  have hlen := (ownsI_rd hO).length
  have HI := Lib.hid hi
  have HO0 := Lib.hid hO
  have HLN := Lib.hid hlen
  have HONE := Lib.hid hone
  have eg : ∀ args w, (callFunc 37 args).run Tryz.prog w = .ok (.enter 37 args) w := fun args w => by kernel_rfl
  have hne1 : ((i : Int) == -1) = false := beq_eq_false_iff_ne.2 (by omega)
  clear hi hO hlen hone
  go_enter Tryz.func35, Tryz.ntmps35
  go_wp2_with (go_at_call 33; (with_reducible refine (idxI_any _ _ _ xs l q _ (ownsI_rd HO0.out) hq).mono ?_); rw [HI.out]; rintro e w1 ⟨rfl, rfl⟩)
  go_loopw [5, 6] (fun u v wr => ∃ j : Nat, i < j ∧ j ≤ n ∧ u = .int .i64 ((j - 1 : Nat) : Int) ∧ v = .int .i64 j ∧ wr.ownsRow B 3 1 (.slice (some ⟨b, 0, none⟩) n c) n ((midL xs i j).flatMap enc1) ∧ w.grownBy wr (some b)) (fun _ v _ => n - (intOf v).toNat)
  case atStart => exact ⟨i + 1, by omega, by omega, by simp, by go_num, by rw [midL_start (by rw [HLN.out]; exact hin)]; exact HO0.out, World.grownBy.refl _ _⟩
  case round =>
    obtain ⟨j, hij, hjn, rfl, rfl, hO, hG⟩ := hrel
    have HO := Lib.hid hO; have HG := Lib.hid hG
    have hqr := hG.cell hq (by simpa using hqb)
    clear hO hG
    by_cases hlt : j < n
    · obtain ⟨x, hx, hcx, hfx, hbx⟩ := ownsI_at HO.out j hlt
      rw [midL_at (by rw [HLN.out]; exact hin) (by rw [HLN.out]; exact hlt) (by omega)] at hx
      obtain ⟨y, hy, hcy, hfy, _⟩ := ownsI_at HO.out (j - 1) (by omega)
      have HX := Lib.hid (HONE.out j x hij hx)
      have HXX := Lib.hid hx
      clear hx hy
      obtain ⟨p, rfl⟩ : ∃ p, j = p + 1 := ⟨j - 1, by omega⟩
      simp only [Nat.add_sub_cancel] at hcy hfy ⊢
      go_wp2_with (go_at_fn 37; refine (delc_is _ hqr HX.out).mono ?_; rintro e w1 ⟨rfl, rfl⟩)
      go_roundw
      case rel =>
        have hs := HO.out.stored p (.int .i64 x)
        have e : ((midL xs i (p + 1)).flatMap enc1).set p (.int .i64 x) = (midL xs i (p + 2)).flatMap enc1 := by
          rw [flat_enc1, flat_enc1, ← List.map_set]
          have := midL_step hij HXX.out
          rw [Nat.add_sub_cancel] at this
          rw [this]
        rw [e] at hs
        exact ⟨p + 2, by omega, by omega, by go_num, by go_num, hs.1, HG.out.trans hs.2⟩
      case measure => simp [intOf]; omega
    · obtain rfl : j = n := by omega
      obtain ⟨m, rfl⟩ : ∃ m, j = m + 1 := ⟨j - 1, by omega⟩
      obtain ⟨y, hy, hcy, hfy, _⟩ := ownsI_at HO.out m (by omega)
      have hclr := fun ty c => clear_one (w := wr) (b := b) (o := m) (c := c) (by rw [hcy]; rfl) hfy ty
      have e1 : m + 1 - m = 1 := by omega
      have hc1 : m + 1 ≤ c := by
        rcases HO.out.2 with ⟨h, _⟩ | ⟨g', cap', cur, h, _, _, hh, _⟩
        · simp at h
        · simp at h; omega
      have hc2 : ¬ c = m := by omega
      have hc3 : m ≤ c := by omega
      simp only [Nat.add_sub_cancel]
      clear hy
      go_wp2
      go_ret
      have h1 := owns_put [.int .i64 0] m _ _ HO.out
      have h2 := owns_less h1.1 (show m ≤ m + 1 by omega)
      refine ⟨rfl, ?_, HG.out.trans h1.2⟩
      have hxl : xs.length = m + 1 := HLN.out
      have e : (putAt ((midL xs i (m + 1)).flatMap enc1) m [.int .i64 0]).take (m * 1) = (cutL xs i).flatMap enc1 := by
        have h3 := midL_end (xs := xs) (i := i) (by omega)
        rw [hxl, Nat.add_sub_cancel] at h3
        rw [flat_enc1, flat_enc1, ← h3, List.map_take, Nat.mul_one]
        show ((List.map (Value.int IntKind.i64) (midL xs i (m + 1))).set m _).take m = _
        rw [List.take_set_of_le (Nat.le_refl m)]
      rw [e] at h2
      exact h2
end Go.Proofs.YtmahagcghpoekaaGreat
namespace Go.Proofs.YtmahagcghpoekaaGreat
open Go.RowKit
set_option linter.unusedSimpArgs false
set_option linter.unusedVariables false
def grRen : Go.Shelf.Ren := ⟨fun | 4 => 71 | n => n, fun | 0 => 0 | 3 => 3 | 4 => 4 | 9 => 9 | 20 => 20 | 22 => 26 | 25 => 3 | n => n, fun n => n⟩
theorem grLay : Go.Proofs.Lays8.n4 Tryz.prog grRen := {
  mixed := by kernel_rfl
  f4 := ⟨"slices.Grow[[]int,int]", by decide, Tryz.func71.trans (congrArg some (by kernel_rfl))⟩
  t0 := Tryz.underlying0
  a0 := Tryz.isAgg0
  z0 := Tryz.sizeOf0
  v0 := Tryz.zeroValue0
  t3 := Tryz.underlying3
  a3 := Tryz.isAgg3
  z3 := Tryz.sizeOf3
  v3 := Tryz.zeroValue3
  t4 := Tryz.underlying4
  a4 := Tryz.isAgg4
  z4 := Tryz.sizeOf4
  v4 := Tryz.zeroValue4
  t9 := Tryz.underlying9
  a9 := Tryz.isAgg9
  z9 := Tryz.sizeOf9
  v9 := Tryz.zeroValue9
  t20 := Tryz.underlying20
  a20 := Tryz.isAgg20
  z20 := Tryz.sizeOf20
  v20 := Tryz.zeroValue20
  t22 := Tryz.underlying26
  a22 := Tryz.isAgg26
  z22 := Tryz.sizeOf26
  v22 := Tryz.zeroValue26 }
theorem grow_any (n : Nat) (w : World) (h0 : 0 < n) (hn : n ≤ 100000) : Calls Tryz.prog 71 #[.slice none 0 0, .int .i64 n] w fun e w' =>
    ∃ a c, e = .returned (.slice a 0 c) ∧ w'.ownsRow w.heap.size 3 1 (.slice a 0 c) 0 [] ∧ Below w.heap.size w w' := by
  obtain ⟨i0, hi0, hz0, hzs, hzb⟩ := info_parts (show (Tryz.prog.info? 3).map (fun i => (i.zero, i.size, i.bytes)) = some (some (.int .i64 0), 1, 8) by kernel_rfl)
  have := Any8.slices_Grow_grow grLay i0 _ hi0 hz0 (by omega) none 0 0 n [] w (by omega) (by omega) (by rw [hzb]; omega) (by omega) (by simp) (fun _ => rfl) (fun a h => by simp at h)
  refine this.mono ?_
  rintro e w' ⟨rfl, rfl⟩
  have hcm : grownCap w (0 + n) 0 3 ≤ maxLen := grownCap_le_maxLen w (0 + n) 0 3 (by unfold maxLen; omega)
  have hge := grownCap_ge w (0 + n) 0 3
  have hb : Below w.heap.size w w.drew := (Below.refl _ _).drew
  refine ⟨_, _, rfl, ⟨rfl, .inr ⟨w.heap.size, _, _, rfl, Nat.le_refl _, heap_alloc_new w.drew _, Nat.zero_le _, hcm, ?_, by simp⟩⟩, hb.alloc (Nat.le_refl _) _⟩
  simp only [Array.size_append, List.size_toArray, size_zeroCells]
  show 0 + (0 + n - 0) * 1 + (grownCap w (0 + n) 0 3 - (0 + n)) * 1 = grownCap w (0 + n) 0 3 * 1
  omega
/-- a slice of ints as it is handed over -/
structure ISl where
  a : Option Addr
  n : Nat
  c : Nat
  xs : List Int
deriving Inhabited
abbrev valS (s : ISl) : Value := .slice s.a s.n s.c
def ISl.ok (w : World) (s : ISl) : Prop := Rd w s.a s.n 1 (s.xs.map enc1) ∧ (s.n = 0 → (s.a = none ∧ s.c = 0) ∨ ∃ ad, s.a = some ad)
theorem ISl.ok.ext {w w' : World} {s : ISl} (h : s.ok w) (hb : Below w.heap.size w w') : s.ok w' := ⟨h.1.ext hb, h.2⟩
def sizeS : List ISl → Nat
  | [] => 0
  | s :: g => s.n + sizeS g
def catS : List ISl → List Int
  | [] => []
  | s :: g => s.xs ++ catS g
theorem catS_len {w : World} : ∀ {g : List ISl}, (∀ s ∈ g, s.ok w) → (catS g).length = sizeS g
  | [], _ => rfl
  | s :: g, h => by
    have h1 := (h s (by simp)).1.length
    have h2 := catS_len (g := g) (fun t ht => h t (by simp [ht]))
    rw [catS, sizeS, List.length_append, h1, h2]
set_option maxRecDepth 100000 in
set_option maxHeartbeats 4000000 in
theorem concat_any (a : Option Addr) (n c : Nat) (g : List ISl) (w : World) (hR : Rd w a n 1 (g.map fun s => [valS s])) (hok : ∀ s ∈ g, s.ok w) (h0 : 0 < sizeS g) (hs : sizeS g ≤ 1000) :
    Calls Tryz.prog 40 #[.slice a n c] w fun e w' => ∃ a' c', e = .returned (.slice a' (sizeS g) c') ∧ w'.ownsRow w.heap.size 3 1 (.slice a' (sizeS g) c') (sizeS g) ((catS g).flatMap enc1) ∧ Below w.heap.size w w' := by
  have hsm := hR.small
  have HR := Lib.hid hR; have HOK := Lib.hid hok
  have HL : Hid (g.length = n) := Lib.hid (by have := hR.len; simpa using this)
  obtain ⟨R, hRR⟩ : ∃ R, sizeS g = R := ⟨_, rfl⟩
  have HA : Hid (0 + sizeS (g.drop 0) = R) := Lib.hid (by simpa using hRR)
  have HB0 : Hid ([] ++ catS (g.drop 0) = catS g) := Lib.hid rfl
  have HZ : Hid (0 + sizeS (g.drop 0) = R) := HA
  have hE := E1
  rw [hRR] at h0 hs ⊢
  clear hR hok hRR
  go_enter Tryz.func40, Tryz.ntmps40
  go_wp2
  go_loopw [3, 11] (fun v i wr => ∃ k s : Nat, k ≤ n ∧ v = .int .i64 s ∧ i = .int .i64 k ∧ s + sizeS (g.drop k) = R ∧ w = wr) (fun _ i _ => n - (intOf i).toNat)
  case atStart => exact ⟨0, 0, Nat.zero_le _, rfl, rfl, HA.out, rfl⟩
  case round =>
    obtain ⟨k, s, hk, rfl, rfl, he, rfl⟩ := hrel
    have HE := Lib.hid he; clear he
    by_cases hlt : k < n
    · obtain ⟨x, b, off, rfl, hb, hc, HD⟩ := HR.out.nextV k hlt
      have hE2 := HE.out
      rw [HD.out, sizeS] at hE2
      have HE3 : Hid ((s + x.n) + sizeS (g.drop (k + 1)) = R) := Lib.hid (by omega)
      have hsx : s + x.n ≤ 1000 := by omega
      obtain ⟨xa, xn, xc, xs⟩ := x
      simp only [] at hc hsx
      simp only [valS] at hc
      clear hE2
      go_wp2_with fail
      go_roundw
      case rel => exact ⟨k + 1, s + xn, by omega, by go_num, by go_num, HE3.out, by first | rfl | trivial⟩
      case measure => simp [intOf]; omega
    · have hE2 := HE.out
      rw [List.drop_of_length_le (by rw [HL.out]; omega), sizeS, Nat.add_zero] at hE2
      subst hE2
      go_wp2_with (go_at_call 71; (with_reducible refine (grow_any s _ h0 (by omega)).mono ?_); rintro e w2 ⟨a2, c2, rfl, hown2, hb2⟩; have HO2 := Lib.hid hown2; have B2 := Lib.hid hb2; clear hown2 hb2)
      go_loopw [6, 27] (fun v i wr => ∃ (k m : Nat) (a' : Option Addr) (c' : Nat) (ys : List Int), k ≤ n ∧ v = .slice a' m c' ∧ i = .int .i64 k ∧ m + sizeS (g.drop k) = s ∧ ys ++ catS (g.drop k) = catS g ∧ wr.ownsRow w.heap.size 3 1 (.slice a' m c') m (ys.flatMap enc1) ∧ Below w.heap.size w wr) (fun _ i _ => n - (intOf i).toNat)
      case atStart => exact ⟨0, 0, a2, c2, [], Nat.zero_le _, rfl, rfl, HZ.out, HB0.out, HO2.out, B2.out⟩
      case round =>
        clear HO2 B2
        obtain ⟨k2, m, a', c', ys, hk2, rfl, rfl, he, hy, hO, hB⟩ := hrel
        have HE4 := Lib.hid he; have HY := Lib.hid hy; have HO := Lib.hid hO; have HB := Lib.hid hB
        have hz := hB.size
        clear he hy hO hB
        by_cases hlt2 : k2 < n
        · obtain ⟨x, b, off, rfl, hb, hc, HD⟩ := (HR.out.ext HB.out).nextV k2 hlt2
          have hxm : x ∈ g := List.mem_of_mem_drop (by rw [HD.out]; simp)
          have hx := (HOK.out x hxm).ext HB.out
          have hE2 := HE4.out
          have hY2 := HY.out
          rw [HD.out, sizeS] at hE2
          rw [HD.out, catS, ← List.append_assoc] at hY2
          have HX1 := Lib.hid hx.1; have HX2 := Lib.hid hx.2
          have HE5 : Hid ((m + x.n) + sizeS (g.drop (k2 + 1)) = s) := Lib.hid (by omega)
          have HY5 := Lib.hid hY2
          have hmx : m + x.n ≤ 1000 := by omega
          obtain ⟨xa, xn, xc, xs⟩ := x
          simp only [] at hc hmx
          simp only [valS] at hc
          clear hE2 hY2 hx hxm
          go_wp2_with (at_builtin; refine wpList_pushAll (B := w.heap.size) rfl _ _ _ rfl hE enc1_len enc1_one rfl HO.out rfl HX1.out HX2.out (by omega) (by decide) (by omega) ?_; intro v3 w3 hown3 hv3 hb3; obtain ⟨a3, c3, rfl⟩ := hv3; have HO3 := Lib.hid hown3; have B3 := Lib.hid hb3; clear hown3 hb3)
          go_roundw
          case rel => exact ⟨k2 + 1, m + xn, a3, c3, ys ++ xs, by omega, rfl, by go_num, HE5.out, HY5.out, by rw [List.flatMap_append]; exact HO3.out, HB.out.trans B3.out⟩
          case measure => simp [intOf]; omega
        · have hE2 := HE4.out
          have hY2 := HY.out
          rw [List.drop_of_length_le (by rw [HL.out]; omega), sizeS, Nat.add_zero] at hE2
          rw [List.drop_of_length_le (by rw [HL.out]; omega), catS, List.append_nil] at hY2
          subst hE2
          subst hY2
          go_wp2_with fail
          go_ret
          exact ⟨_, _, rfl, HO.out, HB.out⟩
theorem del_list {xs : List Int} {i : Nat} (hi : i < xs.length) : ((putAt (putAt (xs.flatMap enc1) i ((xs.drop (i + 1)).flatMap enc1)) (xs.length - 1) [.int .i64 0]).take ((xs.length - 1) * 1)) = (cutL xs i).flatMap enc1 := by
  rw [Nat.mul_one]
  apply List.ext_getElem?
  intro j
  by_cases hj : j < xs.length - 1
  · rw [List.getElem?_take_of_lt hj, putAt_get _ _ _ _ (by rw [putAt_len]; simp [flat_enc1]; omega), if_neg (by omega), putAt_get _ _ _ _ (by simp [flat_enc1]; omega), flat_enc1, flat_enc1, flat_enc1]
    simp only [List.getElem?_map]
    rw [cutL_get hi]
    by_cases h1 : j < i
    · rw [if_neg (by omega), if_pos h1]
    · rw [if_pos (by simp; omega), if_neg h1, List.getElem?_drop, show i + 1 + (j - i) = j + 1 by omega]
  · rw [List.getElem?_eq_none (by rw [List.length_take, putAt_len, putAt_len]; simp; omega), List.getElem?_eq_none (by rw [flat_enc1, List.length_map, cutL_len hi]; omega)]
theorem grown_drew' (W : World) (r : Option Nat) : W.grownBy W.drew r := ⟨rfl, rfl, rfl, Nat.le_refl _, fun _ _ _ => rfl⟩
set_option maxRecDepth 100000 in
set_option maxHeartbeats 4000000 in
theorem delete_any (B b n c i : Nat) (xs : List Int) (w : World) (hn : n ≤ 1000) (hO : w.ownsRow B 3 1 (.slice (some ⟨b, 0, none⟩) n c) n (xs.flatMap enc1)) (hi : i < n) :
    Calls Tryz.prog 41 #[.slice (some ⟨b, 0, none⟩) n c, .int .i64 i, .int .i64 ((i + 1 : Nat) : Int)] w (DelP B w b (n - 1) c (cutL xs i)) := by
  have hlen := (ownsI_rd hO).length
  obtain ⟨i0, hi0, hz0, hzs, hzb⟩ := info_parts (show (Tryz.prog.info? 3).map (fun i => (i.zero, i.size, i.bytes)) = some (some (.int .i64 0), 1, 8) by kernel_rfl)
  have hc1 : n ≤ c := by
    rcases hO.2 with ⟨h, _⟩ | ⟨g', cap', cur', h, _, _, hh, _⟩
    · simp at h
    · simp at h; omega
  obtain ⟨m, rfl⟩ : ∃ m, n = m + 1 := ⟨n - 1, by omega⟩
  have hcell : ∀ j, j < m + 1 → (w.cell? ⟨b, j, none⟩).isSome = true := fun j hj => by
    rw [hO.cellAt j (by omega)]
    rw [flat_enc1, List.getElem?_map, List.getElem?_eq_getElem (by omega)]; rfl
  have hfr : ∀ j, w.frozen? ⟨b, j, none⟩ = false := fun j => hO.frozenAt j
  have hld : (xs.drop (i + 1)).length = m - i := by simp; omega
  obtain ⟨news, hnews⟩ : ∃ l, (xs.drop (i + 1)).flatMap enc1 = l := ⟨_, rfl⟩
  have hnl : news.length = m - i := by rw [← hnews, flat_enc1, List.length_map, hld]
  have hload : (loadCellsFrom ⟨b, i + 1, none⟩ 0 (m - i) #[]).run Tryz.prog w.drew = .ok news.toArray w.drew := by
    have := run_loadCells_list (P := Tryz.prog) (w := w.drew) ⟨b, i + 1, none⟩ news (fun j u hj => by
      have hjl := (List.getElem?_eq_some_iff.1 hj).1
      have h1 : w.cell? ⟨b, i + 1 + j, none⟩ = some u := by
        rw [hO.cellAt (i + 1 + j) (by omega), flat_enc1, List.getElem?_map]
        rw [← hnews, flat_enc1, List.getElem?_map, List.getElem?_drop] at hj
        exact hj
      have e : (⟨b, i + 1, none⟩ : Addr).add j = ⟨b, i + 1 + j, none⟩ := by unfold Addr.add; split <;> simp_all
      rw [e]; exact h1)
    rw [hnl] at this
    simpa [loadCells] using this
  have hstore : (storeCells ⟨b, i, none⟩ news).run Tryz.prog w.drew = .ok () (w.drew.setCells b i news) := by
    have := run_storeCells_cells (P := Tryz.prog) b i news 0 w.drew (fun j hj => by rw [Nat.add_zero]; exact hcell _ (by omega)) (fun j hj => by rw [Nat.add_zero]; exact hfr _) (fun u hu => by
      rw [← hnews] at hu
      obtain ⟨y, _, hy⟩ := List.mem_flatMap.1 hu
      exact enc1_one y u hy)
    exact this
  obtain ⟨w2, hw2⟩ : ∃ w2, w.drew.setCells b i ((xs.drop (i + 1)).flatMap enc1) = w2 := ⟨_, rfl⟩
  have HW2 := Lib.hid hw2
  have hP := owns_put ((xs.drop (i + 1)).flatMap enc1) i w.drew (xs.flatMap enc1) (owns_ext hO (Below.refl _ _).drew)
  rw [hnews] at hw2 hP
  rw [hw2] at hP
  rw [hw2] at hstore
  have hcm : (w2.cell? ⟨b, m, none⟩).isSome = true := by
    rw [hP.1.cellAt m (by omega), putAt_get _ _ _ _ (by rw [flat_enc1, List.length_map]; omega)]
    split
    · rename_i h
      rw [List.getElem?_eq_getElem (by omega)]; rfl
    · rw [List.getElem?_eq_getElem (by rw [flat_enc1, List.length_map]; omega)]; rfl
  have hclr := fun ty c => clear_one (w := w2) (b := b) (o := m) (c := c) hcm (hP.1.frozenAt m) ty
  have HP := Lib.hid hP
  have HL := Lib.hid hlen
  have hne : ((i : Int) == ((i : Int) + 1)) = false := by simp; omega
  have e1 : m + 1 - m = 1 := by omega
  have e2 : m + 1 - (i + 1) = m - i := by omega
  have hc2 : m + 1 ≤ c := hc1
  have hc3 : m ≤ c := by omega
  have hc4 : i ≤ c := by omega
  have hc5 : i + 1 ≤ m + 1 := by omega
  have hc6 : i + 1 ≤ c := by omega
  have HNW := Lib.hid hnews
  have HN0 : Hid (m = i → w2 = w.drew) := Lib.hid (fun e => by
    have : news = [] := List.length_eq_zero_iff.1 (by omega)
    rw [← hw2, this]; rfl)
  clear hO hlen hcell hfr hld hw2 hP hi0 hz0 hzs hzb hcm hnews hnl
  have hc7 : ¬ c = m := by omega
  have hc8 : i ≤ m := by omega
  have hc9 : 0 ≤ (i : Int) + 1 := by omega
  have fin : ∀ w3 : World, w3 = w2.setCells b m [.int .i64 0] → DelP B w b m c (cutL xs i) (.returned (.slice (some ⟨b, 0, none⟩) m c)) w3 := fun w3 e => by
    subst e
    have h1 := owns_put [.int .i64 0] m _ _ HP.out.1
    have h2 := owns_less h1.1 (show m ≤ m + 1 by omega)
    have hd := del_list (xs := xs) (i := i) (by rw [HL.out]; omega)
    rw [HL.out, Nat.add_sub_cancel, HNW.out] at hd
    rw [hd] at h2
    exact ⟨rfl, h2, (grown_drew' w _).trans (HP.out.2.trans h1.2)⟩
  have FIN := Lib.hid fin
  clear fin
  by_cases hcc : c = i + 1
  · subst hcc
    obtain rfl : m = i := by omega
    obtain rfl := HN0.out rfl
    go_enter Tryz.func41, Tryz.ntmps41
    go_wp2_with fail
    go_region
    go_wp2_with fail
    go_ret
    exact FIN.out _ rfl
  · go_enter Tryz.func41, Tryz.ntmps41
    go_wp2_with fail
    go_region
    go_wp2_with fail
    go_ret
    exact FIN.out _ rfl
end Go.Proofs.YtmahagcghpoekaaGreat
