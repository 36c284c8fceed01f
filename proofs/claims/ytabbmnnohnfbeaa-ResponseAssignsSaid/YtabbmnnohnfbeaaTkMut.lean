/- Tasks that the call made and may write: cells of the tasks and of their pieces. The conditions: the tasks read as named and are few. -/
import Derived.Test.YtabbmnnohnfbeaaTkCopy
import Derived.OneCell
import Derived.Laws.OwnMore
namespace Go.Proofs.Ytabbmnnohnfbeaa
open Go.RowKit
set_option linter.unusedSimpArgs false
set_option linter.unusedVariables false
def TaV.blk (t : TaV) : Option Nat := (Value.slice t.a t.n t.c).ownBlock
/-- no two tasks' pieces lie in one block -/
def PcAp (g : List TaV) : Prop := g.Pairwise (fun t u => ∀ x, t.blk = some x → u.blk ≠ some x)
structure MutT (B : Nat) (w : World) (a : Option Addr) (n c : Nat) (g : List TaV) : Prop where
  own : OwnT B w a n c g
  ap : PcAp g
theorem PcO.low {B : Nat} {w : World} {t : TaV} (h : PcO B w t) : ∀ x, t.blk = some x → B ≤ x ∧ x < w.heap.size := by
  intro x hx
  rcases h.2 with ⟨hv, _⟩ | ⟨g, cap, cur, hv, hB, hg, _⟩
  · unfold TaV.blk at hx; rw [hv] at hx; simp [Value.ownBlock] at hx
  · unfold TaV.blk at hx; rw [hv] at hx; simp [Value.ownBlock] at hx; subst hx; exact ⟨hB, (Array.getElem?_eq_some_iff.1 hg).1⟩
theorem MutT.rd {B w a n c g} (h : MutT B w a n c g) : RdT w a n g := h.own.rd
theorem MutT.rdL {B w a n c g} (h : MutT B w a n c g) : RdL w a n (g.map TaV.ta) := ⟨g, h.own.rd, rfl⟩
theorem MutT.ext {B w w' a n c g} (h : MutT B w a n c g) (hb : Below w.heap.size w w') : MutT B w' a n c g :=
  ⟨⟨owns_ext h.own.own hb, fun t ht => owns_ext (h.own.ok t ht) hb⟩, h.ap⟩
theorem MutT.addr {B w a n c g} (h : MutT B w a n c g) (hn : 0 < n) : ∃ q, a = some ⟨q, 0, none⟩ ∧ B ≤ q ∧ q < w.heap.size := by
  rcases h.own.own.2 with ⟨_, h8⟩ | ⟨g, cap, cur, hv, hB, hg, _⟩
  · omega
  · simp at hv; exact ⟨g, hv.1, hB, (Array.getElem?_eq_some_iff.1 hg).1⟩
theorem PcO.addr {B w} {t : TaV} (h : PcO B w t) (hn : 0 < t.n) : ∃ q, t.a = some ⟨q, 0, none⟩ ∧ B ≤ q ∧ q < w.heap.size ∧ t.blk = some q := by
  rcases h.2 with ⟨_, h8⟩ | ⟨g, cap, cur, hv, hB, hg, _⟩
  · omega
  · simp at hv; exact ⟨g, hv.1, hB, (Array.getElem?_eq_some_iff.1 hg).1, by unfold TaV.blk; rw [hv.1]; rfl⟩
/-- rows of tasks and of pieces share no block -/
theorem owns_diff {w : World} {B B' e e' k k' n n' q c : Nat} {v : Value} {xs xs' : List Value} (h : w.ownsRow B e k (.slice (some ⟨q, 0, none⟩) n c) n xs) (h' : w.ownsRow B' e' k' v n' xs') (hne : e ≠ e') : v.ownBlock ≠ some q := by
  rcases h'.2 with ⟨rfl, _⟩ | ⟨g', cap', cur', rfl, _, hh', _⟩
  · simp [Value.ownBlock]
  · simp only [Value.ownBlock, ne_eq, Option.some.injEq]
    rintro rfl
    rcases h.2 with ⟨hv, _⟩ | ⟨g, cap, cur, hv, _, hh, _⟩
    · simp at hv
    · simp at hv
      obtain ⟨rfl, _⟩ := hv
      rw [hh] at hh'
      simp at hh'
      exact hne hh'.2
theorem flat_set {α : Type} {enc : α → List Value} {k : Nat} (he : ∀ x, (enc x).length = k) : ∀ (xs : List α) (i j : Nat) (x y : α) (u : Value), xs[i]? = some x → j < k → enc y = (enc x).set j u → (xs.flatMap enc).set (i * k + j) u = (xs.set i y).flatMap enc
  | [], i, j, x, y, u, h, _, _ => by simp at h
  | z :: xs, 0, j, x, y, u, h, hj, e => by
    simp at h; subst h
    simp only [List.flatMap_cons, List.set_cons_zero, Nat.zero_mul, Nat.zero_add]
    rw [List.set_append_left _ _ (by rw [he]; exact hj), e]
  | z :: xs, i + 1, j, x, y, u, h, hj, e => by
    have := flat_set he xs i j x y u (by simpa using h) hj e
    simp only [List.flatMap_cons, List.set_cons_succ]
    rw [List.set_append_right _ _ (by rw [he, Nat.add_mul]; omega), he, ← this]
    congr 2
    rw [Nat.add_mul]; omega
theorem pairwise_set {α β : Type} {R : α → α → Prop} (f : α → β) (hR : ∀ a b a' b', f a = f a' → f b = f b' → R a b → R a' b') : ∀ (g : List α) (k : Nat) (x y : α), g[k]? = some x → f x = f y → g.Pairwise R → (g.set k y).Pairwise R
  | [], _, _, _, h, _, _ => by simp at h
  | z :: g, 0, x, y, h, e, hp => by
    simp at h; subst h
    rw [List.pairwise_cons] at hp
    rw [List.set_cons_zero, List.pairwise_cons]
    exact ⟨fun b hb => hR z b y b e rfl (hp.1 b hb), hp.2⟩
  | z :: g, k + 1, x, y, h, e, hp => by
    rw [List.pairwise_cons] at hp
    rw [List.set_cons_succ, List.pairwise_cons]
    have hk : g[k]? = some x := by simpa using h
    refine ⟨fun b hb => ?_, pairwise_set f hR g k x y hk e hp.2⟩
    rcases List.mem_or_eq_of_mem_set hb with hb | rfl
    · exact hp.1 b hb
    · exact hR z x z b rfl e (hp.1 x (List.mem_of_getElem? hk))
theorem PcAp.set {g : List TaV} (h : PcAp g) {k : Nat} {t t' : TaV} (hk : g[k]? = some t) (e : t.blk = t'.blk) : PcAp (g.set k t') :=
  pairwise_set TaV.blk (fun a b a' b' e1 e2 r x hx => by rw [← e2]; exact r x (by rw [e1]; exact hx)) g k t t' hk e h
theorem mem_set {α : Type} {g : List α} {k : Nat} {x y : α} (h : y ∈ g.set k x) : y ∈ g ∨ y = x := List.mem_or_eq_of_mem_set h
theorem MutT.at_ {B w q n c g} (h : MutT B w (some ⟨q, 0, none⟩) n c g) {k : Nat} {t : TaV} (hk : g[k]? = some t) (j : Nat) (hj : j < 6) : w.cell? ⟨q, k * 6 + j, none⟩ = (encTa t)[j]? ∧ w.frozen? ⟨q, k * 6 + j, none⟩ = false := by
  obtain ⟨hi, rfl⟩ := List.getElem?_eq_some_iff.1 hk
  have hl := (Rd.of_owns encTa_len (by decide) h.own.own).length
  have : (k + 1) * 6 ≤ n * 6 := Nat.mul_le_mul_right 6 (by omega)
  rw [h.own.own.cellAt (k * 6 + j) (by omega), flat_get encTa_len g k j hi hj]
  exact ⟨rfl, h.own.own.frozenAt _⟩
theorem MutT.piece {B w a n c g} (h : MutT B w a n c g) {k : Nat} {t : TaV} (hk : g[k]? = some t) {q i : Nat} {p : P2} (ha : t.a = some ⟨q, 0, none⟩) (hi : t.pcs[i]? = some p) (j : Nat) (hj : j < 2) : w.cell? ⟨q, i * 2 + j, none⟩ = (enc2 p)[j]? ∧ w.frozen? ⟨q, i * 2 + j, none⟩ = false := by
  have hO := h.own.ok t (List.mem_of_getElem? hk)
  obtain ⟨ta, tn, tc, pcs, e⟩ : ∃ a n c ps, t.a = a ∧ t.n = n ∧ t.c = c ∧ t.pcs = ps := ⟨_, _, _, _, rfl, rfl, rfl, rfl⟩
  obtain ⟨hi', rfl⟩ := List.getElem?_eq_some_iff.1 hi
  have hO' : w.ownsRow B 62 2 (.slice (some ⟨q, 0, none⟩) t.n t.c) t.n (t.pcs.flatMap enc2) := by have := hO; unfold PcO at this; rw [ha] at this; exact this
  have hl := (Rd.of_owns enc2_len (by decide) hO').length
  have : (i + 1) * 2 ≤ t.n * 2 := Nat.mul_le_mul_right 2 (by omega)
  rw [hO'.cellAt (i * 2 + j) (by omega), flat_get enc2_len t.pcs i j hi' hj]
  exact ⟨rfl, hO'.frozenAt _⟩
/-- a cell of a task is written -/
theorem MutT.set {B w q n c g} (h : MutT B w (some ⟨q, 0, none⟩) n c g) {k : Nat} {t t' : TaV} (hk : g[k]? = some t) (j : Nat) (hj : j < 6) (u : Value) (he : encTa t' = (encTa t).set j u) (ha : t'.a = t.a) (hn : t'.n = t.n) (hc : t'.c = t.c) (hp : t'.pcs = t.pcs) :
    MutT B (w.setCell ⟨q, k * 6 + j, none⟩ u) (some ⟨q, 0, none⟩) n c (g.set k t') := by
  have hs := (h.own.own.stored (k * 6 + j) u).1
  rw [flat_set encTa_len g k j t t' u hk hj he] at hs
  have hkeep : ∀ x ∈ g, PcO B (w.setCell ⟨q, k * 6 + j, none⟩ u) x := fun x hx => ownsRow_setCell_other (h.own.ok x hx) (owns_diff h.own.own (h.own.ok x hx) (by decide)) u
  refine ⟨⟨hs, fun x hx => ?_⟩, h.ap.set hk (by unfold TaV.blk; rw [ha, hn, hc])⟩
  rcases mem_set hx with hx | rfl
  · exact hkeep x hx
  · have := hkeep t (List.mem_of_getElem? hk)
    unfold PcO at this ⊢
    rw [ha, hn, hc, hp]; exact this
theorem PcAp.ne {g : List TaV} (h : PcAp g) {i k : Nat} {t u : TaV} (hi : g[i]? = some t) (hk : g[k]? = some u) (hne : i ≠ k) {q : Nat} (hq : t.blk = some q) : u.blk ≠ some q := by
  obtain ⟨h1, rfl⟩ := List.getElem?_eq_some_iff.1 hi
  obtain ⟨h2, rfl⟩ := List.getElem?_eq_some_iff.1 hk
  unfold PcAp at h
  rw [List.pairwise_iff_getElem] at h
  rcases Nat.lt_or_gt_of_ne hne with h3 | h3
  · exact h i k h1 h2 h3 q hq
  · exact fun e => h k i h2 h1 h3 q e hq
/-- a cell of a piece is written -/
theorem MutT.setP {B w a n c g} (h : MutT B w a n c g) {k : Nat} {t t' : TaV} (hk : g[k]? = some t) {q i : Nat} {p p' : P2} (ha : t.a = some ⟨q, 0, none⟩) (hi : t.pcs[i]? = some p) (j : Nat) (hj : j < 2) (u : Value) (he : enc2 p' = (enc2 p).set j u) (ht : t' = { t with pcs := t.pcs.set i p' }) :
    MutT B (w.setCell ⟨q, i * 2 + j, none⟩ u) a n c (g.set k t') := by
  have hO := h.own.ok t (List.mem_of_getElem? hk)
  have hO' : w.ownsRow B 62 2 (.slice (some ⟨q, 0, none⟩) t.n t.c) t.n (t.pcs.flatMap enc2) := by have := hO; unfold PcO at this; rw [ha] at this; exact this
  have hs := (hO'.stored (i * 2 + j) u).1
  rw [flat_set enc2_len t.pcs i j p p' u hi hj he] at hs
  have hq : t.blk = some q := by unfold TaV.blk; rw [ha]; rfl
  have hm := ownsRow_setCell_other (a := ⟨q, i * 2 + j, none⟩) h.own.own (owns_diff hO' h.own.own (by decide)) u
  have hfl : (g.set k t').flatMap encTa = g.flatMap encTa := by
    have e1 : encTa t' = encTa t := by rw [ht]; rfl
    have : (g.set k t').map encTa = g.map encTa := by
      rw [List.map_set, e1]
      apply List.ext_getElem?
      intro m
      rw [List.getElem?_set]
      split
      · rename_i h1
        subst h1
        have hlt := (List.getElem?_eq_some_iff.1 hk).1
        rw [if_pos (by simpa using hlt), List.getElem?_map, hk]; rfl
      · rfl
    rw [List.flatMap_def, List.flatMap_def, this]
  refine ⟨⟨by rw [hfl]; exact hm, fun x hx => ?_⟩, h.ap.set hk (by rw [ht]; rfl)⟩
  obtain ⟨m, hm⟩ := List.getElem?_of_mem hx
  rw [List.getElem?_set] at hm
  split at hm
  · split at hm
    · simp at hm; subst hm; rw [ht]; unfold PcO; simp only []; rw [ha]; exact hs
    · simp at hm
  · rename_i hne
    exact ownsRow_setCell_other (h.own.ok x (List.mem_of_getElem? hm)) (h.ap.ne hk hm hne hq) u
theorem set_map {α β : Type} (f : α → β) (g : List α) (k : Nat) (x : α) : (g.set k x).map f = (g.map f).set k (f x) := List.map_set
/-- a copy that may be written -/
def OutM (w : World) (n : Nat) (L : List Ta) (e : Ending) (w' : World) : Prop :=
  ∃ a c g, e = .returned (.slice a n c) ∧ MutT w.heap.size w' a n c g ∧ g.map TaV.ta = L ∧ Below w.heap.size w w'
theorem PcAp.app {g : List TaV} {t : TaV} {K : Nat} (h : PcAp g) (h1 : ∀ u ∈ g, ∀ x, u.blk = some x → x < K) (h2 : ∀ x, t.blk = some x → K + 1 ≤ x) : PcAp (g ++ [t]) := by
  refine List.pairwise_append.2 ⟨h, List.pairwise_singleton _ _, fun u hu v hv x hx e => ?_⟩
  simp at hv; subst hv
  have := h1 u hu x hx
  have := h2 x e
  omega
set_option maxRecDepth 10000 in
set_option maxHeartbeats 4000000 in
theorem copied_M (a : Option Addr) (n c : Nat) (L : List Ta) (hn : n ≤ 1000) (hP : ∀ t ∈ L, t.pcs.length ≤ 1000) (w : World) (hL : RdL w a n L) (hN : NilOk a n c) :
    Calls Try.prog 29 #[.slice a n c] w (OutM w n L) := by
  obtain ⟨g, hG, rfl⟩ := hL
  have HR := Lib.hid hG
  have HL := Lib.hid hG.length
  have HH : Hid (∀ t ∈ g, t.n ≤ 1000) := Lib.hid (fun t ht => by
    have h1 := hP t.ta (List.mem_map_of_mem ht)
    have h2 := (hG.ok t ht).1.length
    have h3 : t.ta.pcs.length = t.pcs.length := rfl
    omega)
  clear hG hP
  have e1 := EPc
  have e2 := ETk
  go_enter Try.func29, Try.ntmps29
  go_wp2
  go_loopw [3, 4] (fun v i wr => ∃ (k : Nat) (g' : List TaV) (a' : Option Addr) (c' : Nat), k ≤ n ∧ v = .slice a' k c' ∧ i = .int .i64 k ∧ MutT w.heap.size wr a' k c' g' ∧ g'.map TaV.ta = (g.take k).map TaV.ta ∧ Below w.heap.size w wr) (fun _ i _ => n - (intOf i).toNat)
  case atStart => exact ⟨0, [], none, 0, Nat.zero_le _, rfl, rfl, ⟨⟨World.ownsRow_nil _ _ _ _, by simp⟩, List.Pairwise.nil⟩, rfl, by (repeat' (first | (with_reducible exact Below.refl _ _) | (with_reducible assumption) | (with_reducible refine Below.alloc ?_ ?_ _) | (with_reducible refine Below.drew ?_) | (with_reducible refine Below.draws ?_ _) | (with_reducible refine Below.setCell ?_ ?_ _) | (refine Below.then ?_ (by with_reducible assumption)) | go_size))⟩
  case round =>
    obtain ⟨k, g', a', c', hk, rfl, rfl, hO, hg', hB⟩ := hrel
    have HO := Lib.hid hO; have HB := Lib.hid hB; have HG' := Lib.hid hg'
    have hz := hB.size
    clear hO hB hg'
    by_cases hlt : k < n
    · have hkl : k < g.length := by rw [HL.out]; exact hlt
      have hgd : g.drop k = g[k] :: g.drop (k + 1) := List.drop_eq_getElem_cons hkl
      have hgm : g[k] ∈ g := List.getElem_mem hkl
      obtain ⟨t, ht⟩ : ∃ t, g[k] = t := ⟨_, rfl⟩
      rw [ht] at hgd hgm
      obtain ⟨b, off, rfl, hb0, hc⟩ := HR.out.rd.at_ (by omega)
      have hgk : (g.map encTa)[k]'(by simpa using hkl) = encTa t := by rw [List.getElem_map, ht]
      have x0 := hc k (by simpa using hkl) 0 (by omega)
      have x1 := hc k (by simpa using hkl) 1 (by omega)
      have x2 := hc k (by simpa using hkl) 2 (by omega)
      have x3 := hc k (by simpa using hkl) 3 (by omega)
      have x4 := hc k (by simpa using hkl) 4 (by omega)
      have x5 := hc k (by simpa using hkl) 5 (by omega)
      rw [hgk] at x0 x1 x2 x3 x4 x5
      clear hgk hc
      have hok := (HR.out.ok t hgm).ext HB.out
      have htn : t.n ≤ 1000 := HH.out _ hgm
      obtain ⟨pri, dl, fi, gap, jit, ta, tn, tc, pcs⟩ := t
      simp [encTa] at x0 x1 x2 x3 x4 x5
      simp only [] at htn
      have h0 := (HB.out.cell (p := ⟨b, off + k * 6, none⟩) hb0).trans x0
      have h1 := (HB.out.cell (p := ⟨b, off + k * 6 + 1, none⟩) hb0).trans x1
      have h2 := (HB.out.cell (p := ⟨b, off + k * 6 + 2, none⟩) hb0).trans x2
      have h3 := (HB.out.cell (p := ⟨b, off + k * 6 + 3, none⟩) hb0).trans x3
      have h4 := (HB.out.cell (p := ⟨b, off + k * 6 + 4, none⟩) hb0).trans x4
      have h5 := (HB.out.cell (p := ⟨b, off + k * 6 + 5, none⟩) hb0).trans x5
      have hb : b < wr.heap.size := by omega
      have HT1 : Hid (Rd wr ta tn 2 (pcs.map enc2)) := Lib.hid hok.1
      have HT2 : Hid (NilOk ta tn tc) := Lib.hid hok.2
      have HTK := Lib.hid (take_of_drop hgd)
      clear ht hok hgd hgm x0 x1 x2 x3 x4 x5
      have HOW : Hid (((wr.alloc (.cells #[.int .i64 pri, .int .i64 dl, .int .i64 fi, .int .i64 gap, .int .i64 jit, .slice ta tn tc] 52)).alloc (.cells #[] 62)).ownsRow (wr.heap.size + 1) 62 2 (.slice (some ⟨wr.heap.size + 1, 0, none⟩) 0 0) 0 []) := Lib.hid (by
        have := World.ownsRow_lit (e := 62) (size := 2) (base := wr.heap.size + 1) (wr.alloc (.cells #[.int .i64 pri, .int .i64 dl, .int .i64 fi, .int .i64 gap, .int .i64 jit, .slice ta tn tc] 52)) #[] 0 (by simp) (by decide) rfl
        rw [World.size_alloc] at this; exact this)
      go_wp2_with (first
        | (at_builtin; refine wpList_pushAll (B := wr.heap.size + 1) (n := 0) (xs := []) rfl _ _ _ rfl e1 enc2_len enc2_one rfl HOW.out rfl (HT1.out.ext (by (repeat' (first | (with_reducible exact Below.refl _ _) | (with_reducible assumption) | (with_reducible refine Below.alloc ?_ ?_ _) | (with_reducible refine Below.drew ?_) | (with_reducible refine Below.draws ?_ _) | (with_reducible refine Below.setCell ?_ ?_ _) | (refine Below.then ?_ (by with_reducible assumption)) | go_size)))) HT2.out (by omega) (by decide) (by simp) ?_
           intro v2 w2 hown2 hv2 hb2
           rw [Nat.zero_add, List.nil_append] at hown2
           obtain ⟨a2, c2, rfl⟩ := hv2
           rw [Nat.zero_add] at hown2 ⊢
           have HB2 := Lib.hid hb2
           have HO2 := Lib.hid hown2
           have hz2 := hb2.size
           simp only [World.size_alloc] at hz2
           have hc0 := (hb2.cell (p := ⟨wr.heap.size, 0, none⟩) (by simp)).trans (show _ = some (.int .i64 pri) by simp [go_sem])
           have hc1 := (hb2.cell (p := ⟨wr.heap.size, 1, none⟩) (by simp)).trans (show _ = some (.int .i64 dl) by simp [go_sem])
           have hc2 := (hb2.cell (p := ⟨wr.heap.size, 2, none⟩) (by simp)).trans (show _ = some (.int .i64 fi) by simp [go_sem])
           have hc3 := (hb2.cell (p := ⟨wr.heap.size, 3, none⟩) (by simp)).trans (show _ = some (.int .i64 gap) by simp [go_sem])
           have hc4 := (hb2.cell (p := ⟨wr.heap.size, 4, none⟩) (by simp)).trans (show _ = some (.int .i64 jit) by simp [go_sem])
           have hc5 := (hb2.cell (p := ⟨wr.heap.size, 5, none⟩) (by simp)).trans (show _ = some (.slice ta tn tc) by simp [go_sem])
           have hf5 := (hb2.frozen (p := ⟨wr.heap.size, 5, none⟩) (by simp)).trans (show _ = false by simp [go_sem])
           have HBW : Hid (Below wr.heap.size wr w2) := Lib.hid ((((Below.refl wr.heap.size wr).alloc (Nat.le_refl _) _).alloc (by simp) _).trans (hb2.mono (by omega)))
           clear hown2 hb2)
        | (at_builtin; refine wpList_pushM (N := w2.heap.size) (v := .slice a' k c') (by simp) rfl _ _ _ rfl e2 rfl (owns_ext HO.out.own.own (HBW.out.setCell (p := ⟨wr.heap.size, 5, none⟩) (Nat.le_refl _) _)) rfl rfl (by intro u hu; simp at hu; rcases hu with rfl | rfl | rfl | rfl | rfl | rfl <;> rfl) (by omega) (by decide) (by simp; omega) ?_; intro a3 c3 w3 hown3 hb3; have HO3 := Lib.hid hown3; have HB3 := Lib.hid hb3; clear hown3 hb3))
      go_roundw
      case rel =>
        have hS : Below wr.heap.size wr (w2.setCell ⟨wr.heap.size, 5, none⟩ (.slice a2 tn c2)) := HBW.out.setCell (p := ⟨wr.heap.size, 5, none⟩) (Nat.le_refl _) _
        have hOw := (owns_ext HO.out.own.own hS).alloc (.cells #[.int .i64 pri, .int .i64 dl, .int .i64 fi, .int .i64 gap, .int .i64 jit, .slice a2 tn c2] 52)
        have hkeep : ∀ {t : TaV} {B : Nat}, PcO B (w2.setCell ⟨wr.heap.size, 5, none⟩ (.slice a2 tn c2)) t → PcO B w3 t := fun h => owns_kept (h.alloc _) hOw (by decide) HB3.out
        refine ⟨k + 1, g' ++ [⟨pri, dl, fi, gap, jit, a2, tn, c2, pcs⟩], a3, c3, by omega, rfl, by go_num, ⟨⟨by rw [List.flatMap_append]; exact HO3.out, fun t ht => ?_⟩, PcAp.app HO.out.ap (fun u hu x hx => ((HO.out.own.ok u hu).low x hx).2) (fun x hx => (PcO.low (t := ⟨pri, dl, fi, gap, jit, a2, tn, c2, pcs⟩) HO2.out x hx).1)⟩, by rw [HTK.out, List.map_append, List.map_append, HG'.out]; rfl, ?_⟩
        · rcases List.mem_append.1 ht with ht | ht
          · exact hkeep (owns_ext (HO.out.own.ok t ht) hS)
          · simp at ht
            subst ht
            exact hkeep (t := ⟨pri, dl, fi, gap, jit, a2, tn, c2, pcs⟩) (owns_mono (owns_far HO2.out (Nat.lt_succ_self _) _) (by omega))
        · exact ((Below.then HB.out hS).alloc (by simp; omega) _).grown HB3.out (by simp; omega) (fun j hj => (HO.out.own.own.lt j hj).1)
      case measure => simp [intOf]; omega
    · have hkn : k = n := by omega
      subst hkn
      have hgg : g'.map TaV.ta = g.map TaV.ta := by rw [HG'.out, List.take_of_length_le (by rw [HL.out]; exact Nat.le_refl _)]
      have HGG := Lib.hid hgg
      clear hgg
      go_wp2
      go_ret
      exact ⟨_, _, _, rfl, HO.out, HGG.out, HB.out⟩
end Go.Proofs.Ytabbmnnohnfbeaa
