/- The contract of copied of the law's package: tasks with memory of their own. The conditions: the tasks read as named and are few. -/
import Derived.Test.YtabbmnnohnfbeaaTkMany
import Derived.Test.YtabbmnnohnfbeaaRsSane
namespace Go.Proofs.Ytabbmnnohnfbeaa
open Go.RowKit
set_option linter.unusedSimpArgs false
set_option linter.unusedVariables false
theorem EPc : Elt Try.prog 50 62 2 16 := Elt.mk' (z := .agg #[.int .i64 0, .int .i64 0]) Try.underlying50 (by kernel_rfl) rfl (by decide)
theorem ETk : Elt Try.prog 22 52 6 64 := Elt.mk' (z := .agg #[.int .i64 0, .int .i64 0, .int .i64 0, .int .i64 0, .int .i64 0, .slice none 0 0]) Try.underlying22 (by kernel_rfl) rfl (by decide)
theorem wpList_pushM {P : Program} {ops : Array Oper} {rest : List Oper} {o : Oper} {a : Act} {Q : Exit → Act → World → Prop} {w : World} {T : TypeId} {arr : Array Value} {N : Nat} (hN : N = w.heap.size) (hgd : o.guard = none) (s x : Operand) (t : TypeId)
    (ho : o.op = .call { callee := .builtin .append, args := #[s, x], argTypes := #[t, t] }) {e k bytes B n c : Nat} (E : Elt P t e k bytes) {v : Value} {xs : List Value}
    (hs : a.eval s = v) (hown : w.ownsRow B e k v n xs) (hx : a.eval x = .slice (some ⟨N, 0, none⟩) 1 c) (harr : arr.size = k) (h1 : ∀ u ∈ arr.toList, u.oneCell' = true)
    (hn : n ≤ 100000000) (hby : bytes ≤ 1000) (hB : B ≤ w.heap.size)
    (h : ∀ a' c' w', w'.ownsRow B e k (.slice a' (n + 1) c') (n + 1) (xs ++ arr.toList) → (w.alloc (.cells arr T)).grownBy w' v.ownBlock → wpList P ops Q rest (a.put o.dst (.slice a' (n + 1) c')) w') :
    wpList P ops Q (o :: rest) a (w.alloc (.cells arr T)) := by
  subst hN
  obtain ⟨i, z, h2, h3, h4, h5, h6⟩ := E.hi
  refine wpList_append_own (w.alloc (.cells arr T)) hgd s x t ho B e i z k bytes E.ht h2 h3 h4 h5 h6 E.hk v n xs hs (hown.alloc _) ⟨w.heap.size, 0, none⟩ 1 c arr.toList hx (by simpa using harr) ?_ h1 (by unfold maxLen; omega) ?_ (by simp; omega) ?_
  · intro j u hj
    have : (w.alloc (.cells arr T)).cell? ⟨w.heap.size, j, none⟩ = arr[j]? := World.cell?_alloc_new w arr T j
    have e : (⟨w.heap.size, 0, none⟩ : Addr).add j = ⟨w.heap.size, j, none⟩ := by unfold Addr.add; split <;> simp_all
    rw [e, this]; simpa using hj
  · have : (n + 1) * bytes ≤ 100000001 * 1000 := Nat.mul_le_mul (by omega) hby
    omega
  · intro v' w' hown' hg _
    obtain ⟨hl, h7⟩ := hown'
    rcases h7 with ⟨_, h8⟩ | ⟨g, cap, cur, rfl, h9⟩
    · omega
    · exact h _ _ _ ⟨hl, .inr ⟨g, cap, cur, rfl, h9⟩⟩ hg
def PcO (B : Nat) (w : World) (t : TaV) : Prop := w.ownsRow B 62 2 (.slice t.a t.n t.c) t.n (t.pcs.flatMap enc2)
/-- tasks that the call made -/
structure OwnT (B : Nat) (w : World) (a : Option Addr) (n c : Nat) (g : List TaV) : Prop where
  own : w.ownsRow B 52 6 (.slice a n c) n (g.flatMap encTa)
  ok : ∀ t ∈ g, PcO B w t
theorem owns_nilT {w : World} {B e k n c : Nat} {a : Option Addr} {xs : List Value} (h : w.ownsRow B e k (.slice a n c) n xs) : NilOk a n c := by
  intro _
  rcases h.2 with ⟨hv, _⟩ | ⟨g, cap, cur, hv, _⟩
  · simp at hv; exact .inl ⟨hv.1, hv.2.2⟩
  · simp at hv; exact .inr ⟨_, hv.1⟩
theorem OwnT.rd {B : Nat} {w : World} {a n c g} (h : OwnT B w a n c g) : RdT w a n g :=
  ⟨Rd.of_owns encTa_len (by decide) h.own, fun t ht => ⟨ownsP_rd (h.ok t ht), owns_nilT (h.ok t ht)⟩⟩
def OutT (w : World) (n : Nat) (L : List Ta) (e : Ending) (w' : World) : Prop :=
  ∃ a c, e = .returned (.slice a n c) ∧ RdL w' a n L ∧ Below w.heap.size w w'
set_option maxRecDepth 10000 in
set_option maxHeartbeats 4000000 in
theorem copied_T (a : Option Addr) (n c : Nat) (L : List Ta) (hn : n ≤ 1000) (hP : ∀ t ∈ L, t.pcs.length ≤ 1000) (w : World) (hL : RdL w a n L) (hN : NilOk a n c) :
    Calls Try.prog 29 #[.slice a n c] w (OutT w n L) := by
  obtain ⟨g, hG, rfl⟩ := hL
  have HR := Lib.hid hG
  have HL := Lib.hid hG.length
  have HH : Hid (∀ t ∈ g, t.n ≤ 1000) := Lib.hid (fun t ht => by
    have h1 := hP t.ta (List.mem_map_of_mem ht)
    have h2 := (hG.ok t ht).1.length
    have h3 : t.ta.pcs.length = t.pcs.length := rfl
    omega)
  clear hG hP
  have e1 := EPc
  have e2 := ETk
  go_enter Try.func29, Try.ntmps29
  go_wp2
  go_loopw [3, 4] (fun v i wr => ∃ (k : Nat) (g' : List TaV) (a' : Option Addr) (c' : Nat), k ≤ n ∧ v = .slice a' k c' ∧ i = .int .i64 k ∧ OwnT w.heap.size wr a' k c' g' ∧ g'.map TaV.ta = (g.take k).map TaV.ta ∧ Below w.heap.size w wr) (fun _ i _ => n - (intOf i).toNat)
  case atStart => exact ⟨0, [], none, 0, Nat.zero_le _, rfl, rfl, ⟨World.ownsRow_nil _ _ _ _, by simp⟩, rfl, by (repeat' (first | (with_reducible exact Below.refl _ _) | (with_reducible assumption) | (with_reducible refine Below.alloc ?_ ?_ _) | (with_reducible refine Below.drew ?_) | (with_reducible refine Below.draws ?_ _) | (with_reducible refine Below.setCell ?_ ?_ _) | (refine Below.then ?_ (by with_reducible assumption)) | go_size))⟩
  case round =>
    obtain ⟨k, g', a', c', hk, rfl, rfl, hO, hg', hB⟩ := hrel
    have HO := Lib.hid hO; have HB := Lib.hid hB; have HG' := Lib.hid hg'
    have hz := hB.size
    clear hO hB hg'
    by_cases hlt : k < n
    · have hkl : k < g.length := by rw [HL.out]; exact hlt
      have hgd : g.drop k = g[k] :: g.drop (k + 1) := List.drop_eq_getElem_cons hkl
      have hgm : g[k] ∈ g := List.getElem_mem hkl
      obtain ⟨t, ht⟩ : ∃ t, g[k] = t := ⟨_, rfl⟩
      rw [ht] at hgd hgm
      obtain ⟨b, off, rfl, hb0, hc⟩ := HR.out.rd.at_ (by omega)
      have hgk : (g.map encTa)[k]'(by simpa using hkl) = encTa t := by rw [List.getElem_map, ht]
      have x0 := hc k (by simpa using hkl) 0 (by omega)
      have x1 := hc k (by simpa using hkl) 1 (by omega)
      have x2 := hc k (by simpa using hkl) 2 (by omega)
      have x3 := hc k (by simpa using hkl) 3 (by omega)
      have x4 := hc k (by simpa using hkl) 4 (by omega)
      have x5 := hc k (by simpa using hkl) 5 (by omega)
      rw [hgk] at x0 x1 x2 x3 x4 x5
      clear hgk hc
      have hok := (HR.out.ok t hgm).ext HB.out
      have htn : t.n ≤ 1000 := HH.out _ hgm
      obtain ⟨pri, dl, fi, gap, jit, ta, tn, tc, pcs⟩ := t
      simp [encTa] at x0 x1 x2 x3 x4 x5
      simp only [] at htn
      have h0 := (HB.out.cell (p := ⟨b, off + k * 6, none⟩) hb0).trans x0
      have h1 := (HB.out.cell (p := ⟨b, off + k * 6 + 1, none⟩) hb0).trans x1
      have h2 := (HB.out.cell (p := ⟨b, off + k * 6 + 2, none⟩) hb0).trans x2
      have h3 := (HB.out.cell (p := ⟨b, off + k * 6 + 3, none⟩) hb0).trans x3
      have h4 := (HB.out.cell (p := ⟨b, off + k * 6 + 4, none⟩) hb0).trans x4
      have h5 := (HB.out.cell (p := ⟨b, off + k * 6 + 5, none⟩) hb0).trans x5
      have hb : b < wr.heap.size := by omega
      have HT1 : Hid (Rd wr ta tn 2 (pcs.map enc2)) := Lib.hid hok.1
      have HT2 : Hid (NilOk ta tn tc) := Lib.hid hok.2
      have HTK := Lib.hid (take_of_drop hgd)
      clear ht hok hgd hgm x0 x1 x2 x3 x4 x5
      have HOW : Hid (((wr.alloc (.cells #[.int .i64 pri, .int .i64 dl, .int .i64 fi, .int .i64 gap, .int .i64 jit, .slice ta tn tc] 52)).alloc (.cells #[] 62)).ownsRow (wr.heap.size + 1) 62 2 (.slice (some ⟨wr.heap.size + 1, 0, none⟩) 0 0) 0 []) := Lib.hid (by
        have := World.ownsRow_lit (e := 62) (size := 2) (base := wr.heap.size + 1) (wr.alloc (.cells #[.int .i64 pri, .int .i64 dl, .int .i64 fi, .int .i64 gap, .int .i64 jit, .slice ta tn tc] 52)) #[] 0 (by simp) (by decide) rfl
        rw [World.size_alloc] at this; exact this)
      go_wp2_with (first
        | (at_builtin; refine wpList_pushAll (B := wr.heap.size + 1) (n := 0) (xs := []) rfl _ _ _ rfl e1 enc2_len enc2_one rfl HOW.out rfl (HT1.out.ext (by (repeat' (first | (with_reducible exact Below.refl _ _) | (with_reducible assumption) | (with_reducible refine Below.alloc ?_ ?_ _) | (with_reducible refine Below.drew ?_) | (with_reducible refine Below.draws ?_ _) | (with_reducible refine Below.setCell ?_ ?_ _) | (refine Below.then ?_ (by with_reducible assumption)) | go_size)))) HT2.out (by omega) (by decide) (by simp) ?_
           intro v2 w2 hown2 hv2 hb2
           rw [Nat.zero_add, List.nil_append] at hown2
           obtain ⟨a2, c2, rfl⟩ := hv2
           rw [Nat.zero_add] at hown2 ⊢
           have HB2 := Lib.hid hb2
           have HO2 := Lib.hid hown2
           have hz2 := hb2.size
           simp only [World.size_alloc] at hz2
           have hc0 := (hb2.cell (p := ⟨wr.heap.size, 0, none⟩) (by simp)).trans (show _ = some (.int .i64 pri) by simp [go_sem])
           have hc1 := (hb2.cell (p := ⟨wr.heap.size, 1, none⟩) (by simp)).trans (show _ = some (.int .i64 dl) by simp [go_sem])
           have hc2 := (hb2.cell (p := ⟨wr.heap.size, 2, none⟩) (by simp)).trans (show _ = some (.int .i64 fi) by simp [go_sem])
           have hc3 := (hb2.cell (p := ⟨wr.heap.size, 3, none⟩) (by simp)).trans (show _ = some (.int .i64 gap) by simp [go_sem])
           have hc4 := (hb2.cell (p := ⟨wr.heap.size, 4, none⟩) (by simp)).trans (show _ = some (.int .i64 jit) by simp [go_sem])
           have hc5 := (hb2.cell (p := ⟨wr.heap.size, 5, none⟩) (by simp)).trans (show _ = some (.slice ta tn tc) by simp [go_sem])
           have hf5 := (hb2.frozen (p := ⟨wr.heap.size, 5, none⟩) (by simp)).trans (show _ = false by simp [go_sem])
           have HBW : Hid (Below wr.heap.size wr w2) := Lib.hid ((((Below.refl wr.heap.size wr).alloc (Nat.le_refl _) _).alloc (by simp) _).trans (hb2.mono (by omega)))
           clear hown2 hb2)
        | (at_builtin; refine wpList_pushM (N := w2.heap.size) (v := .slice a' k c') (by simp) rfl _ _ _ rfl e2 rfl (owns_ext HO.out.own (HBW.out.setCell (p := ⟨wr.heap.size, 5, none⟩) (Nat.le_refl _) _)) rfl rfl (by intro u hu; simp at hu; rcases hu with rfl | rfl | rfl | rfl | rfl | rfl <;> rfl) (by omega) (by decide) (by simp; omega) ?_; intro a3 c3 w3 hown3 hb3; have HO3 := Lib.hid hown3; have HB3 := Lib.hid hb3; clear hown3 hb3))
      go_roundw
      case rel =>
        have hS : Below wr.heap.size wr (w2.setCell ⟨wr.heap.size, 5, none⟩ (.slice a2 tn c2)) := HBW.out.setCell (p := ⟨wr.heap.size, 5, none⟩) (Nat.le_refl _) _
        have hOw := (owns_ext HO.out.own hS).alloc (.cells #[.int .i64 pri, .int .i64 dl, .int .i64 fi, .int .i64 gap, .int .i64 jit, .slice a2 tn c2] 52)
        have hkeep : ∀ {t : TaV} {B : Nat}, PcO B (w2.setCell ⟨wr.heap.size, 5, none⟩ (.slice a2 tn c2)) t → PcO B w3 t := fun h => owns_kept (h.alloc _) hOw (by decide) HB3.out
        refine ⟨k + 1, g' ++ [⟨pri, dl, fi, gap, jit, a2, tn, c2, pcs⟩], a3, c3, by omega, rfl, by go_num, ⟨by rw [List.flatMap_append]; exact HO3.out, fun t ht => ?_⟩, by rw [HTK.out, List.map_append, List.map_append, HG'.out]; rfl, ?_⟩
        · rcases List.mem_append.1 ht with ht | ht
          · exact hkeep (owns_ext (HO.out.ok t ht) hS)
          · simp at ht
            subst ht
            exact hkeep (t := ⟨pri, dl, fi, gap, jit, a2, tn, c2, pcs⟩) (owns_mono (owns_far HO2.out (Nat.lt_succ_self _) _) (by omega))
        · exact ((Below.then HB.out hS).alloc (by simp; omega) _).grown HB3.out (by simp; omega) (fun j hj => (HO.out.own.lt j hj).1)
      case measure => simp [intOf]; omega
    · have hkn : k = n := by omega
      subst hkn
      have hgg : g'.map TaV.ta = g.map TaV.ta := by rw [HG'.out, List.take_of_length_le (by rw [HL.out]; exact Nat.le_refl _)]
      have HGG := Lib.hid hgg
      clear hgg
      go_wp2
      go_ret
      exact ⟨_, _, rfl, ⟨g', HO.out.rd, HGG.out⟩, HB.out⟩
end Go.Proofs.Ytabbmnnohnfbeaa
