/- The contract of Copy of the reference. The conditions: the graph reads as named. -/
import Derived.Test.YtmdjbnicjohkjaaLkCopy
namespace Go.Proofs.Ytmdjbnicjohkjaa
open Go.RowKit
set_option linter.unusedSimpArgs false
set_option linter.unusedVariables false
theorem wpList_pushN {P : Program} {ops : Array Oper} {rest : List Oper} {o : Oper} {a : Act} {Q : Exit → Act → World → Prop} {w : World} {T : TypeId} {arr : Array Value} {N : Nat} (hN : N = w.heap.size) (hgd : o.guard = none) (s x : Operand) (t : TypeId)
    (ho : o.op = .call { callee := .builtin .append, args := #[s, x], argTypes := #[t, t] }) {e k bytes B n c : Nat} (E : Elt P t e k bytes) {v : Value} {xs : List Value}
    (hs : a.eval s = v) (hown : w.ownsRow B e k v n xs) (hx : a.eval x = .slice (some ⟨N, 0, none⟩) 1 c) (harr : arr.size = k) (h1 : ∀ u ∈ arr.toList, u.oneCell' = true)
    (hn : n ≤ 100000000) (hby : bytes ≤ 1000) (hB : B ≤ w.heap.size)
    (h : ∀ a' c' w', w'.ownsRow B e k (.slice a' (n + 1) c') (n + 1) (xs ++ arr.toList) → (w.alloc (.cells arr T)).grownBy w' v.ownBlock → wpList P ops Q rest (a.put o.dst (.slice a' (n + 1) c')) w') :
    wpList P ops Q (o :: rest) a (w.alloc (.cells arr T)) := by
  subst hN
  obtain ⟨i, z, h2, h3, h4, h5, h6⟩ := E.hi
  refine wpList_append_own (w.alloc (.cells arr T)) hgd s x t ho B e i z k bytes E.ht h2 h3 h4 h5 h6 E.hk v n xs hs (hown.alloc _) ⟨w.heap.size, 0, none⟩ 1 c arr.toList hx (by simpa using harr) ?_ h1 (by unfold maxLen; omega) ?_ (by simp; omega) ?_
  · intro j u hj
    have : (w.alloc (.cells arr T)).cell? ⟨w.heap.size, j, none⟩ = arr[j]? := World.cell?_alloc_new w arr T j
    have e : (⟨w.heap.size, 0, none⟩ : Addr).add j = ⟨w.heap.size, j, none⟩ := by unfold Addr.add; split <;> simp_all
    rw [e, this]; simpa using hj
  · have : (n + 1) * bytes ≤ 100000001 * 1000 := Nat.mul_le_mul (by omega) hby
    omega
  · intro v' w' hown' hg _
    obtain ⟨hl, h7⟩ := hown'
    rcases h7 with ⟨_, h8⟩ | ⟨g, cap, cur, rfl, h9⟩
    · omega
    · exact h _ _ _ ⟨hl, .inr ⟨g, cap, cur, rfl, h9⟩⟩ hg
set_option maxRecDepth 10000 in
set_option maxHeartbeats 2000000 in
theorem rCopy_any (a : Option Addr) (n c : Nat) (g : List ThV) (hn : n ≤ 1000) (hH : ∀ t ∈ g, t.n ≤ 1000) (w : World) (hG : RdG w a n g) :
    Calls Try.prog 66 #[.slice a n c] w (OutG 45 w.heap.size w (g.map ThV.th)) := by
  have HR := Lib.hid hG
  have HG0 := Lib.hid hG.length
  clear hG
  have HH := Lib.hid hH
  clear hH
  have e1 := E1
  have e2 := ETr
  go_enter Try.func66, Try.ntmps66
  go_wp2
  go_loopw [3, 4] (fun v i wr => ∃ (k : Nat) (g' : List ThV) (a' : Option Addr) (c' : Nat), k ≤ n ∧ v = .slice a' k c' ∧ i = .int .i64 k ∧ OwnG 45 w.heap.size wr a' k c' g' ∧ g'.map ThV.th = (g.take k).map ThV.th ∧ Below w.heap.size w wr) (fun _ i _ => n - (intOf i).toNat)
  case atStart => exact ⟨0, [], none, 0, Nat.zero_le _, rfl, rfl, ⟨World.ownsRow_nil _ _ _ _, by simp⟩, rfl, by (repeat' (first | (with_reducible exact Below.refl _ _) | (with_reducible assumption) | (with_reducible refine Below.alloc ?_ ?_ _) | (with_reducible refine Below.drew ?_) | (with_reducible refine Below.draws ?_ _) | (with_reducible refine Below.setCell ?_ ?_ _) | (refine Below.then ?_ (by with_reducible assumption)) | go_size))⟩
  case round =>
    obtain ⟨k, g', a', c', hk, rfl, rfl, hO, hg', hB⟩ := hrel
    have HO := Lib.hid hO; have HB := Lib.hid hB; have HG' := Lib.hid hg'
    have hz := hB.size
    clear hO hB hg'
    by_cases hlt : k < n
    · obtain ⟨⟨pri, ta, tn, tc, waits, holds⟩, b, off, rfl, hb, h1, h2, h3, ht, hgi, HD⟩ := (HR.out.ext HB.out).at_ k hlt
      simp only [] at h1 h2 h3
      have htn : tn ≤ 1000 := HH.out _ (List.mem_of_getElem? hgi)
      have HT1 : Hid (Rd wr ta tn 1 (holds.map enc1)) := Lib.hid ht.1
      have HT2 : Hid (tn = 0 → (ta = none ∧ tc = 0) ∨ ∃ ad, ta = some ad) := Lib.hid ht.2
      have HTK := Lib.hid (take_of_drop HD.out)
      clear ht hgi HD
      have HOW : Hid (((wr.alloc (.cells #[.int .i64 pri, .slice ta tn tc, .int .i64 waits] 45)).alloc (.cells #[] 3)).ownsRow (wr.heap.size + 1) 3 1 (.slice (some ⟨wr.heap.size + 1, 0, none⟩) 0 0) 0 []) := Lib.hid (by
        have := World.ownsRow_lit (e := 3) (size := 1) (base := wr.heap.size + 1) (wr.alloc (.cells #[.int .i64 pri, .slice ta tn tc, .int .i64 waits] 45)) #[] 0 (by simp) (by decide) rfl
        rw [World.size_alloc] at this; exact this)
      go_wp2_with (first
        | (at_builtin; refine wpList_pushAll (B := wr.heap.size + 1) (n := 0) (xs := []) rfl _ _ _ rfl e1 enc1_len enc1_one rfl HOW.out rfl (HT1.out.ext (by (repeat' (first | (with_reducible exact Below.refl _ _) | (with_reducible assumption) | (with_reducible refine Below.alloc ?_ ?_ _) | (with_reducible refine Below.drew ?_) | (with_reducible refine Below.draws ?_ _) | (with_reducible refine Below.setCell ?_ ?_ _) | (refine Below.then ?_ (by with_reducible assumption)) | go_size)))) HT2.out (by omega) (by decide) (by simp) ?_
           intro v2 w2 hown2 hv2 hb2
           rw [Nat.zero_add, List.nil_append] at hown2
           obtain ⟨a2, c2, rfl⟩ := hv2
           rw [Nat.zero_add] at hown2 ⊢
           have HB2 := Lib.hid hb2
           have HO2 := Lib.hid hown2
           have hz2 := hb2.size
           simp only [World.size_alloc] at hz2
           have hc0 := (hb2.cell (p := ⟨wr.heap.size, 0, none⟩) (by simp)).trans (show _ = some (.int .i64 pri) by simp [go_sem])
           have hc1 := (hb2.cell (p := ⟨wr.heap.size, 1, none⟩) (by simp)).trans (show _ = some (.slice ta tn tc) by simp [go_sem])
           have hc2 := (hb2.cell (p := ⟨wr.heap.size, 2, none⟩) (by simp)).trans (show _ = some (.int .i64 waits) by simp [go_sem])
           have hf1 := (hb2.frozen (p := ⟨wr.heap.size, 1, none⟩) (by simp)).trans (show _ = false by simp [go_sem])
           have HBW : Hid (Below wr.heap.size wr w2) := Lib.hid ((((Below.refl wr.heap.size wr).alloc (Nat.le_refl _) _).alloc (by simp) _).trans (hb2.mono (by omega)))
           clear hown2 hb2)
        | (at_builtin; refine wpList_pushN (N := w2.heap.size) (v := .slice a' k c') (by simp) rfl _ _ _ rfl e2 rfl (owns_ext HO.out.own (HBW.out.setCell (p := ⟨wr.heap.size, 1, none⟩) (Nat.le_refl _) _)) rfl rfl (by intro u hu; simp at hu; rcases hu with rfl | rfl | rfl <;> rfl) (by omega) (by decide) (by simp; omega) ?_; intro a3 c3 w3 hown3 hb3; have HO3 := Lib.hid hown3; have HB3 := Lib.hid hb3; clear hown3 hb3))
      go_roundw
      case rel =>
        have hS : Below wr.heap.size wr (w2.setCell ⟨wr.heap.size, 1, none⟩ (.slice a2 tn c2)) := HBW.out.setCell (p := ⟨wr.heap.size, 1, none⟩) (Nat.le_refl _) _
        have hOw := (owns_ext HO.out.own hS).alloc (.cells #[.int .i64 pri, .slice a2 tn c2, .int .i64 waits] 45)
        have hkeep : ∀ {t : ThV} {B : Nat}, ThO B (w2.setCell ⟨wr.heap.size, 1, none⟩ (.slice a2 tn c2)) t → ThO B w3 t := fun h => owns_kept (h.alloc _) hOw (by decide) HB3.out
        refine ⟨k + 1, g' ++ [⟨pri, a2, tn, c2, waits, holds⟩], a3, c3, by omega, rfl, by go_num, ⟨by rw [List.flatMap_append]; exact HO3.out, fun t ht => ?_⟩, by rw [HTK.out, List.map_append, List.map_append, HG'.out]; rfl, ?_⟩
        · rcases List.mem_append.1 ht with ht | ht
          · exact hkeep (owns_ext (HO.out.ok t ht) hS)
          · simp at ht
            subst ht
            exact hkeep (t := ⟨pri, a2, tn, c2, waits, holds⟩) (owns_mono (owns_far HO2.out (Nat.lt_succ_self _) _) (by omega))
        · exact ((Below.then HB.out hS).alloc (by simp; omega) _).grown HB3.out (by simp; omega) (fun j hj => (HO.out.own.lt j hj).1)
      case measure => simp [intOf]; omega
    · have hkn : k = n := by omega
      subst hkn
      have hgg : g'.map ThV.th = g.map ThV.th := by rw [HG'.out, List.take_of_length_le (by rw [HG0.out]; exact Nat.le_refl _)]
      have HGG := Lib.hid hgg
      clear hgg
      go_wp2
      go_ret
      exact ⟨_, _, _, g', rfl, HO.out, HGG.out, HB.out⟩
end Go.Proofs.Ytmdjbnicjohkjaa
