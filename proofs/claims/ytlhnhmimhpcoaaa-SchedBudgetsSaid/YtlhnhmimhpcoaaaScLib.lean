/- slices.Clone at ints; the rest of a row of ints. The conditions: the row reads as named. -/
import Derived.Test.YtlhnhmimhpcoaaaIrow
import Derived.Test.YtlhnhmimhpcoaaaPred
import Derived.Test.YtlhnhmimhpcoaaaRows5
import Derived.Lib.SliceRun
import Derived.Laws.OwnMore
namespace Go.Proofs.Ytlhnhmimhpcoaaa
open Go.RowKit
set_option linter.unusedSimpArgs false
set_option linter.unusedVariables false
theorem cloneI_any (a : Option Addr) (n c : Nat) (xs : List Int) (w : World) (hn : n ≤ 1000) (hR : Rd w a n 1 (xs.map enc1)) (h0 : n = 0 → (a = none ∧ c = 0) ∨ ∃ ad, a = some ad) :
    Calls Try.prog 126 #[.slice a n c] w (OutN w.heap.size n 3 1 w (xs.flatMap enc1)) := by
  have hl := hR.length
  rcases a with _ | ad
  · obtain rfl : n = 0 := by
      rcases Nat.eq_zero_or_pos n with q | q
      · exact q
      · obtain ⟨b, off, q2, _⟩ := hR.at_ q; simp at q2
    rcases h0 rfl with ⟨_, rfl⟩ | ⟨ad, q⟩
    · obtain rfl : xs = [] := List.length_eq_zero_iff.1 hl
      have heq := Lib.run_eql_slice_nil (P := Try.prog) w 26 3 none 0 0 0 0 Try.underlying26
      go_enter Try.func126, Try.ntmps126
      go_wp2
      go_ret
      exact ⟨_, _, rfl, World.ownsRow_nil _ _ _ _, Below.refl _ _⟩
    · simp at q
  · have HR := Lib.hid hR
    have e1 := E1
    have HOW : Hid ((w.alloc (.cells #[] 3)).ownsRow w.heap.size 3 1 (.slice (some ⟨w.heap.size, 0, none⟩) 0 0) 0 []) := Lib.hid (World.ownsRow_lit w #[] 0 (Nat.le_refl _) (by decide) rfl)
    have heq := Lib.run_eql_slice_nil (P := Try.prog) w 26 3 (some ad) n c 0 0 Try.underlying26
    clear hR hl h0
    go_enter Try.func126, Try.ntmps126
    go_wp2_with (at_builtin; refine wpList_pushAll (B := w.heap.size) (n := 0) (xs := []) rfl _ _ _ rfl e1 enc1_len enc1_one rfl HOW.out rfl (HR.out.ext (by (repeat' (first | (with_reducible exact Below.refl _ _) | (with_reducible assumption) | (with_reducible refine Below.alloc ?_ ?_ _) | (with_reducible refine Below.drew ?_) | (with_reducible refine Below.draws ?_ _) | (with_reducible refine Below.setCell ?_ ?_ _) | (refine Below.then ?_ (by with_reducible assumption)) | go_size)))) (fun _ => .inr ⟨_, rfl⟩) (by omega) (by decide) (by simp) ?_; intro v2 w2 hown2 hv2 hb2)
    rw [Nat.zero_add, List.nil_append] at hown2
    obtain ⟨a', c', rfl⟩ := hv2
    rw [Nat.zero_add] at hown2 ⊢
    go_ret
    exact ⟨_, _, rfl, hown2, Below.trans (by (repeat' (first | (with_reducible exact Below.refl _ _) | (with_reducible assumption) | (with_reducible refine Below.alloc ?_ ?_ _) | (with_reducible refine Below.drew ?_) | (with_reducible refine Below.draws ?_ _) | (with_reducible refine Below.setCell ?_ ?_ _) | (refine Below.then ?_ (by with_reducible assumption)) | go_size))) hb2⟩
theorem Rd.dropK {w : World} {b off n k t : Nat} {α : Type} {f : α → List Value} {xs : List α} (h : Rd w (some ⟨b, off, none⟩) n k (xs.map f)) (ht : t ≤ n) : Rd w (some ⟨b, off + t * k, none⟩) (n - t) k ((xs.drop t).map f) := by
  have hl := h.length
  refine ⟨by simp; omega, Nat.le_trans (Nat.sub_le _ _) h.small, fun h0 => ?_⟩
  obtain ⟨b', off', e, hb, hc⟩ := h.at_ (by omega)
  simp at e
  obtain ⟨rfl, rfl⟩ := e
  refine ⟨b, off + t * k, rfl, hb, fun i hi j hj => ?_⟩
  have hi' : i < xs.length - t := by simpa using hi
  have := hc (t + i) (by simp; omega) j hj
  rw [show off + t * k + i * k + j = off + (t + i) * k + j by rw [Nat.add_mul]; omega, this]
  simp
/-- l[1:] -/
theorem slice_one {w : World} {b off n c : Nat} {xs : List Int} (h : Rd w (some ⟨b, off, none⟩) n 1 (xs.map enc1)) (hq : 1 ≤ n) (hnc : n ≤ c) :
    ∃ o m k, (∀ w', (Instr.slice 26 (.slice (some ⟨b, off, none⟩) n c) (some (.int .i64 1)) none none).run Try.prog w' = .ok (.slice (some ⟨b, o, none⟩) m k) w') ∧ Rd w (some ⟨b, o, none⟩) m 1 (xs.tail.map enc1) ∧ m + 1 = n := by
  have hl := h.length
  rw [← List.drop_one]
  by_cases hc : c = 1
  · refine ⟨off, n - 1, c - 1, fun w' => ?_, ?_, by omega⟩
    · rw [run_slice_l (P := Try.prog) w' 26 (some ⟨b, off, none⟩) n c (by kernel_rfl) .i64 1 (by omega) (by omega)]
      rw [show (Go.sizeOf (Try.prog.elem 26)).run Try.prog w' = .ok 1 w' by kernel_rfl]
      simp [Result.andThen, sliced, hc]
    · have : xs.drop 1 = [] := List.drop_of_length_le (by omega)
      rw [this, show n - 1 = 0 by omega]
      exact Rd.nil _ _ _
  · refine ⟨off + 1 * 1, n - 1, c - 1, fun w' => ?_, h.dropK hq, by omega⟩
    rw [run_slice_l (P := Try.prog) w' 26 (some ⟨b, off, none⟩) n c (by kernel_rfl) .i64 1 (by omega) (by omega)]
    rw [show (Go.sizeOf (Try.prog.elem 26)).run Try.prog w' = .ok 1 w' by kernel_rfl]
    simp [Result.andThen, sliced, Addr.add, hc]
theorem owns_cap {w : World} {B e k n c : Nat} {a : Option Addr} {xs : List Value} (h : w.ownsRow B e k (.slice a n c) n xs) : n ≤ c := by
  rcases h.2 with ⟨hv, h8⟩ | ⟨g, cap, cur, hv, _, _, h5, _⟩
  · omega
  · simp at hv; omega
/-- one row is laid anew in a new block -/
theorem IRows.fresh {B N : Nat} {w w' : World} {h X} (hR : IRows B w N h X) {i : Nat} (hi : i < N) (hb : Below w.heap.size w w') (hB : B ≤ w.heap.size) {d : Hdr} {q : List Int} (hown : w'.ownsRow w.heap.size 3 1 (sl d) d.n (q.flatMap enc1)) :
    IRows B w' N (updF h i d) (updF X i q) := by
  have hd : ∀ x, (sl d).ownBlock = some x → w.heap.size ≤ x := fun x hx => (hown.lt x hx).1
  have hlt : ∀ k, k < N → ∀ x, (sl (h k)).ownBlock = some x → x < w.heap.size := fun k hk x hx => ((hR.own k hk).lt x hx).2
  refine ⟨fun k hk => ?_, fun k j hk hj hkj => ?_⟩
  · by_cases e : k = i
    · subst e; rw [updF_same, updF_same]; exact owns_mono hown hB
    · rw [updF_other _ _ e, updF_other _ _ e]; exact owns_ext (hR.own k hk) hb
  · by_cases e : k = i
    · subst e
      rw [updF_same, updF_other _ _ (Ne.symm hkj)]
      cases ho : (sl d).ownBlock with
      | none => exact .inl rfl
      | some x =>
        right
        intro e2
        have h1 := hd x ho
        have h2 := hlt j hj x e2.symm
        omega
    · by_cases e2 : j = i
      · subst e2
        rw [updF_same, updF_other _ _ e]
        cases ho : (sl (h k)).ownBlock with
        | none => exact .inl rfl
        | some x =>
          right
          intro e3
          have h1 := hd x e3.symm
          have h2 := hlt k hk x ho
          omega
      · rw [updF_other _ _ e, updF_other _ _ e2]; exact hR.apart k j hk hj hkj
end Go.Proofs.Ytlhnhmimhpcoaaa
