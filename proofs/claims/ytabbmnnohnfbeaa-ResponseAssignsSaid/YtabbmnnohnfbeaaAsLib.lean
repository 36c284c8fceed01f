/- slices.Clone and slices.DeleteFunc at ints, as Assign uses them. The conditions: the row is the caller's own and holds the number once. Printed by mkaslib.py out of the texts for chapter 21. -/
import Derived.Test.YtabbmnnohnfbeaaIrow
import Derived.Test.YtabbmnnohnfbeaaPred
import Derived.Lib.SliceRun
import Derived.Laws.OwnMore
namespace Go.Proofs.Ytabbmnnohnfbeaa
open Go.RowKit
set_option linter.unusedSimpArgs false
set_option linter.unusedVariables false
theorem cloneI_any (a : Option Addr) (n c : Nat) (xs : List Int) (w : World) (hn : n ≤ 1000) (hR : Rd w a n 1 (xs.map enc1)) (h0 : n = 0 → (a = none ∧ c = 0) ∨ ∃ ad, a = some ad) :
    Calls Try.prog 96 #[.slice a n c] w (OutN w.heap.size n 3 1 w (xs.flatMap enc1)) := by
  have hl := hR.length
  rcases a with _ | ad
  · obtain rfl : n = 0 := by
      rcases Nat.eq_zero_or_pos n with q | q
      · exact q
      · obtain ⟨b, off, q2, _⟩ := hR.at_ q; simp at q2
    rcases h0 rfl with ⟨_, rfl⟩ | ⟨ad, q⟩
    · obtain rfl : xs = [] := List.length_eq_zero_iff.1 hl
      have heq := Lib.run_eql_slice_nil (P := Try.prog) w 32 3 none 0 0 0 0 Try.underlying32
      go_enter Try.func96, Try.ntmps96
      go_wp2
      go_ret
      exact ⟨_, _, rfl, World.ownsRow_nil _ _ _ _, Below.refl _ _⟩
    · simp at q
  · have HR := Lib.hid hR
    have e1 := E1
    have HOW : Hid ((w.alloc (.cells #[] 3)).ownsRow w.heap.size 3 1 (.slice (some ⟨w.heap.size, 0, none⟩) 0 0) 0 []) := Lib.hid (World.ownsRow_lit w #[] 0 (Nat.le_refl _) (by decide) rfl)
    have heq := Lib.run_eql_slice_nil (P := Try.prog) w 32 3 (some ad) n c 0 0 Try.underlying32
    clear hR hl h0
    go_enter Try.func96, Try.ntmps96
    go_wp2_with (at_builtin; refine wpList_pushAll (B := w.heap.size) (n := 0) (xs := []) rfl _ _ _ rfl e1 enc1_len enc1_one rfl HOW.out rfl (HR.out.ext (by (repeat' (first | (with_reducible exact Below.refl _ _) | (with_reducible assumption) | (with_reducible refine Below.alloc ?_ ?_ _) | (with_reducible refine Below.drew ?_) | (with_reducible refine Below.draws ?_ _) | (with_reducible refine Below.setCell ?_ ?_ _) | (refine Below.then ?_ (by with_reducible assumption)) | go_size)))) (fun _ => .inr ⟨_, rfl⟩) (by omega) (by decide) (by simp) ?_; intro v2 w2 hown2 hv2 hb2)
    rw [Nat.zero_add, List.nil_append] at hown2
    obtain ⟨a', c', rfl⟩ := hv2
    rw [Nat.zero_add] at hown2 ⊢
    go_ret
    exact ⟨_, _, rfl, hown2, Below.trans (by (repeat' (first | (with_reducible exact Below.refl _ _) | (with_reducible assumption) | (with_reducible refine Below.alloc ?_ ?_ _) | (with_reducible refine Below.drew ?_) | (with_reducible refine Below.draws ?_ _) | (with_reducible refine Below.setCell ?_ ?_ _) | (refine Below.then ?_ (by with_reducible assumption)) | go_size))) hb2⟩
def putAt : List Value → Nat → List Value → List Value
  | xs, _, [] => xs
  | xs, o, v :: r => putAt (xs.set o v) (o + 1) r
theorem putAt_len : ∀ (vs : List Value) (o : Nat) (xs : List Value), (putAt xs o vs).length = xs.length
  | [], _, _ => rfl
  | v :: r, o, xs => by rw [putAt, putAt_len r]; simp
theorem putAt_get : ∀ (vs : List Value) (o : Nat) (xs : List Value) (j : Nat), j < xs.length → (putAt xs o vs)[j]? = if o ≤ j ∧ j < o + vs.length then vs[j - o]? else xs[j]?
  | [], o, xs, j, h => by rw [putAt, if_neg (by simp)]
  | v :: r, o, xs, j, h => by
    rw [putAt, putAt_get r (o + 1) (xs.set o v) j (by simpa using h)]
    by_cases h1 : o + 1 ≤ j ∧ j < o + 1 + r.length
    · rw [if_pos h1, if_pos (by simp; omega), show j - o = (j - (o + 1)) + 1 by omega, List.getElem?_cons_succ]
    · rw [if_neg h1]
      by_cases h2 : j = o
      · subst h2
        rw [if_pos (by simp)]
        simp [h]
      · rw [if_neg (by simp at h1 ⊢; omega), List.getElem?_set_ne (by omega)]
theorem owns_put {B e k n c g : Nat} : ∀ (vs : List Value) (o : Nat) (w : World) (xs : List Value), w.ownsRow B e k (.slice (some ⟨g, 0, none⟩) n c) n xs →
    (w.setCells g o vs).ownsRow B e k (.slice (some ⟨g, 0, none⟩) n c) n (putAt xs o vs) ∧ w.grownBy (w.setCells g o vs) (some g)
  | [], o, w, xs, h => ⟨h, World.grownBy.refl _ _⟩
  | v :: r, o, w, xs, h => by
    have h1 := h.stored o v
    have h2 := owns_put r (o + 1) _ _ h1.1
    exact ⟨h2.1, h1.2.trans h2.2⟩
theorem delc_is {v l : Int} {q : Nat} {b : Bool} (w : World) (hc : w.cell? ⟨q, 0, none⟩ = some (.int .i64 l)) (h : (v == l) = b) : Calls Try.prog 97 #[.int .i64 v, .pointer (some ⟨q, 0, none⟩)] w fun e w' => e = .returned (.bool b) ∧ w = w' := by
  subst h
  go_enter Try.func97, Try.ntmps97
  go_wp2
  go_ret
  exact ⟨ret_bool (by simp), rfl⟩
theorem idxI_any (a : Option Addr) (n c : Nat) (xs : List Int) (l : Int) (q : Nat) (w : World) (hR : Rd w a n 1 (xs.map enc1)) (hq : w.cell? ⟨q, 0, none⟩ = some (.int .i64 l)) :
    Calls Try.prog 93 #[.slice a n c, .func (.func 97) #[] #[.pointer (some ⟨q, 0, none⟩)]] w fun e w' => e = .returned (.int .i64 (idxGo (fun v => v == l) 0 xs)) ∧ w = w' := by
  have HL := Lib.hid hR.length
  have hs := hR.small
  have HR := Lib.hid hR; clear hR
  have eg : ∀ args w, (callFunc 97 args).run Try.prog w = .ok (.enter 97 args) w := fun args w => by kernel_rfl
  generalize hg : idxGo (fun v => v == l) 0 xs = R
  have HG := Lib.hid hg; clear hg
  go_enter Try.func93, Try.ntmps93
  go_wp2
  go_loopw [8] (fun i wr => ∃ k : Nat, k ≤ n ∧ i = .int .i64 k ∧ idxGo (fun v => v == l) k (xs.drop k) = R ∧ w = wr) (fun i _ => n - (intOf i).toNat)
  case atStart => exact ⟨0, Nat.zero_le _, rfl, HG.out, rfl⟩
  case round =>
    obtain ⟨k, hk, rfl, he, rfl⟩ := hrel
    have HE := Lib.hid he; clear he
    by_cases hlt : k < n
    · obtain ⟨x, b, off, rfl, hb, hc, HD⟩ := HR.out.next1 k hlt
      have HE2 : Hid ((if (x == l) = true then (k : Int) else idxGo (fun v => v == l) (k + 1) (xs.drop (k + 1))) = R) := by have := HE.out; rw [HD.out] at this; exact this
      cases hx : x == l
      · have HX := Lib.hid hx
        rw [hx] at HE2
        clear hx
        go_wp2_with (go_at_fn 97; refine (delc_is _ hq HX.out).mono ?_; rintro e w1 ⟨rfl, rfl⟩)
        go_roundw
        case rel => exact ⟨k + 1, by omega, by go_num, by simpa using HE2.out, by first | rfl | trivial⟩
        case measure => simp [intOf]; omega
      · have HX := Lib.hid hx
        rw [hx] at HE2
        clear hx
        have : R = k := by simpa using HE2.out.symm
        subst this
        go_wp2_with (go_at_fn 97; refine (delc_is _ hq HX.out).mono ?_; rintro e w1 ⟨rfl, rfl⟩)
        go_ret
        exact ⟨rfl, by first | rfl | trivial⟩
    · have : R = -1 := by rw [← HE.out, drop_end HL.out (by omega)]; rfl
      subst this
      go_wp2
      go_ret
      exact ⟨rfl, by first | rfl | trivial⟩
theorem owns_less {w : World} {B e k n c m g : Nat} {xs : List Value} (h : w.ownsRow B e k (.slice (some ⟨g, 0, none⟩) n c) n xs) (hm : m ≤ n) : w.ownsRow B e k (.slice (some ⟨g, 0, none⟩) m c) m (xs.take (m * k)) := by
  obtain ⟨h0, h1 | ⟨g', cap, cur, hv, hB, hg, hn, hc, hs, ht⟩⟩ := h
  · simp at h1
  · simp at hv
    obtain ⟨rfl, rfl⟩ := hv
    have hmk : m * k ≤ n * k := Nat.mul_le_mul_right k hm
    refine ⟨by rw [List.length_take]; omega, .inr ⟨g, c, cur, rfl, hB, hg, by omega, hc, hs, ?_⟩⟩
    rw [← ht, List.take_take, Nat.min_eq_left hmk]
def cutL (xs : List Int) (i : Nat) : List Int := xs.take i ++ xs.drop (i + 1)
def midL (xs : List Int) (i j : Nat) : List Int := (cutL xs i).take (j - 1) ++ xs.drop (j - 1)
theorem cutL_len {xs : List Int} {i : Nat} (h : i < xs.length) : (cutL xs i).length = xs.length - 1 := by simp [cutL]; omega
theorem cutL_get {xs : List Int} {i : Nat} (h : i < xs.length) (j : Nat) : (cutL xs i)[j]? = if j < i then xs[j]? else xs[j + 1]? := by
  unfold cutL
  by_cases q : j < i
  · rw [if_pos q, List.getElem?_append_left (by simp; omega), List.getElem?_take, if_pos q]
  · rw [if_neg q, List.getElem?_append_right (by simp; omega), List.getElem?_drop]
    congr 1
    simp; omega
theorem midL_start {xs : List Int} {i : Nat} (h : i < xs.length) : midL xs i (i + 1) = xs := by
  unfold midL cutL
  rw [Nat.add_sub_cancel, List.take_left' (by simp; omega), List.take_append_drop]
theorem midL_len {xs : List Int} {i j : Nat} (h : i < xs.length) (hj : j ≤ xs.length) (h1 : 1 ≤ j) : (midL xs i j).length = xs.length := by
  unfold midL; rw [List.length_append, List.length_take, cutL_len h, List.length_drop]; omega
theorem midL_at {xs : List Int} {i j : Nat} (h : i < xs.length) (hj : j < xs.length) (h1 : 1 ≤ j) : (midL xs i j)[j]? = xs[j]? := by
  unfold midL
  have e : ((cutL xs i).take (j - 1)).length = j - 1 := by rw [List.length_take, cutL_len h]; omega
  rw [List.getElem?_append_right (by omega), e, List.getElem?_drop]
  congr 1; omega
theorem midL_step {xs : List Int} {i j : Nat} {x : Int} (h : i < j) (hj : xs[j]? = some x) : (midL xs i j).set (j - 1) x = midL xs i (j + 1) := by
  have hjl := (List.getElem?_eq_some_iff.1 hj).1
  have hil : i < xs.length := by omega
  have e : ((cutL xs i).take (j - 1)).length = j - 1 := by rw [List.length_take, cutL_len hil]; omega
  have hc : (cutL xs i)[j - 1]? = some x := by rw [cutL_get hil, if_neg (by omega), show j - 1 + 1 = j by omega]; exact hj
  unfold midL
  rw [List.set_append_right _ _ (by omega), e, Nat.sub_self, show j + 1 - 1 = (j - 1) + 1 by omega, List.take_add_one, hc]
  have hd : xs.drop (j - 1) = xs[j - 1]'(by omega) :: xs.drop (j - 1 + 1) := List.drop_eq_getElem_cons (by omega)
  rw [hd, List.set_cons_zero, List.append_assoc]
  rfl
theorem midL_end {xs : List Int} {i : Nat} (h : i < xs.length) : (midL xs i xs.length).take (xs.length - 1) = cutL xs i := by
  unfold midL
  have e : ((cutL xs i).take (xs.length - 1)) = cutL xs i := List.take_of_length_le (by rw [cutL_len h]; exact Nat.le_refl _)
  rw [e, List.take_left' (cutL_len h)]
theorem clear_one {w : World} {b o c : Nat} (hc : (w.cell? ⟨b, o, none⟩).isSome = true) (hf : w.frozen? ⟨b, o, none⟩ = false) (ty : TypeId) :
    (Builtin.clear_ #[32] ty #[.slice (some ⟨b, o, none⟩) 1 c]).run Try.prog w = .ok (.tuple #[]) (w.setCells b o [.int .i64 0]) :=
  Lib.run_clear_slice w 32 3 ty _ Try.underlying32 Try.zeroValue3 rfl rfl b o 1 c (by omega) (fun j hj => by rw [show o + j = o by omega]; exact hc) (fun j hj => by rw [show o + j = o by omega]; exact hf)
def DelP (B : Nat) (w : World) (b n c : Nat) (xs : List Int) (e : Ending) (w' : World) : Prop :=
  e = .returned (.slice (some ⟨b, 0, none⟩) n c) ∧ w'.ownsRow B 3 1 (.slice (some ⟨b, 0, none⟩) n c) n (xs.flatMap enc1) ∧ w.grownBy w' (some b)
set_option maxRecDepth 10000 in
set_option maxHeartbeats 4000000 in
theorem del_any (B b n c i : Nat) (xs : List Int) (l : Int) (q : Nat) (w : World) (hn : n ≤ 1000) (hO : w.ownsRow B 3 1 (.slice (some ⟨b, 0, none⟩) n c) n (xs.flatMap enc1)) (hqb : q ≠ b) (hqw : q < w.heap.size) (hq : w.cell? ⟨q, 0, none⟩ = some (.int .i64 l))
    (hi : idxGo (fun v => v == l) 0 xs = i) (hin : i < n) (hone : ∀ j x, i < j → xs[j]? = some x → (x == l) = false) :
    Calls Try.prog 95 #[.slice (some ⟨b, 0, none⟩) n c, .func (.func 97) #[] #[.pointer (some ⟨q, 0, none⟩)]] w (DelP B w b (n - 1) c (cutL xs i)) := by
  have hlen := (ownsI_rd hO).length
  have HI := Lib.hid hi
  have HO0 := Lib.hid hO
  have HLN := Lib.hid hlen
  have HONE := Lib.hid hone
  have eg : ∀ args w, (callFunc 97 args).run Try.prog w = .ok (.enter 97 args) w := fun args w => by kernel_rfl
  have hne1 : ((i : Int) == -1) = false := beq_eq_false_iff_ne.2 (by omega)
  clear hi hO hlen hone
  go_enter Try.func95, Try.ntmps95
  go_wp2_with (go_at_call 93; (with_reducible refine (idxI_any _ _ _ xs l q _ (ownsI_rd HO0.out) hq).mono ?_); rw [HI.out]; rintro e w1 ⟨rfl, rfl⟩)
  go_loopw [5, 6] (fun u v wr => ∃ j : Nat, i < j ∧ j ≤ n ∧ u = .int .i64 ((j - 1 : Nat) : Int) ∧ v = .int .i64 j ∧ wr.ownsRow B 3 1 (.slice (some ⟨b, 0, none⟩) n c) n ((midL xs i j).flatMap enc1) ∧ w.grownBy wr (some b)) (fun _ v _ => n - (intOf v).toNat)
  case atStart => exact ⟨i + 1, by omega, by omega, by simp, by go_num, by rw [midL_start (by rw [HLN.out]; exact hin)]; exact HO0.out, World.grownBy.refl _ _⟩
  case round =>
    obtain ⟨j, hij, hjn, rfl, rfl, hO, hG⟩ := hrel
    have HO := Lib.hid hO; have HG := Lib.hid hG
    have hqr := hG.cell hq (by simpa using hqb)
    clear hO hG
    by_cases hlt : j < n
    · obtain ⟨x, hx, hcx, hfx, hbx⟩ := ownsI_at HO.out j hlt
      rw [midL_at (by rw [HLN.out]; exact hin) (by rw [HLN.out]; exact hlt) (by omega)] at hx
      obtain ⟨y, hy, hcy, hfy, _⟩ := ownsI_at HO.out (j - 1) (by omega)
      have HX := Lib.hid (HONE.out j x hij hx)
      have HXX := Lib.hid hx
      clear hx hy
      obtain ⟨p, rfl⟩ : ∃ p, j = p + 1 := ⟨j - 1, by omega⟩
      simp only [Nat.add_sub_cancel] at hcy hfy ⊢
      go_wp2_with (go_at_fn 97; refine (delc_is _ hqr HX.out).mono ?_; rintro e w1 ⟨rfl, rfl⟩)
      go_roundw
      case rel =>
        have hs := HO.out.stored p (.int .i64 x)
        have e : ((midL xs i (p + 1)).flatMap enc1).set p (.int .i64 x) = (midL xs i (p + 2)).flatMap enc1 := by
          rw [flat_enc1, flat_enc1, ← List.map_set]
          have := midL_step hij HXX.out
          rw [Nat.add_sub_cancel] at this
          rw [this]
        rw [e] at hs
        exact ⟨p + 2, by omega, by omega, by go_num, by go_num, hs.1, HG.out.trans hs.2⟩
      case measure => simp [intOf]; omega
    · obtain rfl : j = n := by omega
      obtain ⟨m, rfl⟩ : ∃ m, j = m + 1 := ⟨j - 1, by omega⟩
      obtain ⟨y, hy, hcy, hfy, _⟩ := ownsI_at HO.out m (by omega)
      have hclr := fun ty c => clear_one (w := wr) (b := b) (o := m) (c := c) (by rw [hcy]; rfl) hfy ty
      have e1 : m + 1 - m = 1 := by omega
      have hc1 : m + 1 ≤ c := by
        rcases HO.out.2 with ⟨h, _⟩ | ⟨g', cap', cur, h, _, _, hh, _⟩
        · simp at h
        · simp at h; omega
      have hc2 : ¬ c = m := by omega
      have hc3 : m ≤ c := by omega
      simp only [Nat.add_sub_cancel]
      clear hy
      go_wp2
      go_ret
      have h1 := owns_put [.int .i64 0] m _ _ HO.out
      have h2 := owns_less h1.1 (show m ≤ m + 1 by omega)
      refine ⟨rfl, ?_, HG.out.trans h1.2⟩
      have hxl : xs.length = m + 1 := HLN.out
      have e : (putAt ((midL xs i (m + 1)).flatMap enc1) m [.int .i64 0]).take (m * 1) = (cutL xs i).flatMap enc1 := by
        have h3 := midL_end (xs := xs) (i := i) (by omega)
        rw [hxl, Nat.add_sub_cancel] at h3
        rw [flat_enc1, flat_enc1, ← h3, List.map_take, Nat.mul_one]
        show ((List.map (Value.int IntKind.i64) (midL xs i (m + 1))).set m _).take m = _
        rw [List.take_set_of_le (Nat.le_refl m)]
      rw [e] at h2
      exact h2
end Go.Proofs.Ytabbmnnohnfbeaa
