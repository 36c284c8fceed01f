/- The contract of without of the reference; it is what the deletion leaves. The conditions: the list reads as named. -/
import Derived.Test.YtmdjbnicjohkjaaLkDel
namespace Go.Proofs.Ytmdjbnicjohkjaa
open Go.RowKit
set_option linter.unusedSimpArgs false
set_option linter.unusedVariables false
def outL (l : List Int) (x : Int) : List Int := l.filter (fun v => v != x)
theorem outL_on {l r : List Int} {x y : Int} {ys R : List Int} {k : Nat} (hd : l.drop k = y :: r) (hr : r = l.drop (k + 1)) (h : ys ++ outL (l.drop k) x = R) (hy : (y != x) = true) : (ys ++ [y]) ++ outL (l.drop (k + 1)) x = R := by
  rw [hd, outL, List.filter_cons_of_pos (by simpa using hy)] at h
  rw [← hr, List.append_assoc]; exact h
theorem outL_off {l r : List Int} {x y : Int} {ys R : List Int} {k : Nat} (hd : l.drop k = y :: r) (hr : r = l.drop (k + 1)) (h : ys ++ outL (l.drop k) x = R) (hy : (y != x) = false) : ys ++ outL (l.drop (k + 1)) x = R := by
  rw [hd, outL, List.filter_cons_of_neg (by rw [hy]; simp)] at h
  rw [← hr]; exact h
set_option maxRecDepth 10000 in
set_option maxHeartbeats 2000000 in
theorem without_any (a : Option Addr) (n c : Nat) (l : List Int) (x : Int) (w : World) (hn : n ≤ 1000) (hR : Rd w a n 1 (l.map enc1)) :
    Calls Try.prog 74 #[.slice a n c, .int .i64 x] w (OutI w.heap.size w (outL l x)) := by
  have HR := Lib.hid hR
  have HLN := Lib.hid hR.length
  obtain ⟨R, hRR⟩ : ∃ R, R = outL l x := ⟨_, rfl⟩
  have HST : Hid (([] : List Int) ++ outL (l.drop 0) x = R) := Lib.hid (by rw [hRR]; rfl)
  rw [← hRR]
  clear hR hRR
  have e1 := E1
  go_enter Try.func74, Try.ntmps74
  go_wp2
  go_loopw [5, 6] (fun v m wr => ∃ (k : Nat) (ys : List Int) (a' : Option Addr) (c' : Nat), k ≤ n ∧ ys.length ≤ k ∧ v = .slice a' ys.length c' ∧ m = .int .i64 k ∧ wr.ownsRow w.heap.size 3 1 (.slice a' ys.length c') ys.length (ys.flatMap enc1) ∧ ys ++ outL (l.drop k) x = R ∧ Below w.heap.size w wr) (fun _ m _ => n - (intOf m).toNat)
  case atStart => exact ⟨0, [], none, 0, by omega, by simp, rfl, rfl, World.ownsRow_nil _ _ _ _, HST.out, by (repeat' (first | (with_reducible exact Below.refl _ _) | (with_reducible assumption) | (with_reducible refine Below.alloc ?_ ?_ _) | (with_reducible refine Below.drew ?_) | (with_reducible refine Below.draws ?_ _) | (with_reducible refine Below.setCell ?_ ?_ _) | (refine Below.then ?_ (by with_reducible assumption)) | go_size))⟩
  case round =>
    obtain ⟨k, ys, a', c', hk, hyk, rfl, rfl, hown, he, hB⟩ := hrel
    have HO := Lib.hid hown; have HE := Lib.hid he; have HB := Lib.hid hB
    have hz := hB.size
    clear hown he hB
    by_cases h0 : k < n
    · obtain ⟨y, b, off, rfl, hb, hc, HD⟩ := (HR.out.ext HB.out).next1 k h0
      cases h1 : y != x
      · have HON := Lib.hid (outL_off HD.out rfl HE.out h1)
        go_wp2
        go_roundw
        case rel => exact ⟨k + 1, ys, a', c', by omega, by omega, rfl, by go_num, HO.out, HON.out, HB.out⟩
        case measure => simp [intOf]; omega
      · have HON := Lib.hid (outL_on HD.out rfl HE.out h1)
        go_wp2_with (at_builtin; refine wpList_push rfl _ _ _ rfl e1 rfl HO.out rfl rfl (by intro u hu; simp at hu; rcases hu with rfl; rfl) (by omega) (by decide) hz ?_; intro a2 c2 w2 hown2 hb2; have HO2 := Lib.hid (ownsI_snoc hown2); have HB2 := Lib.hid hb2; have hz2 := hb2.size; clear hown2 hb2)
        go_roundw
        case rel => exact ⟨k + 1, ys ++ [y], a2, c2, by omega, by simp; omega, by simp, by go_num, by rw [List.length_append]; exact HO2.out, HON.out, HB.out.trans HB2.out⟩
        case measure => simp [intOf]; omega
    · have hr : ys = R := by have := HE.out; rw [drop_end HLN.out (by omega)] at this; simpa [outL] using this
      subst hr
      go_wp2
      go_ret
      exact ⟨_, _, _, rfl, HO.out, HB.out⟩
theorem outL_none {l : List Int} {x : Int} (h : x ∉ l) : outL l x = l := List.filter_eq_self.2 (fun y hy => by
  have : y ≠ x := fun e => h (e ▸ hy)
  simpa using this)
/-- the place of a lock, and what is left without it -/
theorem cut_out {l : List Int} {x : Int} (h : l.Pairwise (· < ·)) (hx : x ∈ l) : ∃ i : Nat, idxGo (fun v => v == x) 0 l = i ∧ i < l.length ∧ cutL l i = outL l x ∧ ∀ j y, i < j → l[j]? = some y → (y == x) = false := by
  rcases idxGo_spec (fun v => v == x) l 0 with ⟨_, h1⟩ | ⟨j, y, h1, h2, h3, h4⟩
  · have := h1 x hx; simp at this
  · obtain rfl : y = x := by simpa using h3
    have hj := (List.getElem?_eq_some_iff.1 h2).1
    have hsplit : l = l.take j ++ y :: l.drop (j + 1) := by
      have := List.take_append_drop j l
      rw [List.drop_eq_getElem_cons hj] at this
      rw [(List.getElem?_eq_some_iff.1 h2).2] at this
      exact this.symm
    have hp := h
    rw [hsplit, List.pairwise_append, List.pairwise_cons] at hp
    refine ⟨j, by rw [h1]; simp, hj, ?_, fun m z hm hz => ?_⟩
    · unfold cutL
      conv => rhs; rw [hsplit]
      unfold outL
      rw [List.filter_append, List.filter_cons_of_neg (by simp)]
      congr 1
      · exact (List.filter_eq_self.2 (fun z hz => by have := hp.2.2 z hz y (by simp); simp; omega)).symm
      · exact (List.filter_eq_self.2 (fun z hz => by have := hp.2.1.1 z hz; simp; omega)).symm
    · have := pair_get h h2 hz hm
      simp; omega
end Go.Proofs.Ytmdjbnicjohkjaa
