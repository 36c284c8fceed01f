/- The contracts of with, without and Copy of the reference. The conditions: the list, or the graph, reads as named. -/
import Derived.Test.YtmdjbnicjohkjaaLkCopy
namespace Go.Proofs.Ytmdjbnicjohkjaa
open Go.RowKit
set_option linter.unusedSimpArgs false
set_option linter.unusedVariables false
def withGo (l : List Int) (x : Int) : Nat → Nat → List Int
  | 0, _ => []
  | f + 1, k => if (k : Int) = x ∨ hasB l k = true then (k : Int) :: withGo l x f (k + 1) else withGo l x f (k + 1)
def withL (l : List Int) (x : Int) : List Int := withGo l x 6 0
theorem with_on {l : List Int} {x : Int} {ys R : List Int} {k : Nat} (hk : k < 6) (h : ys ++ withGo l x (6 - k) k = R) (ht : (k : Int) = x ∨ hasB l k = true) : (ys ++ [(k : Int)]) ++ withGo l x (6 - (k + 1)) (k + 1) = R := by
  rw [show 6 - k = (6 - (k + 1)) + 1 by omega, withGo, if_pos ht] at h
  rw [List.append_assoc]; exact h
theorem with_off {l : List Int} {x : Int} {ys R : List Int} {k : Nat} (hk : k < 6) (h : ys ++ withGo l x (6 - k) k = R) (ht : ¬ ((k : Int) = x ∨ hasB l k = true)) : ys ++ withGo l x (6 - (k + 1)) (k + 1) = R := by
  rw [show 6 - k = (6 - (k + 1)) + 1 by omega, withGo, if_neg ht] at h
  exact h
theorem withGo_len (l : List Int) (x : Int) : ∀ (f k : Nat), (withGo l x f k).length ≤ f
  | 0, _ => Nat.le_refl _
  | f + 1, k => by
    have := withGo_len l x f (k + 1)
    unfold withGo
    split
    · simp; omega
    · omega
set_option maxRecDepth 10000 in
set_option maxHeartbeats 2000000 in
theorem with_any (a : Option Addr) (n c : Nat) (l : List Int) (x : Int) (w : World) (hR : Rd w a n 1 (l.map enc1)) :
    Calls Try.prog 67 #[.slice a n c, .int .i64 x] w (OutI w.heap.size w (withL l x)) := by
  have HR := Lib.hid hR
  obtain ⟨R, hRR⟩ : ∃ R, R = withL l x := ⟨_, rfl⟩
  have HST : Hid (([] : List Int) ++ withGo l x (6 - 0) 0 = R) := Lib.hid (by rw [hRR]; rfl)
  rw [← hRR]
  clear hR hRR
  have e1 := E1
  go_enter Try.func67, Try.ntmps67
  go_wp2
  go_loopw [5, 6] (fun v m wr => ∃ (k : Nat) (ys : List Int) (a' : Option Addr) (c' : Nat), k ≤ 6 ∧ ys.length ≤ k ∧ v = .slice a' ys.length c' ∧ m = .int .i64 k ∧ wr.ownsRow w.heap.size 3 1 (.slice a' ys.length c') ys.length (ys.flatMap enc1) ∧ ys ++ withGo l x (6 - k) k = R ∧ Below w.heap.size w wr) (fun _ m _ => 6 - (intOf m).toNat)
  case atStart => exact ⟨0, [], none, 0, by omega, by simp, rfl, rfl, World.ownsRow_nil _ _ _ _, HST.out, by (repeat' (first | (with_reducible exact Below.refl _ _) | (with_reducible assumption) | (with_reducible refine Below.alloc ?_ ?_ _) | (with_reducible refine Below.drew ?_) | (with_reducible refine Below.draws ?_ _) | (with_reducible refine Below.setCell ?_ ?_ _) | (refine Below.then ?_ (by with_reducible assumption)) | go_size))⟩
  case round =>
    obtain ⟨k, ys, a', c', hk, hyk, rfl, rfl, hown, he, hB⟩ := hrel
    have HO := Lib.hid hown; have HE := Lib.hid he; have HB := Lib.hid hB
    have hz := hB.size
    clear hown he hB
    by_cases h0 : k < 6
    · have H6 := Lib.hid h0
      by_cases h1 : (k : Int) = x
      · have HON := Lib.hid (with_on h0 HE.out (.inl h1))
        subst h1
        go_wp2_with (first
          | (go_at_call 61; refine (has_any _ _ _ _ _ _ (HR.out.ext HB.out)).mono ?_; rintro e w1 ⟨rfl, rfl⟩)
          | (at_builtin; refine wpList_push rfl _ _ _ rfl e1 rfl HO.out rfl rfl (by intro u hu; simp at hu; rcases hu with rfl; rfl) (by omega) (by decide) hz ?_; intro a2 c2 w2 hown2 hb2; have HO2 := Lib.hid (ownsI_snoc hown2); have HB2 := Lib.hid hb2; have hz2 := hb2.size; clear hown2 hb2))
        go_roundw
        case rel => exact ⟨k + 1, ys ++ [(k : Int)], a2, c2, by omega, by simp; omega, by simp, by go_num, by rw [List.length_append]; exact HO2.out, HON.out, HB.out.trans HB2.out⟩
        case measure => simp [intOf]; omega
      · have q : ((k : Int) == x) = false := by simp [h1]
        cases h2 : hasB l k
        · have HON := Lib.hid (with_off h0 HE.out (by rw [h2]; simp [h1]))
          have H2 := Lib.hid h2
          clear h2
          go_wp2_with (first
            | (go_at_call 61; refine (has_is _ _ _ _ _ _ (HR.out.ext HB.out) H2.out).mono ?_; rintro e w1 ⟨rfl, rfl⟩))
          go_roundw
          case rel => exact ⟨k + 1, ys, a', c', by omega, by omega, rfl, by go_num, HO.out, HON.out, HB.out⟩
          case measure => simp [intOf]; omega
        · have HON := Lib.hid (with_on h0 HE.out (.inr h2))
          have H2 := Lib.hid h2
          clear h2
          go_wp2_with (first
            | (go_at_call 61; refine (has_is _ _ _ _ _ _ (HR.out.ext HB.out) H2.out).mono ?_; rintro e w1 ⟨rfl, rfl⟩)
            | (at_builtin; refine wpList_push rfl _ _ _ rfl e1 rfl HO.out rfl rfl (by intro u hu; simp at hu; rcases hu with rfl; rfl) (by omega) (by decide) hz ?_; intro a2 c2 w2 hown2 hb2; have HO2 := Lib.hid (ownsI_snoc hown2); have HB2 := Lib.hid hb2; have hz2 := hb2.size; clear hown2 hb2))
          go_roundw
          case rel => exact ⟨k + 1, ys ++ [(k : Int)], a2, c2, by omega, by simp; omega, by simp, by go_num, by rw [List.length_append]; exact HO2.out, HON.out, HB.out.trans HB2.out⟩
          case measure => simp [intOf]; omega
    · have hr : ys = R := by have := HE.out; rw [show 6 - k = 0 by omega, withGo, List.append_nil] at this; exact this
      subst hr
      go_wp2
      go_ret
      exact ⟨_, _, _, rfl, HO.out, HB.out⟩
end Go.Proofs.Ytmdjbnicjohkjaa
