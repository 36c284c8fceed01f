/- Contracts of chain of the reference, of Chain's own part. The conditions: the graph reads as named, the thread is one of it. -/
import Derived.Test.YtmdjbnicjohkjaaLkChain
namespace Go.Proofs.Ytmdjbnicjohkjaa
open Go.RowKit
set_option linter.unusedSimpArgs false
set_option linter.unusedVariables false
theorem rchain_any (a : Option Addr) (n c : Nat) (g : List ThV) (i : Nat) (hi : i < n) (hn8 : n ≤ 1000) (w : World) (hG : RdG w a n g) :
    Calls Try.prog 51 #[.slice a n c, .int .i64 i] w (OutI w.heap.size w (chainG (g.map ThV.th) i)) := by
  have hs := hG.small
  have hgl : (g.map ThV.th).length = n := by simp [hG.length]
  have HR := Lib.hid hG; clear hG
  have hst := ChainInv.start (g.map ThV.th) i (by omega)
  have hn0 := nextG_lo (g.map ThV.th) i
  generalize chainG (g.map ThV.th) i = R at *
  have HST := Lib.hid hst; clear hst
  have HGL := Lib.hid hgl; clear hgl
  have e1 := E1
  go_enter Try.func51, Try.ntmps51
  go_wp2_with (go_at_call 78; refine (rnext_any _ _ _ _ _ hi _ HR.out).mono ?_; rintro e w1 ⟨rfl, hb1⟩; obtain ⟨hc1, hf1, hz1, hr1⟩ := bfacts hb1; (try simp only [World.size_alloc, World.size_setCell, World.size_drew, World.size_drewN] at hz1 hr1); (try have hw0 : w.heap.size < w1.heap.size := by omega); (try have hw1 : w.heap.size + 1 < w1.heap.size := by omega); (try have hw2 : w.heap.size + 1 + 1 < w1.heap.size := by omega))
  go_loopw [5, 6] (fun v m wr => ∃ (l : List Int) (a' : Option Addr) (c' : Nat) (x : Int), v = .slice a' l.length c' ∧ m = .int .i64 x ∧ wr.ownsRow w.heap.size 3 1 (.slice a' l.length c') l.length (l.flatMap enc1) ∧ ChainInv (g.map ThV.th) i x l R ∧ Below w.heap.size w wr) (fun v _ _ => n + 1 - lenOf v)
  case atStart => exact ⟨[], none, 0, _, rfl, rfl, World.ownsRow_nil _ _ _ _, HST.out, by (repeat' (first | (with_reducible exact Below.refl _ _) | (with_reducible assumption) | (with_reducible refine Below.alloc ?_ ?_ _) | (with_reducible refine Below.drew ?_) | (with_reducible refine Below.draws ?_ _) | (with_reducible refine Below.setCell ?_ ?_ _) | (refine Below.then ?_ (by with_reducible assumption)) | go_size))⟩
  case round =>
    obtain ⟨l, a', c', x, rfl, rfl, hown, hinv, hB⟩ := hrel
    have hle := hinv.le
    rw [HGL.out] at hle
    have hx1 := hinv.lo
    have hx2 := hinv.hi
    rw [HGL.out] at hx2
    have HO := Lib.hid hown; have HI := Lib.hid hinv; have HB := Lib.hid hB
    have hz := hB.size
    clear hown hinv hB
    by_cases h0 : 0 ≤ x
    · obtain ⟨y, rfl⟩ := Int.eq_ofNat_of_zero_le h0
      by_cases h1 : y = i
      · have hr := HI.out.stop (fun h => h.2.1 (by rw [h1]))
        have q : ((y : Int) != (i : Int)) = false := by simp [h1]
        subst hr
        go_wp2_with (first | (go_at_call 61; refine (has_any _ _ _ _ _ _ (ownsI_rd HO.out)).mono ?_; rintro e w1 ⟨rfl, rfl⟩))
        go_ret
        exact ⟨_, _, _, rfl, HO.out, HB.out⟩
      · have q : ((y : Int) != (i : Int)) = true := by simp; omega
        cases h2 : hasB l y
        · have hon := HI.out.on h0 (by omega) h2
          simp only [Int.toNat_natCast] at hon
          have HON := Lib.hid hon; clear hon
          go_wp2_with (first
            | (go_at_call 61; refine (has_any _ _ _ _ _ _ (ownsI_rd HO.out)).mono ?_; rintro e w1 ⟨rfl, rfl⟩)
            | (at_builtin; refine wpList_push rfl _ _ _ rfl e1 rfl HO.out rfl rfl (by intro u hu; simp at hu; rcases hu with rfl; rfl) (by omega) (by decide) hz ?_; intro a2 c2 w2 hown2 hb2; have HO2 := Lib.hid (ownsI_snoc hown2); have HB2 := Lib.hid hb2; have hz2 := hb2.size; clear hown2 hb2)
            | (go_at_call 78; refine (rnext_any _ _ _ _ y (by omega) _ (HR.out.ext (HB.out.trans HB2.out))).mono ?_; rintro e w3 ⟨rfl, hb3⟩; have HB3 := Lib.hid hb3; clear hb3))
          go_roundw
          case rel => exact ⟨l ++ [(y : Int)], a2, c2, _, by simp, rfl, by rw [List.length_append]; exact owns_ext HO2.out HB3.out, HON.out, HB.out.trans (HB2.out.trans (HB3.out.mono (by omega)))⟩
          case measure => simp [lenOf]; omega
        · have hr := HI.out.stop (fun h => by rw [h2] at h; exact absurd h.2.2 (by simp))
          subst hr
          go_wp2_with (first | (go_at_call 61; refine (has_any _ _ _ _ _ _ (ownsI_rd HO.out)).mono ?_; rintro e w1 ⟨rfl, rfl⟩))
          go_ret
          exact ⟨_, _, _, rfl, HO.out, HB.out⟩
    · have hr := HI.out.stop (fun h => h0 h.1)
      subst hr
      go_wp2
      go_ret
      exact ⟨_, _, _, rfl, HO.out, HB.out⟩
end Go.Proofs.Ytmdjbnicjohkjaa
