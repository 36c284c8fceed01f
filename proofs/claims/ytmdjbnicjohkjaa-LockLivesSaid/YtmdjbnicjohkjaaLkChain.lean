/- Contracts of chain and Chain of both sides. The conditions: the graph reads as named, the thread is one of it. -/
import Derived.Test.YtmdjbnicjohkjaaLkHas
namespace Go.Proofs.Ytmdjbnicjohkjaa
open Go.RowKit
set_option linter.unusedSimpArgs false
set_option linter.unusedVariables false
theorem E1 : Elt Try.prog 27 3 1 8 := Elt.mk' (z := .int .i64 0) Try.underlying27 (by kernel_rfl) rfl (by decide)
theorem enc1_len (x : Int) : (enc1 x).length = 1 := rfl
theorem enc1_one (x : Int) : ∀ u ∈ enc1 x, u.oneCell' = true := by intro u hu; simp [enc1] at hu; rcases hu with rfl; rfl
def lenOf : Value → Nat
  | .slice _ n _ => n
  | _ => 0
def OutI (B : Nat) (w : World) (xs : List Int) (e : Ending) (w' : World) : Prop :=
  ∃ a n c, e = .returned (.slice a n c) ∧ w'.ownsRow B 3 1 (.slice a n c) n (xs.flatMap enc1) ∧ Below B w w'
theorem ownsI_rd {B : Nat} {w : World} {xs : List Int} {a : Option Addr} {n c : Nat} (h : w.ownsRow B 3 1 (.slice a n c) n (xs.flatMap enc1)) : Rd w a n 1 (xs.map enc1) := Rd.of_owns enc1_len (by decide) h
theorem ownsI_snoc {B : Nat} {w : World} {xs : List Int} {x : Int} {v : Value} {n : Nat} (h : w.ownsRow B 3 1 v n (xs.flatMap enc1 ++ [.int .i64 x])) : w.ownsRow B 3 1 v n ((xs ++ [x]).flatMap enc1) := by
  rw [List.flatMap_append]; exact h
theorem idxGo_range {α : Type} (p : α → Bool) : ∀ (xs : List α) (k : Nat), idxGo p k xs = -1 ∨ ((k : Int) ≤ idxGo p k xs ∧ idxGo p k xs < k + xs.length)
  | [], k => .inl rfl
  | x :: xs, k => by
    unfold idxGo
    split
    · right; simp; omega
    · rcases idxGo_range p xs (k + 1) with h | h
      · exact .inl h
      · right; simp; omega
theorem holderG_range (g : List Th) (l : Int) : -1 ≤ holderG g l ∧ holderG g l < g.length := by
  have := idxGo_range (fun t : Th => hasB t.holds l) g 0
  unfold holderG; omega
theorem nextG_range (g : List Th) (i : Nat) : -1 ≤ nextG g i ∧ nextG g i < g.length ∨ nextG g i = -1 := by
  unfold nextG
  split
  · split
    · exact .inr rfl
    · exact .inl (holderG_range g _)
  · exact .inr rfl
theorem nextG_lo (g : List Th) (i : Nat) : -1 ≤ nextG g i ∧ (nextG g i < g.length ∨ nextG g i = -1) := by
  have := nextG_range g i; omega
/-- the chain of a thread -/
def chainGo (g : List Th) (i : Int) : Nat → Int → List Int → List Int
  | 0, _, out => out
  | f + 1, n, out => if 0 ≤ n ∧ n ≠ i ∧ hasB out n = false then chainGo g i f (nextG g n.toNat) (out ++ [n]) else out
def chainG (g : List Th) (i : Nat) : List Int := chainGo g i (g.length + 1) (nextG g i) []
/-- a list without repetitions of numbers below N has at most N -/
theorem nodup_le : ∀ (N : Nat) (l : List Int), l.Nodup → (∀ x ∈ l, 0 ≤ x ∧ x < N) → l.length ≤ N
  | 0, [], _, _ => by simp
  | 0, x :: l, _, h => by have := h x (by simp); omega
  | N + 1, l, hn, h => by
    have h1 := nodup_le N (l.filter (· ≠ (N : Int))) (hn.filter _) (fun x hx => by
      have hx' := List.mem_filter.1 hx
      have h2 := h x hx'.1
      have h3 : x ≠ N := by simpa using hx'.2
      omega)
    have h4 : l.length ≤ (l.filter (· ≠ (N : Int))).length + 1 := by
      clear h1 h
      induction l with
      | nil => simp
      | cons x l ih =>
        rw [List.nodup_cons] at hn
        by_cases hx : x = (N : Int)
        · subst hx
          have : l.filter (· ≠ (N : Int)) = l := List.filter_eq_self.2 (fun y hy => by
            have : y ≠ N := fun e => hn.1 (e ▸ hy)
            simpa using this)
          have e : ((N : Int) :: l).filter (· ≠ (N : Int)) = l.filter (· ≠ (N : Int)) := by rw [List.filter_cons]; simp
          rw [e, this]; simp
        · have := ih hn.2
          simp [hx] at this ⊢
          omega
    omega
structure ChainInv (g : List Th) (i : Int) (n : Int) (l : List Int) (R : List Int) : Prop where
  nd : l.Nodup
  rng : ∀ x ∈ l, 0 ≤ x ∧ x < g.length
  lo : -1 ≤ n
  hi : n < g.length
  go : chainGo g i (g.length + 1 - l.length) n l = R
theorem ChainInv.le {g i n l R} (h : ChainInv g i n l R) : l.length ≤ g.length := nodup_le _ _ h.nd h.rng
theorem ChainInv.on {g i n l R} (h : ChainInv g i n l R) (h0 : 0 ≤ n) (h1 : n ≠ i) (h2 : hasB l n = false) : ChainInv g i (nextG g n.toNat) (l ++ [n]) R := by
  have hle := h.le
  have hn := nextG_lo g n.toNat
  have hm : n ∉ l := fun hm => by rw [hasB_iff.2 hm] at h2; exact absurd h2 (by simp)
  have hgo := h.go
  rw [show g.length + 1 - l.length = (g.length - l.length) + 1 by omega, chainGo, if_pos ⟨h0, h1, h2⟩] at hgo
  refine ⟨?_, ?_, hn.1, by have := h.hi; omega, ?_⟩
  · rw [List.nodup_append]
    exact ⟨h.nd, by simp, fun a ha b hb => by simp at hb; subst hb; exact fun e => hm (e ▸ ha)⟩
  · intro x hx
    rcases List.mem_append.1 hx with hx | hx
    · exact h.rng x hx
    · simp at hx; subst hx; exact ⟨h0, h.hi⟩
  · rw [List.length_append, show g.length + 1 - (l.length + [n].length) = g.length - l.length by simp]; exact hgo
theorem ChainInv.stop {g i n l R} (h : ChainInv g i n l R) (hs : ¬ (0 ≤ n ∧ n ≠ i ∧ hasB l n = false)) : R = l := by
  have hle := h.le
  have hgo := h.go
  rw [show g.length + 1 - l.length = (g.length - l.length) + 1 by omega, chainGo, if_neg hs] at hgo
  exact hgo.symm
theorem ChainInv.start (g : List Th) (i : Nat) (h : 0 < g.length) : ChainInv g i (nextG g i) [] (chainG g i) :=
  ⟨by simp, by simp, (nextG_lo g i).1, by have := nextG_lo g i; omega, rfl⟩
theorem chain_any (a : Option Addr) (n c : Nat) (g : List ThV) (i : Nat) (hi : i < n) (hn8 : n ≤ 1000) (w : World) (hG : RdG w a n g) :
    Calls Try.prog 49 #[.slice a n c, .int .i64 i] w (OutI w.heap.size w (chainG (g.map ThV.th) i)) := by
  have hs := hG.small
  have hgl : (g.map ThV.th).length = n := by simp [hG.length]
  have HR := Lib.hid hG; clear hG
  have hst := ChainInv.start (g.map ThV.th) i (by omega)
  have hn0 := nextG_lo (g.map ThV.th) i
  generalize chainG (g.map ThV.th) i = R at *
  have HST := Lib.hid hst; clear hst
  have HGL := Lib.hid hgl; clear hgl
  have e1 := E1
  go_enter Try.func49, Try.ntmps49
  go_wp2_with (go_at_call 52; refine (next_any _ _ _ _ _ hi _ HR.out).mono ?_; rintro e w1 ⟨rfl, hb1⟩; obtain ⟨hc1, hf1, hz1, hr1⟩ := bfacts hb1; (try simp only [World.size_alloc, World.size_setCell, World.size_drew, World.size_drewN] at hz1 hr1); (try have hw0 : w.heap.size < w1.heap.size := by omega); (try have hw1 : w.heap.size + 1 < w1.heap.size := by omega); (try have hw2 : w.heap.size + 1 + 1 < w1.heap.size := by omega))
  go_loopw [5, 6] (fun v m wr => ∃ (l : List Int) (a' : Option Addr) (c' : Nat) (x : Int), v = .slice a' l.length c' ∧ m = .int .i64 x ∧ wr.ownsRow w.heap.size 3 1 (.slice a' l.length c') l.length (l.flatMap enc1) ∧ ChainInv (g.map ThV.th) i x l R ∧ Below w.heap.size w wr) (fun v _ _ => n + 1 - lenOf v)
  case atStart => exact ⟨[], none, 0, _, rfl, rfl, World.ownsRow_nil _ _ _ _, HST.out, by (repeat' (first | (with_reducible exact Below.refl _ _) | (with_reducible assumption) | (with_reducible refine Below.alloc ?_ ?_ _) | (with_reducible refine Below.drew ?_) | (with_reducible refine Below.draws ?_ _) | (with_reducible refine Below.setCell ?_ ?_ _) | (refine Below.then ?_ (by with_reducible assumption)) | go_size))⟩
  case round =>
    obtain ⟨l, a', c', x, rfl, rfl, hown, hinv, hB⟩ := hrel
    have hle := hinv.le
    rw [HGL.out] at hle
    have hx1 := hinv.lo
    have hx2 := hinv.hi
    rw [HGL.out] at hx2
    have HO := Lib.hid hown; have HI := Lib.hid hinv; have HB := Lib.hid hB
    have hz := hB.size
    clear hown hinv hB
    by_cases h0 : 0 ≤ x
    · obtain ⟨y, rfl⟩ := Int.eq_ofNat_of_zero_le h0
      by_cases h1 : y = i
      · have hr := HI.out.stop (fun h => h.2.1 (by rw [h1]))
        have q : ((y : Int) != (i : Int)) = false := by simp [h1]
        subst hr
        go_wp2_with (first | (go_at_call 60; refine (contains_any _ _ _ _ _ _ (ownsI_rd HO.out)).mono ?_; rintro e w1 ⟨rfl, rfl⟩))
        go_ret
        exact ⟨_, _, _, rfl, HO.out, HB.out⟩
      · have q : ((y : Int) != (i : Int)) = true := by simp; omega
        cases h2 : hasB l y
        · have hon := HI.out.on h0 (by omega) h2
          simp only [Int.toNat_natCast] at hon
          have HON := Lib.hid hon; clear hon
          go_wp2_with (first
            | (go_at_call 60; refine (contains_any _ _ _ _ _ _ (ownsI_rd HO.out)).mono ?_; rintro e w1 ⟨rfl, rfl⟩)
            | (at_builtin; refine wpList_push rfl _ _ _ rfl e1 rfl HO.out rfl rfl (by intro u hu; simp at hu; rcases hu with rfl; rfl) (by omega) (by decide) hz ?_; intro a2 c2 w2 hown2 hb2; have HO2 := Lib.hid (ownsI_snoc hown2); have HB2 := Lib.hid hb2; have hz2 := hb2.size; clear hown2 hb2)
            | (go_at_call 52; refine (next_any _ _ _ _ y (by omega) _ (HR.out.ext (HB.out.trans HB2.out))).mono ?_; rintro e w3 ⟨rfl, hb3⟩; have HB3 := Lib.hid hb3; clear hb3))
          go_roundw
          case rel => exact ⟨l ++ [(y : Int)], a2, c2, _, by simp, rfl, by rw [List.length_append]; exact owns_ext HO2.out HB3.out, HON.out, HB.out.trans (HB2.out.trans (HB3.out.mono (by omega)))⟩
          case measure => simp [lenOf]; omega
        · have hr := HI.out.stop (fun h => by rw [h2] at h; exact absurd h.2.2 (by simp))
          subst hr
          go_wp2_with (first | (go_at_call 60; refine (contains_any _ _ _ _ _ _ (ownsI_rd HO.out)).mono ?_; rintro e w1 ⟨rfl, rfl⟩))
          go_ret
          exact ⟨_, _, _, rfl, HO.out, HB.out⟩
    · have hr := HI.out.stop (fun h => h0 h.1)
      subst hr
      go_wp2
      go_ret
      exact ⟨_, _, _, rfl, HO.out, HB.out⟩
end Go.Proofs.Ytmdjbnicjohkjaa
