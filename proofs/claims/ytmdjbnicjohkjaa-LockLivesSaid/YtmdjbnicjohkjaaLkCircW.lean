/- Contracts of Circle of both sides. The conditions: the graph reads as named. -/
import Derived.Test.YtmdjbnicjohkjaaLkTop
import Derived.Test.YtmdjbnicjohkjaaLkCirc
namespace Go.Proofs.Ytmdjbnicjohkjaa
open Go.RowKit
set_option linter.unusedSimpArgs false
set_option linter.unusedVariables false
theorem owns_one (w : World) (x : Value) (T : TypeId) : (w.alloc (.cells #[x] T)).ownsRow w.heap.size T 1 (.slice (some ⟨w.heap.size, 0, none⟩) 1 1) 1 [x] :=
  ⟨rfl, .inr ⟨w.heap.size, 1, #[x], rfl, Nat.le_refl _, by show (w.heap.push _)[w.heap.size]? = _; simp, Nat.le_refl _, by decide, rfl, rfl⟩⟩
theorem owns_nil {w : World} {B e k n c : Nat} {a : Option Addr} {xs : List Value} (h : w.ownsRow B e k (.slice a n c) n xs) : n = 0 → (a = none ∧ c = 0) ∨ ∃ ad, a = some ad := by
  intro _
  rcases h.2 with ⟨hv, _⟩ | ⟨g, cap, cur, hv, _⟩
  · simp at hv; exact .inl ⟨hv.1, hv.2.2⟩
  · simp at hv; exact .inr ⟨_, hv.1⟩
theorem chainGo_le (g : List Th) (i : Int) : ∀ (f : Nat) (n : Int) (out : List Int), (chainGo g i f n out).length ≤ out.length + f
  | 0, _, _ => by simp [chainGo]
  | f + 1, n, out => by
    unfold chainGo
    split
    · have := chainGo_le g i f (nextG g n.toNat) (out ++ [n]); simp at this; omega
    · omega
theorem chainG_le (g : List Th) (i : Nat) : (chainG g i).length ≤ g.length + 1 := by
  have := chainGo_le g i (g.length + 1) (nextG g i) []; simpa [chainG] using this
theorem chainGo_rng (g : List Th) (i : Int) : ∀ (f : Nat) (n : Int) (out : List Int), -1 ≤ n → n < g.length → (∀ x ∈ out, 0 ≤ x ∧ x < g.length) → ∀ x ∈ chainGo g i f n out, 0 ≤ x ∧ x < g.length
  | 0, _, _ => by intro _ _ h; exact h
  | f + 1, n, out => by
    intro h1 h2 h
    unfold chainGo
    split
    · rename_i hc
      have := nextG_lo g n.toNat
      refine chainGo_rng g i f _ _ this.1 (by omega) (fun x hx => ?_)
      rcases List.mem_append.1 hx with hx | hx
      · exact h x hx
      · simp at hx; subst hx; exact ⟨hc.1, h2⟩
    · exact h
theorem chainG_rng (g : List Th) (i : Nat) (h : 0 < g.length) : ∀ x ∈ chainG g i, 0 ≤ x ∧ x < g.length := by
  have := nextG_lo g i
  exact chainGo_rng g i _ _ [] this.1 (by omega) (by simp)
theorem lastOf_rng {l : List Int} {i N : Int} (h : ∀ x ∈ l, 0 ≤ x ∧ x < N) (hi : 0 ≤ i ∧ i < N) : 0 ≤ lastOf i l ∧ lastOf i l < N := by
  rcases l.eq_nil_or_concat with rfl | ⟨ys, y, rfl⟩
  · exact hi
  · rw [List.concat_eq_append] at h ⊢; rw [lastOf_snoc]; exact h y (by simp)
theorem circled_any (a : Option Addr) (n c : Nat) (g : List ThV) (i : Nat) (hi : i < n) (w : World) (hG : RdG w a n g) :
    Calls Try.prog 53 #[.slice a n c, .int .i64 i] w fun e w' => e = .returned (.bool (circG (g.map ThV.th) i)) ∧ Below w.heap.size w w' := by
  have hgl : (g.map ThV.th).length = n := by simp [hG.length]
  have hs := hG.small
  have hn0 := nextG_lo (g.map ThV.th) i
  have st : circGo (g.map ThV.th) i (n - 0) (nextG (g.map ThV.th) i) = circG (g.map ThV.th) i := by rw [circG, hgl]; rfl
  generalize circG (g.map ThV.th) i = R at *
  have HST := Lib.hid st; have HGL := Lib.hid hgl; have HR := Lib.hid hG
  obtain ⟨x0, hx0⟩ : ∃ x0, x0 = nextG (g.map ThV.th) i := ⟨_, rfl⟩
  have HX0 := Lib.hid hx0
  rw [← hx0] at HST hn0
  clear st hgl hG hx0
  go_enter Try.func53, Try.ntmps53
  go_wp2_with (go_at_call 78; refine (rnext_any _ _ _ _ i hi _ HR.out).mono ?_; rw [← HX0.out]; rintro e w1 ⟨rfl, hb1⟩)
  go_loopw [5, 6] (fun v m wr => ∃ (k : Nat) (x : Int), k ≤ n ∧ v = .int .i64 x ∧ m = .int .i64 k ∧ -1 ≤ x ∧ x < n ∧ circGo (g.map ThV.th) i (n - k) x = R ∧ Below w.heap.size w wr) (fun _ m _ => n - (intOf m).toNat)
  case atStart => exact ⟨0, x0, Nat.zero_le _, rfl, rfl, hn0.1, by have := HGL.out; omega, HST.out, hb1⟩
  case round =>
    obtain ⟨k, x, hk, rfl, rfl, hx1, hx2, he, hB⟩ := hrel
    have HE := Lib.hid he; have HB := Lib.hid hB
    clear he hB hb1
    by_cases hlt : k < n
    · have HE2 : Hid ((if 0 ≤ x then (if x = i then true else circGo (g.map ThV.th) i (n - (k + 1)) (nextG (g.map ThV.th) x.toNat)) else false) = R) := by
        have := HE.out; rw [show n - k = (n - (k + 1)) + 1 by omega] at this; exact this
      clear HE
      by_cases h0 : 0 ≤ x
      · rw [if_pos h0] at HE2
        obtain ⟨y, rfl⟩ := Int.eq_ofNat_of_zero_le h0
        by_cases h1 : y = i
        · subst h1
          rw [if_pos rfl] at HE2
          have hv := HE2.out
          subst hv
          go_wp2
          go_ret
          exact ⟨rfl, HB.out⟩
        · rw [if_neg (by omega)] at HE2
          have q : ((y : Int) == (i : Int)) = false := by simp; omega
          have hn1 := nextG_lo (g.map ThV.th) y
          rw [Int.toNat_natCast] at HE2
          obtain ⟨x1, hx1'⟩ : ∃ x1, x1 = nextG (g.map ThV.th) y := ⟨_, rfl⟩
          have HX1 := Lib.hid hx1'
          rw [← hx1'] at HE2 hn1
          clear hx1'
          go_wp2_with (go_at_call 78; refine (rnext_any _ _ _ _ y (by omega) _ (HR.out.ext HB.out)).mono ?_; rw [← HX1.out]; rintro e w1 ⟨rfl, hb1⟩)
          go_roundw
          case rel => exact ⟨k + 1, x1, by omega, rfl, by go_num, hn1.1, by have := HGL.out; omega, HE2.out, Below.then HB.out hb1⟩
          case measure => simp [intOf]; omega
      · rw [if_neg h0] at HE2
        have hv := HE2.out
        subst hv
        go_wp2
        go_ret
        exact ⟨rfl, HB.out⟩
    · have hv : R = false := by rw [← HE.out, show n - k = 0 by omega]; rfl
      subst hv
      go_wp2
      go_ret
      exact ⟨rfl, HB.out⟩
set_option maxHeartbeats 1000000 in
theorem rCircle_any (a : Option Addr) (n c : Nat) (g : List ThV) (w : World) (hG : RdG w a n g) :
    Calls Try.prog 19 #[.slice a n c] w (OutIE w.heap.size w (circleR (g.map ThV.th)).1 (circleR (g.map ThV.th)).2) := by
  have HC := Lib.hid (rvalid_any a n c g w hG)
  have hgl : (g.map ThV.th).length = n := by simp [hG.length]
  have hl8 := fun h => validG_len (g := g.map ThV.th) h
  have hgn := hG.length
  have HR := Lib.hid hG; clear hG
  unfold circleR
  rw [hgl]
  rw [hgl] at hl8
  generalize validG (g.map ThV.th) = V at *
  cases V
  · go_enter Try.func19, Try.ntmps19
    go_wp2_with (go_at_call 23; refine (HC.out).mono ?_; rintro e w1 ⟨rfl, hb1⟩; obtain ⟨hc1, hf1, hz1, hr1⟩ := bfacts hb1; (try simp only [World.size_alloc, World.size_setCell, World.size_drew, World.size_drewN] at hz1 hr1); (try have hw0 : w.heap.size < w1.heap.size := by omega); (try have hw1 : w.heap.size + 1 < w1.heap.size := by omega); (try have hw2 : w.heap.size + 1 + 1 < w1.heap.size := by omega))
    go_ret2
    exact .none (by (repeat' (first | (with_reducible exact Below.refl _ _) | (with_reducible assumption) | (with_reducible refine Below.alloc ?_ ?_ _) | (with_reducible refine Below.drew ?_) | (with_reducible refine Below.draws ?_ _) | (with_reducible refine Below.setCell ?_ ?_ _) | (refine Below.then ?_ (by with_reducible assumption)) | go_size)))
  · have hn8 := hl8 rfl
    clear hl8 hgl
    rw [if_pos rfl]
    obtain ⟨R, hR⟩ : ∃ R, R = circFrom (g.map ThV.th) n 0 := ⟨_, rfl⟩
    have HST : Hid (circFrom (g.map ThV.th) (n - 0) 0 = R) := Lib.hid hR.symm
    rw [← hR]
    clear hR
    have e1 := E1
    go_enter Try.func19, Try.ntmps19
    go_wp2_with (go_at_call 23; refine (HC.out).mono ?_; rintro e w1 ⟨rfl, hb1⟩; obtain ⟨hc1, hf1, hz1, hr1⟩ := bfacts hb1; (try simp only [World.size_alloc, World.size_setCell, World.size_drew, World.size_drewN] at hz1 hr1); (try have hw0 : w.heap.size < w1.heap.size := by omega); (try have hw1 : w.heap.size + 1 < w1.heap.size := by omega); (try have hw2 : w.heap.size + 1 + 1 < w1.heap.size := by omega))
    have HB1 := Lib.hid hb1
    clear hc1 hf1 hz1 hr1 hb1
    go_loopw [4] (fun i wr => ∃ (k : Nat), k ≤ n ∧ i = .int .i64 k ∧ circFrom (g.map ThV.th) (n - k) k = R ∧ Below w.heap.size w wr) (fun i _ => n - (intOf i).toNat)
    case atStart => exact ⟨0, Nat.zero_le _, rfl, HST.out, HB1.out⟩
    case round =>
      obtain ⟨k, hk, rfl, he, hB⟩ := hrel
      have HE := Lib.hid he; have HB := Lib.hid hB
      clear he hB
      by_cases hlt : k < n
      · have HE2 : Hid ((if circG (g.map ThV.th) k then ((k : Int) :: chainG (g.map ThV.th) k, 0) else circFrom (g.map ThV.th) (n - (k + 1)) (k + 1)) = R) := by
          have := HE.out; rw [show n - k = (n - (k + 1)) + 1 by omega] at this; exact this
        have HCC := Lib.hid (circled_any a n c g k hlt wr (HR.out.ext HB.out))
        clear HE
        cases q : circG (g.map ThV.th) k
        · rw [q] at HE2 HCC
          go_wp2_with (go_at_call 53; refine (HCC.out).mono ?_; rintro e w1 ⟨rfl, hb1⟩; obtain ⟨hc1, hf1, hz1, hr1⟩ := bfacts hb1; (try simp only [World.size_alloc, World.size_setCell, World.size_drew, World.size_drewN] at hz1 hr1); (try have hw0 : w.heap.size < w1.heap.size := by omega); (try have hw1 : w.heap.size + 1 < w1.heap.size := by omega); (try have hw2 : w.heap.size + 1 + 1 < w1.heap.size := by omega))
          go_roundw
          case rel => exact ⟨k + 1, by omega, by go_num, by simpa using HE2.out, Below.then HB.out hb1⟩
          case measure => simp [intOf]; omega
        · rw [q] at HE2 HCC
          have hv := HE2.out
          rw [if_pos rfl] at hv
          subst hv
          have hw := HB.out.size
          have hl := chainG_le (g.map ThV.th) k
          rw [List.length_map, hgn] at hl
          go_wp2_with (first
            | (go_at_call 53; refine (HCC.out).mono ?_; rintro e w1 ⟨rfl, hb1⟩; obtain ⟨hc1, hf1, hz1, hr1⟩ := bfacts hb1; (try simp only [World.size_alloc, World.size_setCell, World.size_drew, World.size_drewN] at hz1 hr1); (try have hw0 : w.heap.size < w1.heap.size := by omega); (try have hw1 : w.heap.size + 1 < w1.heap.size := by omega); (try have hw2 : w.heap.size + 1 + 1 < w1.heap.size := by omega))
            | (go_at_call 51; refine (rchain_any _ _ _ g k hlt (by omega) _ (HR.out.ext (Below.then HB.out (by (repeat' (first | (with_reducible exact Below.refl _ _) | (with_reducible assumption) | (with_reducible refine Below.alloc ?_ ?_ _) | (with_reducible refine Below.drew ?_) | (with_reducible refine Below.draws ?_ _) | (with_reducible refine Below.setCell ?_ ?_ _) | (refine Below.then ?_ (by with_reducible assumption)) | go_size)))))).mono ?_; rintro e w2 ⟨a2, n2, c2, rfl, ho, hb2⟩; have HO := Lib.hid ho; have hb3 := hb2; have hz2 := hb2.size; (have hn2 : n2 ≤ 9 := by have := (ownsI_rd ho).length; omega); clear ho hb2)
            | (at_builtin; refine wpList_pushAll (B := w.heap.size) rfl _ _ _ rfl e1 enc1_len enc1_one rfl (owns_mono (owns_ext (owns_one _ _ _) hb3) (by have := hb1.size; omega)) rfl (ownsI_rd HO.out) (owns_nil HO.out) (by omega) (by decide) (by have := hb1.size; have := hb3.size; simp only [World.size_alloc] at this; omega) ?_; rintro v3 w3 ho3 ⟨a3, c3, rfl⟩ hb4; have HO3 := Lib.hid ho3; clear ho3))
          go_ret2
          exact ⟨_, _, _, rfl, HO3.out, (Below.then HB.out (Below.then (Below.alloc hb1 hb1.size _) hb3)).trans hb4⟩
      · have hv : R = ([], 3) := by rw [← HE.out, show n - k = 0 by omega]; rfl
        subst hv
        go_wp2
        go_ret2
        exact .none HB.out
theorem last_cell {w : World} {B n c : Nat} {a : Option Addr} {xs : List Int} {i : Int} (h : w.ownsRow B 3 1 (.slice a n c) n ((i :: xs).flatMap enc1)) : ∃ b off, a = some ⟨b, off, none⟩ ∧ n = xs.length + 1 ∧ b < w.heap.size ∧ w.cell? ⟨b, off + xs.length, none⟩ = some (.int .i64 (lastOf i xs)) := by
  have hR := ownsI_rd h
  have hl := hR.length
  simp at hl
  obtain ⟨hx, b, off, e, hb, h1⟩ := hR.one xs.length (by omega)
  refine ⟨b, off, e, hl.symm, hb, ?_⟩
  rw [h1]
  congr 2
  rcases xs.eq_nil_or_concat with rfl | ⟨ys, y, rfl⟩
  · rfl
  · simp only [List.concat_eq_append, lastOf_snoc]; simp
set_option maxHeartbeats 1000000 in
theorem Circle_any (a : Option Addr) (n c : Nat) (g : List ThV) (w : World) (hG : RdG w a n g) :
    Calls Try.prog 18 #[.slice a n c] w (OutIE w.heap.size w (circleR (g.map ThV.th)).1 (circleR (g.map ThV.th)).2) := by
  have HC := Lib.hid (valid_any a n c g w hG)
  have hgl : (g.map ThV.th).length = n := by simp [hG.length]
  have hl8 := fun h => validG_len (g := g.map ThV.th) h
  have hgn := hG.length
  have HR := Lib.hid hG; clear hG
  unfold circleR
  have hce : ∀ i, i < n → circG (g.map ThV.th) i = decide (nextG (g.map ThV.th) (lastOf i (chainG (g.map ThV.th) i)).toNat = i) := fun i hi => circ_eq (by rw [hgl]; exact hi)
  have HCE := Lib.hid hce
  clear hce
  rw [hgl]
  rw [hgl] at hl8
  generalize validG (g.map ThV.th) = V at *
  cases V
  · go_enter Try.func18, Try.ntmps18
    go_wp2_with (go_at_call 22; refine (HC.out).mono ?_; rintro e w1 ⟨rfl, hb1⟩; obtain ⟨hc1, hf1, hz1, hr1⟩ := bfacts hb1; (try simp only [World.size_alloc, World.size_setCell, World.size_drew, World.size_drewN] at hz1 hr1); (try have hw0 : w.heap.size < w1.heap.size := by omega); (try have hw1 : w.heap.size + 1 < w1.heap.size := by omega); (try have hw2 : w.heap.size + 1 + 1 < w1.heap.size := by omega))
    go_ret2
    exact .none (by (repeat' (first | (with_reducible exact Below.refl _ _) | (with_reducible assumption) | (with_reducible refine Below.alloc ?_ ?_ _) | (with_reducible refine Below.drew ?_) | (with_reducible refine Below.draws ?_ _) | (with_reducible refine Below.setCell ?_ ?_ _) | (refine Below.then ?_ (by with_reducible assumption)) | go_size)))
  · have hn8 := hl8 rfl
    clear hl8 hgl
    rw [if_pos rfl]
    obtain ⟨R, hR⟩ : ∃ R, R = circFrom (g.map ThV.th) n 0 := ⟨_, rfl⟩
    have HST : Hid (circFrom (g.map ThV.th) (n - 0) 0 = R) := Lib.hid hR.symm
    rw [← hR]
    clear hR
    have e1 := E1
    go_enter Try.func18, Try.ntmps18
    go_wp2_with (go_at_call 22; refine (HC.out).mono ?_; rintro e w1 ⟨rfl, hb1⟩; obtain ⟨hc1, hf1, hz1, hr1⟩ := bfacts hb1; (try simp only [World.size_alloc, World.size_setCell, World.size_drew, World.size_drewN] at hz1 hr1); (try have hw0 : w.heap.size < w1.heap.size := by omega); (try have hw1 : w.heap.size + 1 < w1.heap.size := by omega); (try have hw2 : w.heap.size + 1 + 1 < w1.heap.size := by omega))
    have HB1 := Lib.hid hb1
    clear hc1 hf1 hz1 hr1 hb1
    go_loopw [11] (fun i wr => ∃ (k : Nat), k ≤ n ∧ i = .int .i64 k ∧ circFrom (g.map ThV.th) (n - k) k = R ∧ Below w.heap.size w wr) (fun i _ => n - (intOf i).toNat)
    case atStart => exact ⟨0, Nat.zero_le _, rfl, HST.out, HB1.out⟩
    case round =>
      obtain ⟨k, hk, rfl, he, hB⟩ := hrel
      have HE := Lib.hid he; have HB := Lib.hid hB
      clear he hB
      by_cases hlt : k < n
      · have HE2 : Hid ((if circG (g.map ThV.th) k then ((k : Int) :: chainG (g.map ThV.th) k, 0) else circFrom (g.map ThV.th) (n - (k + 1)) (k + 1)) = R) := by
          have := HE.out; rw [show n - k = (n - (k + 1)) + 1 by omega] at this; exact this
        have hq := HCE.out k hlt
        clear HE
        have hw := HB.out.size
        have hl := chainG_le (g.map ThV.th) k
        rw [List.length_map, hgn] at hl
        have hrg := chainG_rng (g.map ThV.th) k (by simp; omega)
        rw [List.length_map, hgn] at hrg
        obtain ⟨y, hy⟩ : ∃ y : Nat, lastOf k (chainG (g.map ThV.th) k) = y ∧ y < n := by
          have := lastOf_rng (i := (k : Int)) hrg (by omega)
          exact ⟨(lastOf k (chainG (g.map ThV.th) k)).toNat, by omega, by omega⟩
        obtain ⟨hy1, hy2⟩ := hy
        rw [hy1, Int.toNat_natCast] at hq
        obtain ⟨x1, hx1⟩ : ∃ x1, x1 = nextG (g.map ThV.th) y := ⟨_, rfl⟩
        have HX1 := Lib.hid hx1
        rw [← hx1] at hq
        have HY1 := Lib.hid hy1
        have HL := Lib.hid hl
        clear hx1 hy1 hrg hl
        cases q : circG (g.map ThV.th) k
        · rw [q] at HE2 hq
          have hq2 : (x1 == (k : Int)) = false := hq.symm
          clear hq
          go_wp2_with (first
            | (go_at_call 49; refine (chain_any _ _ _ g k hlt (by omega) _ (HR.out.ext (Below.then HB.out (by (repeat' (first | (with_reducible exact Below.refl _ _) | (with_reducible assumption) | (with_reducible refine Below.alloc ?_ ?_ _) | (with_reducible refine Below.drew ?_) | (with_reducible refine Below.draws ?_ _) | (with_reducible refine Below.setCell ?_ ?_ _) | (refine Below.then ?_ (by with_reducible assumption)) | go_size)))))).mono ?_; rintro e w2 ⟨a2, n2, c2, rfl, ho, hb2⟩; have HO := Lib.hid ho; have hb3 := hb2; have hz2 := hb2.size; (have hn2 : n2 ≤ 9 := by have := (ownsI_rd ho).length; have := HL.out; omega); clear ho hb2)
            | (at_builtin; refine wpList_pushAll (B := w.heap.size) rfl _ _ _ rfl e1 enc1_len enc1_one rfl (owns_mono (owns_ext (owns_one _ _ _) hb3) hw) rfl (ownsI_rd HO.out) (owns_nil HO.out) (by omega) (by decide) (by have := hb3.size; simp only [World.size_alloc] at this; omega) ?_; rintro v3 w3 ho3 ⟨a3, c3, rfl⟩ hb4; have HO3 := Lib.hid ho3; obtain ⟨b5, off5, rfl, hn5, hb5, hc5⟩ := last_cell ho3; rw [HY1.out] at hc5; have HB6 : Hid (Below w.heap.size w w3) := Lib.hid ((Below.then HB.out (Below.then (Below.alloc (Below.refl _ _) (Nat.le_refl _) _) hb3)).trans hb4); clear ho3)
            | (go_at_call 52; refine (next_any _ _ _ _ y hy2 _ (HR.out.ext HB6.out)).mono ?_; rw [← HX1.out]; rintro e w4 ⟨rfl, hb7⟩))
          go_roundw
          case rel => exact ⟨k + 1, by omega, by go_num, by simpa using HE2.out, Below.then HB6.out hb7⟩
          case measure => simp [intOf]; omega
        · rw [q] at HE2 hq
          have hq2 : x1 = (k : Int) := by simpa using hq.symm
          have hv := HE2.out
          rw [if_pos rfl] at hv
          subst hv
          clear hq
          go_wp2_with (first
            | (go_at_call 49; refine (chain_any _ _ _ g k hlt (by omega) _ (HR.out.ext (Below.then HB.out (by (repeat' (first | (with_reducible exact Below.refl _ _) | (with_reducible assumption) | (with_reducible refine Below.alloc ?_ ?_ _) | (with_reducible refine Below.drew ?_) | (with_reducible refine Below.draws ?_ _) | (with_reducible refine Below.setCell ?_ ?_ _) | (refine Below.then ?_ (by with_reducible assumption)) | go_size)))))).mono ?_; rintro e w2 ⟨a2, n2, c2, rfl, ho, hb2⟩; have HO := Lib.hid ho; have hb3 := hb2; have hz2 := hb2.size; (have hn2 : n2 ≤ 9 := by have := (ownsI_rd ho).length; have := HL.out; omega); clear ho hb2)
            | (at_builtin; refine wpList_pushAll (B := w.heap.size) rfl _ _ _ rfl e1 enc1_len enc1_one rfl (owns_mono (owns_ext (owns_one _ _ _) hb3) hw) rfl (ownsI_rd HO.out) (owns_nil HO.out) (by omega) (by decide) (by have := hb3.size; simp only [World.size_alloc] at this; omega) ?_; rintro v3 w3 ho3 ⟨a3, c3, rfl⟩ hb4; have HO3 := Lib.hid ho3; obtain ⟨b5, off5, rfl, hn5, hb5, hc5⟩ := last_cell ho3; rw [HY1.out] at hc5; have HB6 : Hid (Below w.heap.size w w3) := Lib.hid ((Below.then HB.out (Below.then (Below.alloc (Below.refl _ _) (Nat.le_refl _) _) hb3)).trans hb4); clear ho3)
            | (go_at_call 52; refine (next_any _ _ _ _ y hy2 _ (HR.out.ext HB6.out)).mono ?_; rw [← HX1.out, hq2]; rintro e w4 ⟨rfl, hb7⟩))
          go_ret2
          exact ⟨_, _, _, rfl, by rw [← hn5]; exact owns_ext HO3.out hb7, Below.then HB6.out hb7⟩
      · have hv : R = ([], 3) := by rw [← HE.out, show n - k = 0 by omega]; rfl
        subst hv
        go_wp2
        go_ret2
        exact .none HB.out
end Go.Proofs.Ytmdjbnicjohkjaa
