/- The contract of Next of both sides. The conditions: the graph reads as named. -/
import Derived.Test.YtmdjbnicjohkjaaLkReff
import Derived.Test.YtmdjbnicjohkjaaLkSame
namespace Go.Proofs.Ytmdjbnicjohkjaa
open Go.RowKit
set_option linter.unusedSimpArgs false
set_option linter.unusedVariables false
def valAt (L : List Int) (k : Int) : Int := (L[k.toNat]?).getD 0
/-- the best so far, k looked at -/
def bestStep (G : List Th) (L : List Int) (k : Nat) (b : Int) : Int := match G[k]? with
  | some t => if t.waits < 0 ∧ (b < 0 ∨ valAt L b < valAt L k) then k else b
  | none => b
def bestFrom (G : List Th) (L : List Int) : Nat → Nat → Int → Int
  | 0, _, b => b
  | f + 1, k, b => bestFrom G L f (k + 1) (bestStep G L k b)
def bestG (G : List Th) : Int := bestFrom G (effL G) G.length 0 (-1)
/-- what Next gives -/
def nextR (G : List Th) : Int × Int := if validG G then (if bestG G < 0 then (0, 3) else (bestG G, 0)) else (0, 1)
theorem effL_len (G : List Th) : (effL G).length = G.length := by unfold effL; rw [effFrom_len]; simp
theorem bestFrom_step {G L f k b R} (h : bestFrom G L (f + 1) k b = R) : bestFrom G L f (k + 1) (bestStep G L k b) = R := h
theorem bestStep_at {g : List ThV} {L : List Int} {k : Nat} {t : ThV} {b : Int} (h : g[k]? = some t) : bestStep (g.map ThV.th) L k b = if t.waits < 0 ∧ (b < 0 ∨ valAt L b < valAt L k) then (k : Int) else b := by
  rw [bestStep, List.getElem?_map, h]; rfl
theorem valAt_of {L : List Int} {k : Nat} {x : Int} (h : L[k]? = some x) : valAt L k = x := by simp [valAt, h]
set_option maxRecDepth 10000 in
set_option maxHeartbeats 2000000 in
theorem Next_any (a : Option Addr) (n c : Nat) (g : List ThV) (w : World) (hG : RdG w a n g) :
    Calls Try.prog 29 #[.slice a n c] w fun e w' => e = rII (nextR (g.map ThV.th)).1 (nextR (g.map ThV.th)).2 ∧ Below w.heap.size w w' := by
  have hgl : (g.map ThV.th).length = n := by simp [hG.length]
  have HC := Lib.hid (valid_any a n c g w hG)
  have hl8 := fun h => validG_len (g := g.map ThV.th) h
  have hel := effL_len (g.map ThV.th)
  rw [hgl] at hl8 hel
  have HG0 := Lib.hid hG.length
  have HR := Lib.hid hG; clear hG
  unfold nextR
  generalize validG (g.map ThV.th) = V at *
  cases V
  · go_enter Try.func29, Try.ntmps29
    go_wp2_with (go_at_call 22; refine (HC.out).mono ?_; rintro e w1 ⟨rfl, hb1⟩; obtain ⟨hc1, hf1, hz1, hr1⟩ := bfacts hb1; (try simp only [World.size_alloc, World.size_setCell, World.size_drew, World.size_drewN] at hz1 hr1); (try have hw0 : w.heap.size < w1.heap.size := by omega); (try have hw1 : w.heap.size + 1 < w1.heap.size := by omega); (try have hw2 : w.heap.size + 1 + 1 < w1.heap.size := by omega))
    go_ret2
    exact ⟨rII_eq rfl rfl, by (repeat' (first | (with_reducible exact Below.refl _ _) | (with_reducible assumption) | (with_reducible refine Below.alloc ?_ ?_ _) | (with_reducible refine Below.drew ?_) | (with_reducible refine Below.draws ?_ _) | (with_reducible refine Below.setCell ?_ ?_ _) | (refine Below.then ?_ (by with_reducible assumption)) | go_size))⟩
  · rw [if_pos rfl]
    have hn8 := hl8 rfl
    obtain ⟨R, hR⟩ : ∃ R, R = bestG (g.map ThV.th) := ⟨_, rfl⟩
    obtain ⟨L, hL⟩ : ∃ L, L = effL (g.map ThV.th) := ⟨_, rfl⟩
    have HST : Hid (bestFrom (g.map ThV.th) L (n - 0) 0 (-1) = R) := Lib.hid (by rw [hR, bestG, hgl, hL]; rfl)
    have HL := Lib.hid hL
    rw [← hL] at hel
    rw [← hR]
    clear hgl hl8 hR hL
    go_enter Try.func29, Try.ntmps29
    go_wp2_with (first | (go_at_call 22; refine (HC.out).mono ?_; rintro e w1 ⟨rfl, hb1⟩; obtain ⟨hc1, hf1, hz1, hr1⟩ := bfacts hb1; (try simp only [World.size_alloc, World.size_setCell, World.size_drew, World.size_drewN] at hz1 hr1); (try have hw0 : w.heap.size < w1.heap.size := by omega); (try have hw1 : w.heap.size + 1 < w1.heap.size := by omega); (try have hw2 : w.heap.size + 1 + 1 < w1.heap.size := by omega)) | (go_at_call 62; refine (effective_any _ _ _ g (by omega) _ (HR.out.ext hb1)).mono ?_; rw [← HL.out]; rintro e w2 ⟨a2, n2, c2, rfl, ho, hb2⟩; have HO := Lib.hid (ownsI_rd ho); have W2 := Lib.hid (Below.then hb1 hb2); have hn2 : L.length = n2 := (ownsI_rd ho).length; clear ho hb2))
    clear hc1 hf1 hz1 hr1 hb1
    obtain rfl : n2 = n := by omega
    go_loopw [4, 15] (fun v i wr => ∃ (k : Nat) (b : Int), k ≤ n2 ∧ v = .int .i64 b ∧ i = .int .i64 k ∧ -1 ≤ b ∧ b < n2 ∧ bestFrom (g.map ThV.th) L (n2 - k) k b = R ∧ Below w2.heap.size w2 wr) (fun _ i _ => n2 - (intOf i).toNat)
    case atStart => exact ⟨0, -1, Nat.zero_le _, rfl, rfl, by omega, by omega, HST.out, by (repeat' (first | (with_reducible exact Below.refl _ _) | (with_reducible assumption) | (with_reducible refine Below.alloc ?_ ?_ _) | (with_reducible refine Below.drew ?_) | (with_reducible refine Below.draws ?_ _) | (with_reducible refine Below.setCell ?_ ?_ _) | (refine Below.then ?_ (by with_reducible assumption)) | go_size))⟩
    case round =>
      obtain ⟨k, bst, hk, rfl, rfl, hb1, hb2, he, hB⟩ := hrel
      have HE := Lib.hid he; have HB := Lib.hid hB
      clear he hB
      by_cases hlt : k < n2
      · obtain ⟨⟨pri, ta, tn, tc, waits, holds⟩, b, off, rfl, hb, h1, h2, h3, ht, hgi, HD⟩ := (HR.out.ext (Below.then W2.out HB.out)).at_ k hlt
        simp only [] at h1 h2 h3
        obtain ⟨x, bl, ol, rfl, hbl, hcx, hx⟩ := (HO.out.ext HB.out).idx k hlt
        have hs := bestFrom_step (f := n2 - (k + 1)) (k := k) (b := bst) (G := g.map ThV.th) (L := L) (R := R) (by rw [show n2 - (k + 1) + 1 = n2 - k by omega]; exact HE.out)
        rw [bestStep_at hgi, valAt_of hx] at hs
        simp only [] at hs
        have HS := Lib.hid hs
        clear hs ht hgi HD hx HE
        by_cases p0 : waits < 0
        · by_cases p1 : bst < 0
          · have HS2 : Hid (bestFrom (g.map ThV.th) L (n2 - (k + 1)) (k + 1) k = R) := by have := HS.out; rw [if_pos ⟨p0, .inl p1⟩] at this; exact Lib.hid this
            clear HS
            go_wp2_with (refine wp_region_later_lit (by kernel_rfl) (by kernel_rfl) ?_; (repeat (go_big_quiet_step (fail))); refine wpQuiet_nil ?_; intro w1 hb1; obtain ⟨hc1, hf1, hz1, hr1⟩ := bfacts hb1; (try simp only [World.size_alloc, World.size_setCell, World.size_drew, World.size_drewN] at hz1 hr1); (try have hw0 : w.heap.size < w1.heap.size := by omega); (try have hw1 : w.heap.size + 1 < w1.heap.size := by omega); (try have hw2 : w.heap.size + 1 + 1 < w1.heap.size := by omega))
            go_roundw
            case rel => exact ⟨k + 1, k, by omega, rfl, by go_num, by omega, by omega, HS2.out, Below.then HB.out (by (repeat' (first | (with_reducible exact Below.refl _ _) | (with_reducible assumption) | (with_reducible refine Below.alloc ?_ ?_ _) | (with_reducible refine Below.drew ?_) | (with_reducible refine Below.draws ?_ _) | (with_reducible refine Below.setCell ?_ ?_ _) | (refine Below.then ?_ (by with_reducible assumption)) | go_size)))⟩
            case measure => simp [intOf]; omega
          · obtain ⟨y, rfl⟩ := Int.eq_ofNat_of_zero_le (show 0 ≤ bst by omega)
            obtain ⟨z, bl2, ol2, e2, hbl2, hcz, hz⟩ := (HO.out.ext HB.out).idx y (by omega)
            simp at e2
            obtain ⟨rfl, rfl⟩ := e2
            rw [valAt_of hz] at HS
            clear hz
            have q1 : decide ((y : Int) < 0) = false := by simp
            by_cases p2 : z < x
            · have HS2 : Hid (bestFrom (g.map ThV.th) L (n2 - (k + 1)) (k + 1) k = R) := by have := HS.out; rw [if_pos ⟨p0, .inr p2⟩] at this; exact Lib.hid this
              clear HS
              go_wp2_with (refine wp_region_later_lit (by kernel_rfl) (by kernel_rfl) ?_; (repeat (go_big_quiet_step (fail))); refine wpQuiet_nil ?_; intro w1 hb1; obtain ⟨hc1, hf1, hz1, hr1⟩ := bfacts hb1; (try simp only [World.size_alloc, World.size_setCell, World.size_drew, World.size_drewN] at hz1 hr1); (try have hw0 : w.heap.size < w1.heap.size := by omega); (try have hw1 : w.heap.size + 1 < w1.heap.size := by omega); (try have hw2 : w.heap.size + 1 + 1 < w1.heap.size := by omega))
              go_roundw
              case rel => exact ⟨k + 1, k, by omega, rfl, by go_num, by omega, by omega, HS2.out, Below.then HB.out (by (repeat' (first | (with_reducible exact Below.refl _ _) | (with_reducible assumption) | (with_reducible refine Below.alloc ?_ ?_ _) | (with_reducible refine Below.drew ?_) | (with_reducible refine Below.draws ?_ _) | (with_reducible refine Below.setCell ?_ ?_ _) | (refine Below.then ?_ (by with_reducible assumption)) | go_size)))⟩
              case measure => simp [intOf]; omega
            · have HS2 : Hid (bestFrom (g.map ThV.th) L (n2 - (k + 1)) (k + 1) y = R) := by have := HS.out; rw [if_neg (by omega)] at this; exact Lib.hid this
              clear HS
              have q2 : decide (z < x) = false := by simpa using p2
              go_wp2_with (refine wp_region_later_lit (by kernel_rfl) (by kernel_rfl) ?_; (repeat (go_big_quiet_step (fail))); refine wpQuiet_nil ?_; intro w1 hb1; obtain ⟨hc1, hf1, hz1, hr1⟩ := bfacts hb1; (try simp only [World.size_alloc, World.size_setCell, World.size_drew, World.size_drewN] at hz1 hr1); (try have hw0 : w.heap.size < w1.heap.size := by omega); (try have hw1 : w.heap.size + 1 < w1.heap.size := by omega); (try have hw2 : w.heap.size + 1 + 1 < w1.heap.size := by omega))
              go_roundw
              case rel => exact ⟨k + 1, y, by omega, rfl, by go_num, by omega, by omega, HS2.out, Below.then HB.out (by (repeat' (first | (with_reducible exact Below.refl _ _) | (with_reducible assumption) | (with_reducible refine Below.alloc ?_ ?_ _) | (with_reducible refine Below.drew ?_) | (with_reducible refine Below.draws ?_ _) | (with_reducible refine Below.setCell ?_ ?_ _) | (refine Below.then ?_ (by with_reducible assumption)) | go_size)))⟩
              case measure => simp [intOf]; omega
        · have HS2 : Hid (bestFrom (g.map ThV.th) L (n2 - (k + 1)) (k + 1) bst = R) := by have := HS.out; rw [if_neg (fun h => p0 h.1)] at this; exact Lib.hid this
          clear HS
          have q2 : decide (waits < 0) = false := by simpa using p0
          go_wp2_with (refine wp_region_later_lit (by kernel_rfl) (by kernel_rfl) ?_; (repeat (go_big_quiet_step (fail))); refine wpQuiet_nil ?_; intro w1 hb1; obtain ⟨hc1, hf1, hz1, hr1⟩ := bfacts hb1; (try simp only [World.size_alloc, World.size_setCell, World.size_drew, World.size_drewN] at hz1 hr1); (try have hw0 : w.heap.size < w1.heap.size := by omega); (try have hw1 : w.heap.size + 1 < w1.heap.size := by omega); (try have hw2 : w.heap.size + 1 + 1 < w1.heap.size := by omega))
          go_roundw
          case rel => exact ⟨k + 1, bst, by omega, rfl, by go_num, by omega, by omega, HS2.out, Below.then HB.out (by (repeat' (first | (with_reducible exact Below.refl _ _) | (with_reducible assumption) | (with_reducible refine Below.alloc ?_ ?_ _) | (with_reducible refine Below.drew ?_) | (with_reducible refine Below.draws ?_ _) | (with_reducible refine Below.setCell ?_ ?_ _) | (refine Below.then ?_ (by with_reducible assumption)) | go_size)))⟩
          case measure => simp [intOf]; omega
      · have hv : R = bst := by rw [← HE.out, show n2 - k = 0 by omega]; rfl
        subst hv
        by_cases hr : R < 0
        · go_wp2
          go_ret2
          exact ⟨rII_eq rfl rfl, Below.then W2.out HB.out⟩
        · go_wp2
          go_ret2
          exact ⟨rII_eq rfl rfl, Below.then W2.out HB.out⟩
set_option maxRecDepth 10000 in
set_option maxHeartbeats 2000000 in
theorem rNext_any (a : Option Addr) (n c : Nat) (g : List ThV) (w : World) (hG : RdG w a n g) :
    Calls Try.prog 30 #[.slice a n c] w fun e w' => e = rII (nextR (g.map ThV.th)).1 (nextR (g.map ThV.th)).2 ∧ Below w.heap.size w w' := by
  have hgl : (g.map ThV.th).length = n := by simp [hG.length]
  have HC := Lib.hid (rvalid_any a n c g w hG)
  have hl8 := fun h => validG_len (g := g.map ThV.th) h
  have hel := effL_len (g.map ThV.th)
  have heq := fun h => effL_eq (validG_pri (g := g.map ThV.th) h)
  rw [hgl] at hl8 hel heq
  have HG0 := Lib.hid hG.length
  have HR := Lib.hid hG; clear hG
  unfold nextR
  generalize validG (g.map ThV.th) = V at *
  cases V
  · go_enter Try.func30, Try.ntmps30
    go_wp2_with (go_at_call 23; refine (HC.out).mono ?_; rintro e w1 ⟨rfl, hb1⟩; obtain ⟨hc1, hf1, hz1, hr1⟩ := bfacts hb1; (try simp only [World.size_alloc, World.size_setCell, World.size_drew, World.size_drewN] at hz1 hr1); (try have hw0 : w.heap.size < w1.heap.size := by omega); (try have hw1 : w.heap.size + 1 < w1.heap.size := by omega); (try have hw2 : w.heap.size + 1 + 1 < w1.heap.size := by omega))
    go_ret2
    exact ⟨rII_eq rfl rfl, by (repeat' (first | (with_reducible exact Below.refl _ _) | (with_reducible assumption) | (with_reducible refine Below.alloc ?_ ?_ _) | (with_reducible refine Below.drew ?_) | (with_reducible refine Below.draws ?_ _) | (with_reducible refine Below.setCell ?_ ?_ _) | (refine Below.then ?_ (by with_reducible assumption)) | go_size))⟩
  · rw [if_pos rfl]
    have hn8 := hl8 rfl
    have HQ := Lib.hid (heq rfl)
    clear heq
    obtain ⟨R, hR⟩ : ∃ R, R = bestG (g.map ThV.th) := ⟨_, rfl⟩
    obtain ⟨L, hL⟩ : ∃ L, L = effL (g.map ThV.th) := ⟨_, rfl⟩
    have HST : Hid (bestFrom (g.map ThV.th) L (n - 0) 0 (-1) = R) := Lib.hid (by rw [hR, bestG, hgl, hL]; rfl)
    have HL := Lib.hid hL
    rw [← hL] at hel
    rw [← hR]
    clear hgl hl8 hR hL
    go_enter Try.func30, Try.ntmps30
    go_wp2_with (first | (go_at_call 23; refine (HC.out).mono ?_; rintro e w1 ⟨rfl, hb1⟩; obtain ⟨hc1, hf1, hz1, hr1⟩ := bfacts hb1; (try simp only [World.size_alloc, World.size_setCell, World.size_drew, World.size_drewN] at hz1 hr1); (try have hw0 : w.heap.size < w1.heap.size := by omega); (try have hw1 : w.heap.size + 1 < w1.heap.size := by omega); (try have hw2 : w.heap.size + 1 + 1 < w1.heap.size := by omega)) | (go_at_call 63; refine (reffective_any _ _ _ g (by omega) _ (HR.out.ext hb1)).mono ?_; rw [← HQ.out, ← HL.out]; rintro e w2 ⟨a2, n2, c2, rfl, ho, hb2⟩; have HO := Lib.hid (ownsI_rd ho); have W2 := Lib.hid (Below.then hb1 hb2); have hn2 : L.length = n2 := (ownsI_rd ho).length; clear ho hb2))
    clear hc1 hf1 hz1 hr1 hb1
    obtain rfl : n2 = n := by omega
    go_loopw [5, 6] (fun v i wr => ∃ (k : Nat) (b : Int), k ≤ n2 ∧ v = .int .i64 b ∧ i = .int .i64 k ∧ -1 ≤ b ∧ b < n2 ∧ bestFrom (g.map ThV.th) L (n2 - k) k b = R ∧ Below w2.heap.size w2 wr) (fun _ i _ => n2 - (intOf i).toNat)
    case atStart => exact ⟨0, -1, Nat.zero_le _, rfl, rfl, by omega, by omega, HST.out, by (repeat' (first | (with_reducible exact Below.refl _ _) | (with_reducible assumption) | (with_reducible refine Below.alloc ?_ ?_ _) | (with_reducible refine Below.drew ?_) | (with_reducible refine Below.draws ?_ _) | (with_reducible refine Below.setCell ?_ ?_ _) | (refine Below.then ?_ (by with_reducible assumption)) | go_size))⟩
    case round =>
      obtain ⟨k, bst, hk, rfl, rfl, hb1, hb2, he, hB⟩ := hrel
      have HE := Lib.hid he; have HB := Lib.hid hB
      clear he hB
      by_cases hlt : k < n2
      · obtain ⟨⟨pri, ta, tn, tc, waits, holds⟩, b, off, rfl, hb, h1, h2, h3, ht, hgi, HD⟩ := (HR.out.ext (Below.then W2.out HB.out)).at_ k hlt
        simp only [] at h1 h2 h3
        obtain ⟨x, bl, ol, rfl, hbl, hcx, hx⟩ := (HO.out.ext HB.out).idx k hlt
        have hs := bestFrom_step (f := n2 - (k + 1)) (k := k) (b := bst) (G := g.map ThV.th) (L := L) (R := R) (by rw [show n2 - (k + 1) + 1 = n2 - k by omega]; exact HE.out)
        rw [bestStep_at hgi, valAt_of hx] at hs
        simp only [] at hs
        have HS := Lib.hid hs
        clear hs ht hgi HD hx HE
        by_cases p0 : waits < 0
        · by_cases p1 : bst < 0
          · have HS2 : Hid (bestFrom (g.map ThV.th) L (n2 - (k + 1)) (k + 1) k = R) := by have := HS.out; rw [if_pos ⟨p0, .inl p1⟩] at this; exact Lib.hid this
            clear HS
            go_wp2_with (refine wp_region_later_lit (by kernel_rfl) (by kernel_rfl) ?_; (repeat (go_big_quiet_step (fail))); refine wpQuiet_nil ?_; intro w1 hb1; obtain ⟨hc1, hf1, hz1, hr1⟩ := bfacts hb1; (try simp only [World.size_alloc, World.size_setCell, World.size_drew, World.size_drewN] at hz1 hr1); (try have hw0 : w.heap.size < w1.heap.size := by omega); (try have hw1 : w.heap.size + 1 < w1.heap.size := by omega); (try have hw2 : w.heap.size + 1 + 1 < w1.heap.size := by omega))
            go_roundw
            case rel => exact ⟨k + 1, k, by omega, rfl, by go_num, by omega, by omega, HS2.out, Below.then HB.out (by (repeat' (first | (with_reducible exact Below.refl _ _) | (with_reducible assumption) | (with_reducible refine Below.alloc ?_ ?_ _) | (with_reducible refine Below.drew ?_) | (with_reducible refine Below.draws ?_ _) | (with_reducible refine Below.setCell ?_ ?_ _) | (refine Below.then ?_ (by with_reducible assumption)) | go_size)))⟩
            case measure => simp [intOf]; omega
          · obtain ⟨y, rfl⟩ := Int.eq_ofNat_of_zero_le (show 0 ≤ bst by omega)
            obtain ⟨z, bl2, ol2, e2, hbl2, hcz, hz⟩ := (HO.out.ext HB.out).idx y (by omega)
            simp at e2
            obtain ⟨rfl, rfl⟩ := e2
            rw [valAt_of hz] at HS
            clear hz
            have q1 : decide ((y : Int) < 0) = false := by simp
            by_cases p2 : z < x
            · have HS2 : Hid (bestFrom (g.map ThV.th) L (n2 - (k + 1)) (k + 1) k = R) := by have := HS.out; rw [if_pos ⟨p0, .inr p2⟩] at this; exact Lib.hid this
              clear HS
              go_wp2_with (refine wp_region_later_lit (by kernel_rfl) (by kernel_rfl) ?_; (repeat (go_big_quiet_step (fail))); refine wpQuiet_nil ?_; intro w1 hb1; obtain ⟨hc1, hf1, hz1, hr1⟩ := bfacts hb1; (try simp only [World.size_alloc, World.size_setCell, World.size_drew, World.size_drewN] at hz1 hr1); (try have hw0 : w.heap.size < w1.heap.size := by omega); (try have hw1 : w.heap.size + 1 < w1.heap.size := by omega); (try have hw2 : w.heap.size + 1 + 1 < w1.heap.size := by omega))
              go_roundw
              case rel => exact ⟨k + 1, k, by omega, rfl, by go_num, by omega, by omega, HS2.out, Below.then HB.out (by (repeat' (first | (with_reducible exact Below.refl _ _) | (with_reducible assumption) | (with_reducible refine Below.alloc ?_ ?_ _) | (with_reducible refine Below.drew ?_) | (with_reducible refine Below.draws ?_ _) | (with_reducible refine Below.setCell ?_ ?_ _) | (refine Below.then ?_ (by with_reducible assumption)) | go_size)))⟩
              case measure => simp [intOf]; omega
            · have HS2 : Hid (bestFrom (g.map ThV.th) L (n2 - (k + 1)) (k + 1) y = R) := by have := HS.out; rw [if_neg (by omega)] at this; exact Lib.hid this
              clear HS
              have q2 : decide (z < x) = false := by simpa using p2
              go_wp2_with (refine wp_region_later_lit (by kernel_rfl) (by kernel_rfl) ?_; (repeat (go_big_quiet_step (fail))); refine wpQuiet_nil ?_; intro w1 hb1; obtain ⟨hc1, hf1, hz1, hr1⟩ := bfacts hb1; (try simp only [World.size_alloc, World.size_setCell, World.size_drew, World.size_drewN] at hz1 hr1); (try have hw0 : w.heap.size < w1.heap.size := by omega); (try have hw1 : w.heap.size + 1 < w1.heap.size := by omega); (try have hw2 : w.heap.size + 1 + 1 < w1.heap.size := by omega))
              go_roundw
              case rel => exact ⟨k + 1, y, by omega, rfl, by go_num, by omega, by omega, HS2.out, Below.then HB.out (by (repeat' (first | (with_reducible exact Below.refl _ _) | (with_reducible assumption) | (with_reducible refine Below.alloc ?_ ?_ _) | (with_reducible refine Below.drew ?_) | (with_reducible refine Below.draws ?_ _) | (with_reducible refine Below.setCell ?_ ?_ _) | (refine Below.then ?_ (by with_reducible assumption)) | go_size)))⟩
              case measure => simp [intOf]; omega
        · have HS2 : Hid (bestFrom (g.map ThV.th) L (n2 - (k + 1)) (k + 1) bst = R) := by have := HS.out; rw [if_neg (fun h => p0 h.1)] at this; exact Lib.hid this
          clear HS
          have q2 : decide (waits < 0) = false := by simpa using p0
          go_wp2_with (refine wp_region_later_lit (by kernel_rfl) (by kernel_rfl) ?_; (repeat (go_big_quiet_step (fail))); refine wpQuiet_nil ?_; intro w1 hb1; obtain ⟨hc1, hf1, hz1, hr1⟩ := bfacts hb1; (try simp only [World.size_alloc, World.size_setCell, World.size_drew, World.size_drewN] at hz1 hr1); (try have hw0 : w.heap.size < w1.heap.size := by omega); (try have hw1 : w.heap.size + 1 < w1.heap.size := by omega); (try have hw2 : w.heap.size + 1 + 1 < w1.heap.size := by omega))
          go_roundw
          case rel => exact ⟨k + 1, bst, by omega, rfl, by go_num, by omega, by omega, HS2.out, Below.then HB.out (by (repeat' (first | (with_reducible exact Below.refl _ _) | (with_reducible assumption) | (with_reducible refine Below.alloc ?_ ?_ _) | (with_reducible refine Below.drew ?_) | (with_reducible refine Below.draws ?_ _) | (with_reducible refine Below.setCell ?_ ?_ _) | (refine Below.then ?_ (by with_reducible assumption)) | go_size)))⟩
          case measure => simp [intOf]; omega
      · have hv : R = bst := by rw [← HE.out, show n2 - k = 0 by omega]; rfl
        subst hv
        by_cases hr : R < 0
        · go_wp2
          go_ret2
          exact ⟨rII_eq rfl rfl, Below.then W2.out HB.out⟩
        · go_wp2
          go_ret2
          exact ⟨rII_eq rfl rfl, Below.then W2.out HB.out⟩
end Go.Proofs.Ytmdjbnicjohkjaa
