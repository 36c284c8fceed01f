/- The contract of effective and Effective of the program. The conditions: the graph reads as named. -/
import Derived.Test.YtmdjbnicjohkjaaLkRow
namespace Go.Proofs.Ytmdjbnicjohkjaa
open Go.RowKit
set_option linter.unusedSimpArgs false
set_option linter.unusedVariables false
set_option maxRecDepth 10000 in
set_option maxHeartbeats 2000000 in
theorem effective_any (a : Option Addr) (n c : Nat) (g : List ThV) (hn8 : n ≤ 1000) (w : World) (hG : RdG w a n g) :
    Calls Try.prog 62 #[.slice a n c] w (OutI w.heap.size w (effL (g.map ThV.th))) := by
  have hgl : (g.map ThV.th).length = n := by simp [hG.length]
  obtain ⟨R, hR⟩ : ∃ R, R = effL (g.map ThV.th) := ⟨_, rfl⟩
  have HST : Hid (effFrom (g.map ThV.th) (n - 0) 0 (List.replicate n 0) = R) := Lib.hid (by rw [hR, effL, hgl]; rfl)
  rw [← hR]
  have HGL := Lib.hid hgl
  have HR := Lib.hid hG
  have HG0 := Lib.hid hG.length
  clear hgl hR hG
  go_enter Try.func62, Try.ntmps62
  go_wp2_with (at_make; refine wpList_mkI rfl _ _ rfl n rfl rfl rfl rfl (by omega) (Nat.le_refl _) ?_; intro w1 hown1 hb1 hlt1; have HO1 := Lib.hid hown1; clear hown1)
  go_loopw [13] (fun i wr => ∃ (k : Nat) (xs : List Int), k ≤ n ∧ i = .int .i64 k ∧ effFrom (g.map ThV.th) (n - k) k xs = R ∧ wr.ownsRow w.heap.size 3 1 (.slice (some ⟨w.heap.size, 0, none⟩) n n) n (xs.flatMap enc1) ∧ w.heap.size < wr.heap.size ∧ Below w.heap.size w wr) (fun i _ => n - (intOf i).toNat)
  case atStart => exact ⟨0, _, Nat.zero_le _, rfl, HST.out, HO1.out, hlt1, hb1⟩
  case round =>
    obtain ⟨k, xs, hk, rfl, he, hown, hz, hB⟩ := hrel
    have HE := Lib.hid he; have HO := Lib.hid hown; have HB := Lib.hid hB
    clear he hown hB HO1 hb1 hlt1
    obtain ⟨wo, rfl⟩ : ∃ wo, wo = wr := ⟨_, rfl⟩
    by_cases hlt : k < n
    · obtain ⟨⟨pri, ta, tn, tc, waits, holds⟩, b, off, rfl, hb, h1, h2, h3, ht, hgi, HD⟩ := (HR.out.ext HB.out).at_ k hlt
      simp only [] at h1 h2 h3
      have hs := effFrom_step (g := g.map ThV.th) (f := n - (k + 1)) (k := k) (xs := xs) (R := R) (by rw [show n - (k + 1) + 1 = n - k by omega]; exact HE.out)
      rw [priG_at hgi] at hs
      simp only [] at hs
      obtain ⟨x, hx, hcx, hfx, hqx⟩ := ownsI_at HO.out k hlt
      rw [upd_at hx] at hs
      have HS2 := Lib.hid hs
      have HO2 := Lib.hid (ownsI_set HO.out k (max x pri))
      clear ht hgi HD hs HE hx
      have hrg := chainG_rng (g.map ThV.th) k (by rw [HGL.out]; omega)
      rw [HGL.out] at hrg
      have HRG := Lib.hid hrg
      clear hrg
      obtain ⟨C, hC⟩ : ∃ C, C = chainG (g.map ThV.th) k := ⟨_, rfl⟩
      rw [← hC] at HRG HS2
      have HCE := Lib.hid hC
      clear hC
      go_wp2_with (first
        | go_region
        | (go_at_call 49
           refine (chain_any _ _ _ g k hlt (by omega) _ (HR.out.ext (Below.drew (Below.alloc (Below.setCell HB.out (Nat.le_refl _) _) (by simp; omega) _)))).mono ?_
           rw [← HCE.out]
           rintro e w2 ⟨a2, n2, c2, rfl, ho, hb2⟩
           have HB2 : Hid (Below w.heap.size w w2) := Lib.hid (Below.then (Below.drew (Below.alloc (Below.setCell HB.out (Nat.le_refl _) _) (by simp; omega) _)) hb2)
           have HO3 := Lib.hid (owns_ext (HO2.out.alloc _).drew hb2)
           have hct : w2.cell? ⟨wo.heap.size, 0, none⟩ = some (.int .i64 pri) := (hb2.cell (p := ⟨wo.heap.size, 0, none⟩) (by simp)).trans (by simp [go_sem])
           have hsz := hb2.size
           simp only [World.size_alloc, World.size_setCell, World.size_drew] at hsz ho
           have HC : Hid (w2.ownsRow (wo.heap.size + 1) 3 1 (.slice a2 n2 c2) n2 (C.flatMap enc1)) := Lib.hid ho
           have HL : Hid (C.length = n2) := Lib.hid (ownsI_rd ho).length
           have hs2 := (ownsI_rd ho).small
           clear ho hb2))
      clear hcx hfx hqx h1 h2 h3
      go_loopw [32] (fun i wi => ∃ (j : Nat) (ys : List Int), j ≤ n2 ∧ i = .int .i64 j ∧ effFrom (g.map ThV.th) (n - (k + 1)) (k + 1) ((C.drop j).foldl (upd pri) ys) = R ∧ wi.ownsRow w.heap.size 3 1 (.slice (some ⟨w.heap.size, 0, none⟩) n n) n (ys.flatMap enc1) ∧ wi.ownsRow (wo.heap.size + 1) 3 1 (.slice a2 n2 c2) n2 (C.flatMap enc1) ∧ wi.cell? ⟨wo.heap.size, 0, none⟩ = some (.int .i64 pri) ∧ wo.heap.size + 1 ≤ wi.heap.size ∧ Below w.heap.size w wi) (fun i _ => n2 - (intOf i).toNat)
      case atStart => exact ⟨0, _, Nat.zero_le _, rfl, HS2.out, HO3.out, HC.out, hct, hsz, HB2.out⟩
      case round =>
        obtain ⟨j, ys, hj, rfl, he, hown, hch, hct, hsz, hB⟩ := hrel
        have HE := Lib.hid he; have HO4 := Lib.hid hown; have HB4 := Lib.hid hB; have HC4 := Lib.hid hch
        clear he hown hB hch HO3 HS2 HC HO2
        by_cases hjl : j < n2
        · obtain ⟨y, b2, off2, rfl, hb2, hcy, HD⟩ := (ownsI_rd HC4.out).next1 j hjl
          have hyr := HRG.out y (List.mem_of_getElem? (get_of_drop HD.out))
          obtain ⟨m, rfl⟩ := Int.eq_ofNat_of_zero_le hyr.1
          have hmn : m < n := by omega
          obtain ⟨x, hx, hcx, hfx, hqx⟩ := ownsI_at HO4.out m hmn
          have hs := HE.out
          rw [HD.out, List.foldl_cons, upd_at hx] at hs
          have HS5 := Lib.hid hs
          have HO5 := Lib.hid (ownsI_set HO4.out m (max x pri))
          have HC5 := Lib.hid (owns_far (q := w.heap.size) (j := m) HC4.out (by omega) (.int .i64 (max x pri)))
          clear hs HE hyr hx
          go_wp2_with (first | go_region)
          go_roundw
          case rel => exact ⟨j + 1, _, by omega, by go_num, HS5.out, HO5.out, HC5.out, (World.cell?_setCell_other _ _ _ _ (fun q => by have := congrArg Addr.block q; simp only [] at this; omega)).trans hct, by simpa using hsz, by have := HB4.out.setCell (p := ⟨w.heap.size, m, none⟩) (Nat.le_refl _) (.int .i64 (max x pri)); first | exact this | exact this.drew⟩
          case measure => simp [intOf]; omega
        · have hjn : C.drop j = [] := drop_end HL.out (by omega)
          have HE5 : Hid (effFrom (g.map ThV.th) (n - (k + 1)) (k + 1) ys = R) := by have := HE.out; rw [hjn] at this; exact this
          clear hjn HE
          go_wp2
          go_roundw
          case rel => exact ⟨k + 1, ys, by omega, by go_num, HE5.out, HO4.out, by omega, HB4.out⟩
          case measure => simp [intOf]; omega
    · have hv : R = xs := by rw [← HE.out, show n - k = 0 by omega]; rfl
      subst hv
      go_wp2
      go_ret
      exact ⟨_, _, _, rfl, HO.out, HB.out⟩
/-- what Effective gives -/
def effR (g : List Th) : List Int × Int := if validG g then (effL g, 0) else ([], 1)
theorem Effective_any (a : Option Addr) (n c : Nat) (g : List ThV) (w : World) (hG : RdG w a n g) :
    Calls Try.prog 27 #[.slice a n c] w (OutIE w.heap.size w (effR (g.map ThV.th)).1 (effR (g.map ThV.th)).2) := by
  have hgl : (g.map ThV.th).length = n := by simp [hG.length]
  have HC := Lib.hid (valid_any a n c g w hG)
  have hl8 := fun h => validG_len (g := g.map ThV.th) h
  rw [hgl] at hl8
  have HR := Lib.hid hG; clear hG
  unfold effR
  generalize validG (g.map ThV.th) = V at *
  cases V
  · go_enter Try.func27, Try.ntmps27
    go_wp2_with (go_at_call 22; refine (HC.out).mono ?_; rintro e w1 ⟨rfl, hb1⟩; obtain ⟨hc1, hf1, hz1, hr1⟩ := bfacts hb1; (try simp only [World.size_alloc, World.size_setCell, World.size_drew, World.size_drewN] at hz1 hr1); (try have hw0 : w.heap.size < w1.heap.size := by omega); (try have hw1 : w.heap.size + 1 < w1.heap.size := by omega); (try have hw2 : w.heap.size + 1 + 1 < w1.heap.size := by omega))
    go_ret2
    exact .none (by (repeat' (first | (with_reducible exact Below.refl _ _) | (with_reducible assumption) | (with_reducible refine Below.alloc ?_ ?_ _) | (with_reducible refine Below.drew ?_) | (with_reducible refine Below.draws ?_ _) | (with_reducible refine Below.setCell ?_ ?_ _) | (refine Below.then ?_ (by with_reducible assumption)) | go_size)))
  · rw [if_pos rfl]
    have hn8 := hl8 rfl
    clear hgl hl8
    go_enter Try.func27, Try.ntmps27
    go_wp2_with (first | (go_at_call 22; refine (HC.out).mono ?_; rintro e w1 ⟨rfl, hb1⟩; obtain ⟨hc1, hf1, hz1, hr1⟩ := bfacts hb1; (try simp only [World.size_alloc, World.size_setCell, World.size_drew, World.size_drewN] at hz1 hr1); (try have hw0 : w.heap.size < w1.heap.size := by omega); (try have hw1 : w.heap.size + 1 < w1.heap.size := by omega); (try have hw2 : w.heap.size + 1 + 1 < w1.heap.size := by omega)) | (go_at_call 62; refine (effective_any _ _ _ g (by omega) _ (HR.out.ext hb1)).mono ?_; rintro e w2 ⟨a2, n2, c2, rfl, ho, hb2⟩; have HO := Lib.hid ho; have HB2 := Lib.hid hb2; clear ho hb2))
    go_ret2
    exact ⟨a2, n2, c2, rfl, owns_mono HO.out hb1.size, Below.then hb1 HB2.out⟩
end Go.Proofs.Ytmdjbnicjohkjaa
