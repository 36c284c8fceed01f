/- The contract of LetGo of the program. The conditions: the graph reads as named. -/
import Derived.Test.YtmdjbnicjohkjaaLkLetW
import Derived.StillTailTactics
namespace Go.Proofs.Ytmdjbnicjohkjaa
open Go.RowKit
set_option linter.unusedSimpArgs false
set_option linter.unusedVariables false
theorem peffective_is {a : Option Addr} {n c : Nat} {g : List ThV} {w : World} {G : List Th} (hv : validG G = true) (hG : RdG w a n g) (hg : g.map ThV.th = G) : Calls Try.prog 62 #[.slice a n c] w (OutN w.heap.size n 3 1 w ((effL G).flatMap enc1)) := by
  subst hg
  have h8 := validG_len hv
  have hl := hG.length
  have hn : n ≤ 1000 := by simp at h8; omega
  refine (effective_any a n c g hn w hG).mono ?_
  rintro e w' ⟨a', n', c', rfl, ho, hb⟩
  have h1 := (ownsI_rd ho).length
  rw [effL_len] at h1
  obtain rfl : n' = n := by simp at h1; omega
  exact ⟨_, _, rfl, ho, hb⟩
theorem still_tail_at {P : Program} {id : Nat} {Q : Exit → Act → World → Prop} {a : Act} {w wd : World} {l : List Oper} (n : Nat) (hwd : Hid (wd = w.drew)) (hm : P.follows .mixedOrders = true) (hB : Region.lexTailB .any l.toArray n = true)
    (h : wpStill P l.toArray wd (fun a' => wpList P l.toArray Q (l.drop n) a' wd) (l.take n) a) : (Code.region id l.toArray true).wp P Q a w := by
  have e := hwd.out
  subst e
  exact wp_region_still_tail n hm hB h
theorem blkAp_set {g : List ThV} {k : Nat} {t t' : ThV} (h : BlkAp g) (hk : g[k]? = some t) (hb : t'.blk = t.blk) : BlkAp (g.set k t') := by
  refine pair_of (fun i j x y hij hx hy => ?_)
  have f : ∀ {i : Nat} {x : ThV}, (g.set k t')[i]? = some x → ∃ u, g[i]? = some u ∧ u.blk = x.blk := by
    intro i x hx
    rcases get_set hx with ⟨rfl, rfl⟩ | ⟨_, h2⟩
    · exact ⟨t, hk, hb.symm⟩
    · exact ⟨x, h2, rfl⟩
  obtain ⟨u, hu, e1⟩ := f hx
  obtain ⟨v, hv, e2⟩ := f hy
  rw [← e1, ← e2]
  exact pair_get h hu hv hij
/-- a lock taken out of one thread's row, in its place -/
theorem del_own {B b k n c bt m : Nat} {w4 w5 : World} {g2 : List ThV} {t : ThV} {e : Ending} {ys : List Int} (hO : OwnG 52 B w4 (some ⟨b, 0, none⟩) n c g2) (hap : BlkAp g2) (hk : g2[k]? = some t) (hta : t.a = some ⟨bt, 0, none⟩)
    (h : DelP B w4 bt m t.c ys e w5) (hBb : B ≤ b) (hBw : B ≤ w4.heap.size) :
    OwnG 52 B (w5.setCell ⟨b, k * 3 + 1, none⟩ (.slice (some ⟨bt, 0, none⟩) m t.c)) (some ⟨b, 0, none⟩) n c (g2.set k ⟨t.pri, some ⟨bt, 0, none⟩, m, t.c, t.waits, ys⟩) ∧ Below B w4 (w5.setCell ⟨b, k * 3 + 1, none⟩ (.slice (some ⟨bt, 0, none⟩) m t.c)) ∧ BlkAp (g2.set k ⟨t.pri, some ⟨bt, 0, none⟩, m, t.c, t.waits, ys⟩) ∧ w5.cell? ⟨b, k * 3 + 1, none⟩ = some (.slice t.a t.n t.c) ∧ w5.frozen? ⟨b, k * 3 + 1, none⟩ = false := by
  obtain ⟨rfl, hn, hg⟩ := h
  have ht := hO.ok t (List.mem_of_getElem? hk)
  have hbk : (Value.slice t.a t.n t.c).ownBlock = some bt := by rw [hta]; rfl
  rw [← hbk] at hg
  have ho1 := owns_kept hO.own ht (by decide) hg
  have hs := ho1.stored (k * 3 + 1) (.slice (some ⟨bt, 0, none⟩) m t.c)
  rw [flat_setH _ k t _ _ _ ys hk] at hs
  refine ⟨⟨hs.1, fun u hu => ?_⟩, ?_, blkAp_set hap hk ?_, (owns3_at ho1 hk).2.1, ho1.frozenAt _⟩
  · rcases mem_set hu with rfl | ⟨j, hj, hju⟩
    · exact owns_kept (B := B) (show ThO B w5 ⟨t.pri, some ⟨bt, 0, none⟩, m, t.c, t.waits, ys⟩ from hn) ho1 (by decide) hs.2
    · have hu1 : ThO B w5 u := World.ownsRow.kept (hO.ok u (List.mem_of_getElem? hju)) hg (blk_ne hap hju hk hj)
      exact owns_kept hu1 ho1 (by decide) hs.2
  · refine Below.setCell (p := ⟨b, k * 3 + 1, none⟩) ((Below.refl B w4).grown hg hBw (fun j hj => (ThO.low ht j hj).1)) hBb _
  · unfold ThV.blk; rw [hbk]; rfl
theorem DelP.mono {B B' : Nat} {w w' : World} {b n c : Nat} {xs : List Int} {e : Ending} (h : DelP B w b n c xs e w') (hB : B' ≤ B) : DelP B' w b n c xs e w' := ⟨h.1, owns_mono h.2.1 hB, h.2.2⟩
set_option maxRecDepth 10000 in
set_option maxHeartbeats 8000000 in
theorem Let_any (a : Option Addr) (n c : Nat) (g : List ThV) (G : List Th) (t l : Int) (w : World) (hG : RdG w a n g) (hg : g.map ThV.th = G) (hH : ∀ t ∈ g, t.n ≤ 1000) :
    Calls Try.prog 33 #[.slice a n c, .int .i64 t, .int .i64 l] w (OutL 52 w.heap.size w (letR G t l).1 (letR G t l).2.1 (letR G t l).2.2) := by
  have hgl : G.length = n := by rw [← hg]; simp [hG.length]
  have HR := Lib.hid hG; have Hg := Lib.hid hg; have HH := Lib.hid hH
  obtain ⟨R, hRR⟩ : ∃ R, letR G t l = R := ⟨_, rfl⟩
  rw [hRR]
  unfold letR at hRR
  cases ht : isTh G t
  · rw [ht] at hRR
    have hr : R = ([], 0, 1) := by rw [← hRR]; rfl
    subst hr
    have HT := Lib.hid ht
    clear hRR ht hG hg hgl hH
    go_enter Try.func33, Try.ntmps33
    go_wp2_with (first
      | (go_at_call 48; (with_reducible refine (isThread_is (HR.out.ext (by repeat' (first | (with_reducible exact Below.refl _ _) | (with_reducible assumption) | (with_reducible refine Below.alloc ?_ ?_ _) | (with_reducible refine Below.drew ?_) | (with_reducible refine Below.draws ?_ _) | (with_reducible refine Below.setCell ?_ ?_ _) | (refine Below.then ?_ (Hid.out (by with_reducible assumption))) | (refine Below.then ?_ (by with_reducible assumption)) | go_size))) Hg.out HT.out).mono ?_); rintro e w1 ⟨rfl, hb1⟩; have W1 : Hid (Below w.heap.size w w1) := Lib.hid (Below.trans (by repeat' (first | (with_reducible exact Below.refl _ _) | (with_reducible assumption) | (with_reducible refine Below.alloc ?_ ?_ _) | (with_reducible refine Below.drew ?_) | (with_reducible refine Below.draws ?_ _) | (with_reducible refine Below.setCell ?_ ?_ _) | (refine Below.then ?_ (Hid.out (by with_reducible assumption))) | (refine Below.then ?_ (by with_reducible assumption)) | go_size)) (hb1.mono (by simp))); clear hb1))
    refine bodyPost_ret (results_tmp3 rfl _ _ _) rfl ?_
    exact .none W1.out
  · obtain ⟨hv, ht0, htn⟩ := isTh_iff.1 ht
    have hn8 := validG_len hv
    rw [hgl] at htn hn8
    obtain ⟨k, rfl⟩ := Int.eq_ofNat_of_zero_le ht0
    have hk : k < n := by omega
    have HT := Lib.hid ht
    have HV := Lib.hid hv
    obtain ⟨⟨pri, ta, tn, tc, waits, holds⟩, b, off, rfl, hb, h1, h2, h3, hok, hgi, _⟩ := hG.at_ k hk
    simp only [] at h1 h2 h3
    have h3' : ∀ (w1 : World), Below w.heap.size w w1 → w1.cell? ⟨b, off + k * 3 + 2, none⟩ = some (.int .i64 waits) := fun _ h => (h.cell (p := ⟨b, off + k * 3 + 2, none⟩) hb).trans h3
    have h2' : ∀ (w1 : World), Below w.heap.size w w1 → w1.cell? ⟨b, off + k * 3 + 1, none⟩ = some (.slice ta tn tc) := fun _ h => (h.cell (p := ⟨b, off + k * 3 + 1, none⟩) hb).trans h2
    have H2 := Lib.hid h2'
    have H3 := Lib.hid h3'
    cases hl : inB l 0 5
    · rw [ht, hl] at hRR
      have hr : R = ([], 0, 1) := by rw [← hRR]; rfl
      subst hr
      have HL := Lib.hid hl
      clear hRR ht hG hg hgl hl hv ht0 htn hH hok hgi h1 h2 h3 h2' h3'
      go_enter Try.func33, Try.ntmps33
      go_wp2_with (first
        | (go_at_call 48; (with_reducible refine (isThread_is (HR.out.ext (by repeat' (first | (with_reducible exact Below.refl _ _) | (with_reducible assumption) | (with_reducible refine Below.alloc ?_ ?_ _) | (with_reducible refine Below.drew ?_) | (with_reducible refine Below.draws ?_ _) | (with_reducible refine Below.setCell ?_ ?_ _) | (refine Below.then ?_ (Hid.out (by with_reducible assumption))) | (refine Below.then ?_ (by with_reducible assumption)) | go_size))) Hg.out HT.out).mono ?_); rintro e w1 ⟨rfl, hb1⟩; have W1 : Hid (Below w.heap.size w w1) := Lib.hid (Below.trans (by repeat' (first | (with_reducible exact Below.refl _ _) | (with_reducible assumption) | (with_reducible refine Below.alloc ?_ ?_ _) | (with_reducible refine Below.drew ?_) | (with_reducible refine Below.draws ?_ _) | (with_reducible refine Below.setCell ?_ ?_ _) | (refine Below.then ?_ (Hid.out (by with_reducible assumption))) | (refine Below.then ?_ (by with_reducible assumption)) | go_size)) (hb1.mono (by simp))); have hz1 : w.heap.size < w1.heap.size := (by have := hb1.size; simp at this; omega); have x1 : w1.cell? ⟨w.heap.size, 0, none⟩ = some (.int .i64 l) := (hb1.cell (p := ⟨w.heap.size, 0, none⟩) (by simp)).trans (by simp [go_sem]); have d2 := H2.out _ W1.out; have d3 := H3.out _ W1.out; have hbw1 : b < w1.heap.size := Nat.lt_of_lt_of_le hb W1.out.size; clear hb1)
        | (go_at_call 54; refine (isLock_is HL.out).mono ?_; rintro e w1 ⟨rfl, rfl⟩))
      refine bodyPost_ret (results_tmp3 rfl _ _ _) rfl ?_
      exact .none W1.out
    · rw [ht, hl] at hRR
      rw [show (true && true) = true from rfl, if_pos rfl, Int.toNat_natCast] at hRR
      have HL := Lib.hid hl
      have hth : thAt G k = ⟨pri, holds, waits⟩ := by rw [← hg, thAt_of hgi]; rfl
      rw [hth] at hRR
      simp only [] at hRR
      have HT1 : Hid (Rd w ta tn 1 (holds.map enc1)) := Lib.hid hok.1
      have HGI := Lib.hid hgi
      have hasc := valid_asc hv (t := ⟨pri, holds, waits⟩) (by rw [← hg]; exact List.mem_map.2 ⟨_, List.mem_of_getElem? hgi, rfl⟩)
      have HASC : Hid (Asc holds) := Lib.hid hasc
      clear ht hG hg hl hv ht0 htn hH hok hgi hth h1 h2 h3 h2' h3'
      by_cases hw : 0 ≤ waits
      · rw [if_pos (.inl hw)] at hRR
        subst hRR
        go_enter Try.func33, Try.ntmps33
        go_wp2_with (first
          | (go_at_call 48; (with_reducible refine (isThread_is (HR.out.ext (by repeat' (first | (with_reducible exact Below.refl _ _) | (with_reducible assumption) | (with_reducible refine Below.alloc ?_ ?_ _) | (with_reducible refine Below.drew ?_) | (with_reducible refine Below.draws ?_ _) | (with_reducible refine Below.setCell ?_ ?_ _) | (refine Below.then ?_ (Hid.out (by with_reducible assumption))) | (refine Below.then ?_ (by with_reducible assumption)) | go_size))) Hg.out HT.out).mono ?_); rintro e w1 ⟨rfl, hb1⟩; have W1 : Hid (Below w.heap.size w w1) := Lib.hid (Below.trans (by repeat' (first | (with_reducible exact Below.refl _ _) | (with_reducible assumption) | (with_reducible refine Below.alloc ?_ ?_ _) | (with_reducible refine Below.drew ?_) | (with_reducible refine Below.draws ?_ _) | (with_reducible refine Below.setCell ?_ ?_ _) | (refine Below.then ?_ (Hid.out (by with_reducible assumption))) | (refine Below.then ?_ (by with_reducible assumption)) | go_size)) (hb1.mono (by simp))); have hz1 : w.heap.size < w1.heap.size := (by have := hb1.size; simp at this; omega); have x1 : w1.cell? ⟨w.heap.size, 0, none⟩ = some (.int .i64 l) := (hb1.cell (p := ⟨w.heap.size, 0, none⟩) (by simp)).trans (by simp [go_sem]); have d2 := H2.out _ W1.out; have d3 := H3.out _ W1.out; have hbw1 : b < w1.heap.size := Nat.lt_of_lt_of_le hb W1.out.size; clear hb1)
          | (go_at_call 54; refine (isLock_is HL.out).mono ?_; rintro e w1 ⟨rfl, rfl⟩)
          | (refine wp_region_later_lit (by kernel_rfl) (by kernel_rfl) ?_; (repeat (go_big_quiet_step (fail))); refine wpQuiet_nil ?_; intro w2 hb2))
        refine bodyPost_ret (results_tmp3 rfl _ _ _) rfl ?_
        exact .none (Below.then W1.out hb2)
      · have hw' : decide (0 ≤ waits) = false := by simpa using hw
        cases hh : hasB holds l
        · have HH1 := Lib.hid hh
          rw [if_pos (.inr hh)] at hRR
          subst hRR
          clear hh
          go_enter Try.func33, Try.ntmps33
          go_wp2_with (first
          | (go_at_call 48; (with_reducible refine (isThread_is (HR.out.ext (by repeat' (first | (with_reducible exact Below.refl _ _) | (with_reducible assumption) | (with_reducible refine Below.alloc ?_ ?_ _) | (with_reducible refine Below.drew ?_) | (with_reducible refine Below.draws ?_ _) | (with_reducible refine Below.setCell ?_ ?_ _) | (refine Below.then ?_ (Hid.out (by with_reducible assumption))) | (refine Below.then ?_ (by with_reducible assumption)) | go_size))) Hg.out HT.out).mono ?_); rintro e w1 ⟨rfl, hb1⟩; have W1 : Hid (Below w.heap.size w w1) := Lib.hid (Below.trans (by repeat' (first | (with_reducible exact Below.refl _ _) | (with_reducible assumption) | (with_reducible refine Below.alloc ?_ ?_ _) | (with_reducible refine Below.drew ?_) | (with_reducible refine Below.draws ?_ _) | (with_reducible refine Below.setCell ?_ ?_ _) | (refine Below.then ?_ (Hid.out (by with_reducible assumption))) | (refine Below.then ?_ (by with_reducible assumption)) | go_size)) (hb1.mono (by simp))); have hz1 : w.heap.size < w1.heap.size := (by have := hb1.size; simp at this; omega); have x1 : w1.cell? ⟨w.heap.size, 0, none⟩ = some (.int .i64 l) := (hb1.cell (p := ⟨w.heap.size, 0, none⟩) (by simp)).trans (by simp [go_sem]); have d2 := H2.out _ W1.out; have d3 := H3.out _ W1.out; have hbw1 : b < w1.heap.size := Nat.lt_of_lt_of_le hb W1.out.size; clear hb1)
          | (go_at_call 54; refine (isLock_is HL.out).mono ?_; rintro e w1 ⟨rfl, rfl⟩)
          | (refine wp_region_later_lit (by kernel_rfl) (by kernel_rfl) ?_; (repeat (go_big_quiet_step ((go_at_call 60; exact later_same (contains_is (later_rd HT1.out W1.out) HH1.out))))); refine wpQuiet_nil ?_; intro w2 hb2))
          refine bodyPost_ret (results_tmp3 rfl _ _ _) rfl ?_
          exact .none (Below.then W1.out hb2)
        · have HH1 := Lib.hid hh
          rw [if_neg (by rw [hh]; simp; omega)] at hRR
          obtain ⟨B, hB⟩ : ∃ B, toG G l = B := ⟨_, rfl⟩
          have HTI := Lib.hid (toInv G l)
          rw [hB] at HTI hRR
          obtain ⟨L, hL⟩ : ∃ L, effL G = L := ⟨_, rfl⟩
          have hLl : L.length = n := by rw [← hL, effL_len, hgl]
          have HLL := Lib.hid hL
          have HST : Hid (toFrom G L l (n - 0) 0 (-1) = B) := Lib.hid (by rw [← hB, ← hL, toG, hgl]; rfl)
          obtain ⟨i0, hi1, hi2, hi3, hi4⟩ := cut_out hasc.1 (hasB_iff.1 hh)
          have HI1 := Lib.hid hi1; have HI3 := Lib.hid hi3; have HI4 := Lib.hid hi4
          clear hB hh hL hi1 hi3 hi4 hasc
          go_enter Try.func33, Try.ntmps33
          go_wp2_with (first
            | (go_at_call 48; (with_reducible refine (isThread_is (HR.out.ext (by repeat' (first | (with_reducible exact Below.refl _ _) | (with_reducible assumption) | (with_reducible refine Below.alloc ?_ ?_ _) | (with_reducible refine Below.drew ?_) | (with_reducible refine Below.draws ?_ _) | (with_reducible refine Below.setCell ?_ ?_ _) | (refine Below.then ?_ (Hid.out (by with_reducible assumption))) | (refine Below.then ?_ (by with_reducible assumption)) | go_size))) Hg.out HT.out).mono ?_); rintro e w1 ⟨rfl, hb1⟩; have W1 : Hid (Below w.heap.size w w1) := Lib.hid (Below.trans (by repeat' (first | (with_reducible exact Below.refl _ _) | (with_reducible assumption) | (with_reducible refine Below.alloc ?_ ?_ _) | (with_reducible refine Below.drew ?_) | (with_reducible refine Below.draws ?_ _) | (with_reducible refine Below.setCell ?_ ?_ _) | (refine Below.then ?_ (Hid.out (by with_reducible assumption))) | (refine Below.then ?_ (by with_reducible assumption)) | go_size)) (hb1.mono (by simp))); have hz1 : w.heap.size < w1.heap.size := (by have := hb1.size; simp at this; omega); have x1 : w1.cell? ⟨w.heap.size, 0, none⟩ = some (.int .i64 l) := (hb1.cell (p := ⟨w.heap.size, 0, none⟩) (by simp)).trans (by simp [go_sem]); have d2 := H2.out _ W1.out; have d3 := H3.out _ W1.out; have hbw1 : b < w1.heap.size := Nat.lt_of_lt_of_le hb W1.out.size; clear hb1)
            | (go_at_call 54; refine (isLock_is HL.out).mono ?_; rintro e w1 ⟨rfl, rfl⟩)
            | ((refine wp_region_later_lit (by kernel_rfl) (by kernel_rfl) ?_; (repeat (go_big_quiet_step ((go_at_call 60; exact later_same (contains_is (later_rd HT1.out W1.out) HH1.out))))); refine wpQuiet_nil ?_; intro w2 hb2); have W2 := Lib.hid (Below.then W1.out hb2); have hz2 : w.heap.size < w2.heap.size := Nat.lt_of_lt_of_le hz1 hb2.size; have x2 := (hb2.cell (p := ⟨w.heap.size, 0, none⟩) hz1).trans x1; clear hb2)
            | (go_at_call 62; (with_reducible refine (peffective_is HV.out (HR.out.ext W2.out) Hg.out).mono ?_); rw [HLL.out]; rintro e w3 ⟨a3, c3, rfl, ho3, hb3⟩; have HO := Lib.hid (ownsI_rd ho3); have W3 := Lib.hid (Below.then W2.out hb3); have hz3 : w.heap.size < w3.heap.size := Nat.lt_of_lt_of_le hz2 hb3.size; have x3 := (hb3.cell (p := ⟨w.heap.size, 0, none⟩) hz2).trans x2; clear ho3 hb3))
          clear d2 d3 x1 x2
          have X3 := Lib.hid x3
          clear x3
          go_loopw [9, 43] (fun v i wr => ∃ (k : Nat) (bst : Int), k ≤ n ∧ v = .int .i64 bst ∧ i = .int .i64 k ∧ -1 ≤ bst ∧ bst < n ∧ toFrom G L l (n - k) k bst = B ∧ Below w3.heap.size w3 wr) (fun _ i _ => n - (intOf i).toNat)
          case atStart => exact ⟨0, -1, Nat.zero_le _, rfl, rfl, by omega, by omega, HST.out, by (repeat' (first | (with_reducible exact Below.refl _ _) | (with_reducible assumption) | (with_reducible refine Below.alloc ?_ ?_ _) | (with_reducible refine Below.drew ?_) | (with_reducible refine Below.draws ?_ _) | (with_reducible refine Below.setCell ?_ ?_ _) | (refine Below.then ?_ (by with_reducible assumption)) | go_size))⟩
          case round =>
            obtain ⟨q, bst, hq, rfl, rfl, hb1, hb2, he, hB⟩ := hrel
            have HE := Lib.hid he; have HB := Lib.hid hB
            have hzr : w.heap.size < wr.heap.size := Nat.lt_of_lt_of_le hz3 hB.size
            have xr := (hB.cell (p := ⟨w.heap.size, 0, none⟩) hz3).trans X3.out
            clear he hB
            by_cases hlt : q < n
            · obtain ⟨⟨pri2, ta2, tn2, tc2, waits2, holds2⟩, b3, off3, e3, hb3, h1, h2, h3, ht, hgi, HD⟩ := (HR.out.ext (Below.then W3.out HB.out)).at_ q hlt
              simp only [] at h1 h2 h3
              simp at e3
              obtain ⟨rfl, rfl⟩ := e3
              obtain ⟨x, bl, ol, rfl, hbl, hcx, hx⟩ := (HO.out.ext HB.out).idx q hlt
              have hs := toFrom_step (f := n - (q + 1)) (k := q) (b := bst) (G := G) (L := L) (l := l) (R := B) (by rw [show n - (q + 1) + 1 = n - q by omega]; exact HE.out)
              rw [toStep_at Hg.out hgi, valAt_of hx] at hs
              simp only [] at hs
              have HS := Lib.hid hs
              clear hs ht hgi HD hx HE
              by_cases p0 : waits2 = l
              · subst p0
                by_cases p1 : bst < 0
                · have HS2 : Hid (toFrom G L waits2 (n - (q + 1)) (q + 1) q = B) := by have := HS.out; rw [if_pos ⟨rfl, .inl p1⟩] at this; exact Lib.hid this
                  clear HS
                  go_wp2_with (refine wp_region_later_lit (by kernel_rfl) (by kernel_rfl) ?_; (repeat (go_big_quiet_step (fail))); refine wpQuiet_nil ?_; intro w1 hb1; obtain ⟨hc1, hf1, hz1, hr1⟩ := bfacts hb1; (try simp only [World.size_alloc, World.size_setCell, World.size_drew, World.size_drewN] at hz1 hr1); (try have hw0 : w.heap.size < w1.heap.size := by omega); (try have hw1 : w.heap.size + 1 < w1.heap.size := by omega); (try have hw2 : w.heap.size + 1 + 1 < w1.heap.size := by omega))
                  go_roundw
                  case rel => exact ⟨q + 1, q, by omega, rfl, by go_num, by omega, by omega, HS2.out, Below.then HB.out (by (repeat' (first | (with_reducible exact Below.refl _ _) | (with_reducible assumption) | (with_reducible refine Below.alloc ?_ ?_ _) | (with_reducible refine Below.drew ?_) | (with_reducible refine Below.draws ?_ _) | (with_reducible refine Below.setCell ?_ ?_ _) | (refine Below.then ?_ (by with_reducible assumption)) | go_size)))⟩
                  case measure => simp [intOf]; omega
                · obtain ⟨y, rfl⟩ := Int.eq_ofNat_of_zero_le (show 0 ≤ bst by omega)
                  obtain ⟨z, bl2, ol2, e2, hbl2, hcz, hz⟩ := (HO.out.ext HB.out).idx y (by omega)
                  simp at e2
                  obtain ⟨rfl, rfl⟩ := e2
                  rw [valAt_of hz] at HS
                  clear hz
                  have q1 : decide ((y : Int) < 0) = false := by simp
                  by_cases p2 : z < x
                  · have HS2 : Hid (toFrom G L waits2 (n - (q + 1)) (q + 1) q = B) := by have := HS.out; rw [if_pos ⟨rfl, .inr p2⟩] at this; exact Lib.hid this
                    clear HS
                    go_wp2_with (refine wp_region_later_lit (by kernel_rfl) (by kernel_rfl) ?_; (repeat (go_big_quiet_step (fail))); refine wpQuiet_nil ?_; intro w1 hb1; obtain ⟨hc1, hf1, hz1, hr1⟩ := bfacts hb1; (try simp only [World.size_alloc, World.size_setCell, World.size_drew, World.size_drewN] at hz1 hr1); (try have hw0 : w.heap.size < w1.heap.size := by omega); (try have hw1 : w.heap.size + 1 < w1.heap.size := by omega); (try have hw2 : w.heap.size + 1 + 1 < w1.heap.size := by omega))
                    go_roundw
                    case rel => exact ⟨q + 1, q, by omega, rfl, by go_num, by omega, by omega, HS2.out, Below.then HB.out (by (repeat' (first | (with_reducible exact Below.refl _ _) | (with_reducible assumption) | (with_reducible refine Below.alloc ?_ ?_ _) | (with_reducible refine Below.drew ?_) | (with_reducible refine Below.draws ?_ _) | (with_reducible refine Below.setCell ?_ ?_ _) | (refine Below.then ?_ (by with_reducible assumption)) | go_size)))⟩
                    case measure => simp [intOf]; omega
                  · have HS2 : Hid (toFrom G L waits2 (n - (q + 1)) (q + 1) y = B) := by have := HS.out; rw [if_neg (by omega)] at this; exact Lib.hid this
                    clear HS
                    have q2 : decide (z < x) = false := by simpa using p2
                    go_wp2_with (refine wp_region_later_lit (by kernel_rfl) (by kernel_rfl) ?_; (repeat (go_big_quiet_step (fail))); refine wpQuiet_nil ?_; intro w1 hb1; obtain ⟨hc1, hf1, hz1, hr1⟩ := bfacts hb1; (try simp only [World.size_alloc, World.size_setCell, World.size_drew, World.size_drewN] at hz1 hr1); (try have hw0 : w.heap.size < w1.heap.size := by omega); (try have hw1 : w.heap.size + 1 < w1.heap.size := by omega); (try have hw2 : w.heap.size + 1 + 1 < w1.heap.size := by omega))
                    go_roundw
                    case rel => exact ⟨q + 1, y, by omega, rfl, by go_num, by omega, by omega, HS2.out, Below.then HB.out (by (repeat' (first | (with_reducible exact Below.refl _ _) | (with_reducible assumption) | (with_reducible refine Below.alloc ?_ ?_ _) | (with_reducible refine Below.drew ?_) | (with_reducible refine Below.draws ?_ _) | (with_reducible refine Below.setCell ?_ ?_ _) | (refine Below.then ?_ (by with_reducible assumption)) | go_size)))⟩
                    case measure => simp [intOf]; omega
              · have HS2 : Hid (toFrom G L l (n - (q + 1)) (q + 1) bst = B) := by have := HS.out; rw [if_neg (fun h => p0 h.1)] at this; exact Lib.hid this
                clear HS
                have q2 : (waits2 == l) = false := by simpa using p0
                go_wp2_with (refine wp_region_later_lit (by kernel_rfl) (by kernel_rfl) ?_; (repeat (go_big_quiet_step (fail))); refine wpQuiet_nil ?_; intro w1 hb1; obtain ⟨hc1, hf1, hz1, hr1⟩ := bfacts hb1; (try simp only [World.size_alloc, World.size_setCell, World.size_drew, World.size_drewN] at hz1 hr1); (try have hw0 : w.heap.size < w1.heap.size := by omega); (try have hw1 : w.heap.size + 1 < w1.heap.size := by omega); (try have hw2 : w.heap.size + 1 + 1 < w1.heap.size := by omega))
                go_roundw
                case rel => exact ⟨q + 1, bst, by omega, rfl, by go_num, by omega, by omega, HS2.out, Below.then HB.out (by (repeat' (first | (with_reducible exact Below.refl _ _) | (with_reducible assumption) | (with_reducible refine Below.alloc ?_ ?_ _) | (with_reducible refine Below.drew ?_) | (with_reducible refine Below.draws ?_ _) | (with_reducible refine Below.setCell ?_ ?_ _) | (refine Below.then ?_ (by with_reducible assumption)) | go_size)))⟩
                case measure => simp [intOf]; omega
            · have hv : bst = B := by have := HE.out; rw [show n - q = 0 by omega] at this; exact this
              subst hv
              have WR := Lib.hid (Below.then W3.out HB.out)
              by_cases hr : bst < 0
              · rw [if_pos hr] at hRR
                subst hRR
                go_wp2_with (first
                | (go_at_call 64; (with_reducible refine (copied_is (by omega) (by omega) HH.out (HR.out.ext WR.out) Hg.out).mono ?_); rintro e w4 ⟨a4, c4, g2, rfl, ho4, hg2, hap2, hb4⟩; have HO4 := Lib.hid ho4; have HG2 := Lib.hid hg2; have HAP := Lib.hid hap2; have W4 := Lib.hid (Below.then WR.out hb4); (obtain ⟨b2, rfl, hq1, hq2⟩ := owns_addr ho4.own (by omega))
                   have hz4 := hb4.size
                   have x4 := (hb4.cell (p := ⟨w.heap.size, 0, none⟩) hzr).trans xr
                   obtain ⟨⟨pri4, at4, tn4, tc4, waits4, holds4⟩, ht2, e2⟩ := th_back HG2.out (thAt_get Hg.out HGI.out)
                   obtain rfl : pri4 = pri := congrArg Th.pri e2
                   obtain rfl : holds4 = holds := congrArg Th.holds e2
                   obtain rfl : waits4 = waits := congrArg Th.waits e2
                   have f3 := (owns3_at HO4.out.own ht2).2.1
                   simp only [] at f3
                   have htk := HO4.out.ok _ (List.mem_of_getElem? ht2)
                   have htl : holds4.length = tn4 := (ownsI_rd htk).length
                   obtain ⟨bt, rfl, ht5, ht6⟩ := owns_addr htk (show 0 < tn4 by omega)
                   have HTK : Hid (w4.ownsRow wr.heap.size 3 1 (.slice (some ⟨bt, 0, none⟩) tn4 tc4) tn4 (holds4.flatMap enc1)) := Lib.hid htk
                   have HT2 := Lib.hid ht2
                   clear ho4 hg2 hap2 hb4 ht2 e2 htk)
                | (go_at_call 68; (with_reducible refine (del_any wr.heap.size bt tn4 tc4 i0 holds4 l w.heap.size _ (by have := asc_len HASC.out; omega) HTK.out (by omega) (by omega) x4 HI1.out (by omega) HI4.out).mono ?_); rw [HI3.out]; rintro e w5 hd; have HDP := Lib.hid hd
                   have HDO := Lib.hid (del_own HO4.out HAP.out HT2.out rfl hd hq1 hz4)
                   obtain ⟨rfl, _, hg5⟩ := hd
                   have f5 := HDO.out.2.2.2.1
                   have f6 := HDO.out.2.2.2.2
                   simp only [] at f5
                   have hz5 := hg5.size
                   have W5 := Lib.hid (W4.out.trans (HDO.out.2.1.mono WR.out.size))
                   have x5 : (w5.setCell ⟨b2, k * 3 + 1, none⟩ (.slice (some ⟨bt, 0, none⟩) (tn4 - 1) tc4)).cell? ⟨w.heap.size, 0, none⟩ = some (.int .i64 l) := (HDO.out.2.1.cell (p := ⟨w.heap.size, 0, none⟩) hzr).trans x4
                   clear hg5))
                refine bodyPost_ret (results_tmp3 rfl _ _ _) rfl ?_
                exact ⟨_, _, _, _, rfl, HDO.out.1.mono WR.out.size, by rw [map_set_th, HG2.out]; rfl, W5.out⟩
              · rw [if_neg hr] at hRR
                obtain ⟨y, rfl⟩ := Int.eq_ofNat_of_zero_le (Int.not_lt.1 hr)
                rw [Int.toNat_natCast] at hRR
                have hy : y < n := by omega
                obtain ⟨⟨pri3, holds3, waits3⟩, hx0, hxw⟩ := HTI.out.at_ (by omega)
                rw [Int.toNat_natCast] at hx0
                simp only [] at hxw
                have hl0 := inB_iff.1 HL.out
                have hyk : y ≠ k := by
                  rintro rfl
                  rw [thAt_get Hg.out HGI.out] at hx0
                  have : waits = waits3 := congrArg Th.waits (Option.some.inj hx0)
                  omega
                rw [show thAt G y = ⟨pri3, holds3, waits3⟩ by rw [thAt, hx0]; rfl] at hRR
                simp only [] at hRR
                subst hRR
                have HX0 := Lib.hid hx0
                have HASC3 : Hid (Asc holds3) := Lib.hid (valid_asc HV.out (List.mem_of_getElem? hx0))
                clear hx0 hxw
                go_wp2_with (first
                | (go_at_call 64; (with_reducible refine (copied_is (by omega) (by omega) HH.out (HR.out.ext WR.out) Hg.out).mono ?_); rintro e w4 ⟨a4, c4, g2, rfl, ho4, hg2, hap2, hb4⟩; have HO4 := Lib.hid ho4; have HG2 := Lib.hid hg2; have HAP := Lib.hid hap2; have W4 := Lib.hid (Below.then WR.out hb4); (obtain ⟨b2, rfl, hq1, hq2⟩ := owns_addr ho4.own (by omega))
                   have hz4 := hb4.size
                   have x4 := (hb4.cell (p := ⟨w.heap.size, 0, none⟩) hzr).trans xr
                   obtain ⟨⟨pri4, at4, tn4, tc4, waits4, holds4⟩, ht2, e2⟩ := th_back HG2.out (thAt_get Hg.out HGI.out)
                   obtain rfl : pri4 = pri := congrArg Th.pri e2
                   obtain rfl : holds4 = holds := congrArg Th.holds e2
                   obtain rfl : waits4 = waits := congrArg Th.waits e2
                   have f3 := (owns3_at HO4.out.own ht2).2.1
                   simp only [] at f3
                   have htk := HO4.out.ok _ (List.mem_of_getElem? ht2)
                   have htl : holds4.length = tn4 := (ownsI_rd htk).length
                   obtain ⟨bt, rfl, ht5, ht6⟩ := owns_addr htk (show 0 < tn4 by omega)
                   have HTK : Hid (w4.ownsRow wr.heap.size 3 1 (.slice (some ⟨bt, 0, none⟩) tn4 tc4) tn4 (holds4.flatMap enc1)) := Lib.hid htk
                   have HT2 := Lib.hid ht2
                   clear ho4 hg2 hap2 hb4 ht2 e2 htk)
                | (go_at_call 68; (with_reducible refine (del_any wr.heap.size bt tn4 tc4 i0 holds4 l w.heap.size _ (by have := asc_len HASC.out; omega) HTK.out (by omega) (by omega) x4 HI1.out (by omega) HI4.out).mono ?_); rw [HI3.out]; rintro e w5 hd; have HDP := Lib.hid hd
                   have HDO := Lib.hid (del_own HO4.out HAP.out HT2.out rfl hd hq1 hz4)
                   obtain ⟨rfl, _, hg5⟩ := hd
                   have f5 := HDO.out.2.2.2.1
                   have f6 := HDO.out.2.2.2.2
                   simp only [] at f5
                   have hz5 := hg5.size
                   have W5 := Lib.hid (W4.out.trans (HDO.out.2.1.mono WR.out.size))
                   have x5 : (w5.setCell ⟨b2, k * 3 + 1, none⟩ (.slice (some ⟨bt, 0, none⟩) (tn4 - 1) tc4)).cell? ⟨w.heap.size, 0, none⟩ = some (.int .i64 l) := (HDO.out.2.1.cell (p := ⟨w.heap.size, 0, none⟩) hzr).trans x4
                   clear hg5
                   obtain ⟨⟨pri8, ta8, tn8, tc8, waits8, holds8⟩, ht3, e3⟩ := th_back HG2.out HX0.out
                   obtain rfl : pri8 = pri3 := congrArg Th.pri e3
                   obtain rfl : holds8 = holds3 := congrArg Th.holds e3
                   have hs3 : (g2.set k ⟨pri4, some ⟨bt, 0, none⟩, tn4 - 1, tc4, waits4, outL holds4 l⟩)[y]? = some ⟨pri8, ta8, tn8, tc8, waits8, holds8⟩ := by rw [List.getElem?_set, if_neg (fun q => hyk q.symm)]; exact ht3
                   have f7 := (owns3_at HDO.out.1.own hs3).2.2
                   have f8 := HDO.out.1.own.frozenAt (y * 3 + 2)
                   have HW := Lib.hid (wait_own (x := -1) (by decide) HDO.out.1 hs3 hq1 (Nat.le_trans hz4 HDO.out.2.1.size))
                   have HS3 := Lib.hid hs3
                   have x6 := (HW.out.2.cell (p := ⟨w.heap.size, 0, none⟩) hzr).trans x5
                   clear ht3 e3 hs3))
                have hs4 : ((g2.set k ⟨pri4, some ⟨bt, 0, none⟩, tn4 - 1, tc4, waits4, outL holds4 l⟩).set y ⟨pri8, ta8, tn8, tc8, -1, holds8⟩)[y]? = some ⟨pri8, ta8, tn8, tc8, -1, holds8⟩ := by
                  rw [List.getElem?_set, if_pos rfl, if_pos (List.getElem?_eq_some_iff.1 HS3.out).1]
                have HS4 := Lib.hid hs4
                have HAP4 := Lib.hid (blkAp_set HDO.out.2.2.1 HS3.out (t' := ⟨pri8, ta8, tn8, tc8, -1, holds8⟩) rfl)
                obtain ⟨wd, hwd⟩ : ∃ wd, wd = ((w5.setCell ⟨b2, k * 3 + 1, none⟩ (.slice (some ⟨bt, 0, none⟩) (tn4 - 1) tc4)).setCell ⟨b2, y * 3 + 2, none⟩ (.int .i64 (-1))).drew := ⟨_, rfl⟩
                have HWD := Lib.hid hwd
                have hbd : Below ((w5.setCell ⟨b2, k * 3 + 1, none⟩ (.slice (some ⟨bt, 0, none⟩) (tn4 - 1) tc4)).setCell ⟨b2, y * 3 + 2, none⟩ (.int .i64 (-1))).heap.size ((w5.setCell ⟨b2, k * 3 + 1, none⟩ (.slice (some ⟨bt, 0, none⟩) (tn4 - 1) tc4)).setCell ⟨b2, y * 3 + 2, none⟩ (.int .i64 (-1))) ((w5.setCell ⟨b2, k * 3 + 1, none⟩ (.slice (some ⟨bt, 0, none⟩) (tn4 - 1) tc4)).setCell ⟨b2, y * 3 + 2, none⟩ (.int .i64 (-1))).drew := (Below.refl _ _).drew
                rw [← hwd] at hbd
                have HO7 := Lib.hid (HW.out.1.ext hbd)
                have xd := (hbd.cell (p := ⟨w.heap.size, 0, none⟩) (by have := HDO.out.2.1.size; simp at this ⊢; omega)).trans x6
                have hzd := hbd.size
                have HBD := Lib.hid hbd
                clear hwd hbd x6
                have hsz : wr.heap.size ≤ w5.heap.size := by have := HDO.out.2.1.size; simp at this; omega
                clear hs4
                refine still_tail_at 4 HWD (by kernel_rfl) (by kernel_rfl) ?_
                simp only [List.take_succ_cons, List.take_zero, List.drop_succ_cons, List.drop_zero]
                repeat still_step
                refine wpStill_nil ?_
                go_wp2_with (go_at_call 65; (with_reducible refine (hold_is HO7.out HS4.out HASC3.out (by simp at hzd; omega)).mono ?_); rintro e w8 hp; have HP := Lib.hid hp; obtain ⟨rfl, _⟩ := hp)
                refine bodyPost_ret (results_tmp3 rfl _ _ _) rfl ?_
                obtain ⟨t', ht', hO', hB'⟩ := hold_own HO7.out HAP4.out HS4.out HP.out hq1 (by simp at hzd; omega)
                refine ⟨_, _, _, _, rfl, hO'.mono WR.out.size, ?_, (Below.then (W5.out.trans (HW.out.2.mono WR.out.size)) HBD.out).trans (hB'.mono WR.out.size)⟩
                rw [map_set_th, map_set_th, map_set_th, HG2.out, List.set_set, ht']
                rfl
end Go.Proofs.Ytmdjbnicjohkjaa
