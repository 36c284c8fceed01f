/- The contract of LetGo of the reference (in work). The conditions: the graph reads as named. -/
import Derived.Test.YtmdjbnicjohkjaaLkLetF
namespace Go.Proofs.Ytmdjbnicjohkjaa
open Go.RowKit
set_option linter.unusedSimpArgs false
set_option linter.unusedVariables false
def OutL (T B : Nat) (w : World) (g : List Th) (b : Int) (x : Int) (e : Ending) (w' : World) : Prop :=
  ∃ a n c g', e = .returned (.tuple #[.slice a n c, .int .i64 b, .int .i64 x]) ∧ OwnG T B w' a n c g' ∧ g'.map ThV.th = g ∧ Below B w w'
theorem OutL.none {T B : Nat} {w w' : World} {x : Int} (hb : Below B w w') : OutL T B w [] 0 x (.returned (.tuple #[.slice none 0 0, .int .i64 0, .int .i64 x])) w' := ⟨_, _, _, [], rfl, ⟨World.ownsRow_nil _ _ _ _, by simp⟩, rfl, hb⟩
theorem reffective_is {a : Option Addr} {n c : Nat} {g : List ThV} {w : World} {G : List Th} (hv : validG G = true) (hG : RdG w a n g) (hg : g.map ThV.th = G) : Calls Try.prog 63 #[.slice a n c] w (OutN w.heap.size n 3 1 w ((effL G).flatMap enc1)) := by
  subst hg
  have h8 := validG_len hv
  have hl := hG.length
  have hn : n ≤ 1000 := by simp at h8; omega
  refine (reffective_any a n c g hn w hG).mono ?_
  rintro e w' ⟨a', n', c', rfl, ho, hb⟩
  have h1 := (ownsI_rd ho).length
  have h2 : n' = n := by simp at h1; omega
  subst h2
  rw [effL_eq (validG_pri hv)]
  simp only [List.length_map] at ho ⊢
  rw [hl]
  exact ⟨_, _, rfl, ho, hb⟩
/-- what LetGo of the reference gives -/
def rletR (G : List Th) (t l : Int) : List Th × Int × Int :=
  if isTh G t && inB l 0 5 then
    (if 0 ≤ (thAt G t.toNat).waits ∨ hasB (thAt G t.toNat).holds l = false then ([], 0, 13)
     else if toG G l < 0 then (G.set t.toNat ⟨(thAt G t.toNat).pri, outL (thAt G t.toNat).holds l, (thAt G t.toNat).waits⟩, toG G l, 0)
     else ((G.set t.toNat ⟨(thAt G t.toNat).pri, outL (thAt G t.toNat).holds l, (thAt G t.toNat).waits⟩).set (toG G l).toNat
       ⟨(thAt G (toG G l).toNat).pri, withL (thAt G (toG G l).toNat).holds l, -1⟩, toG G l, 0))
  else ([], 0, 1)
set_option maxRecDepth 10000 in
set_option maxHeartbeats 4000000 in
theorem rLet_any (a : Option Addr) (n c : Nat) (g : List ThV) (G : List Th) (t l : Int) (w : World) (hG : RdG w a n g) (hg : g.map ThV.th = G) (hH : ∀ t ∈ g, t.n ≤ 1000) :
    Calls Try.prog 38 #[.slice a n c, .int .i64 t, .int .i64 l] w (OutL 45 w.heap.size w (rletR G t l).1 (rletR G t l).2.1 (rletR G t l).2.2) := by
  have hgl : G.length = n := by rw [← hg]; simp [hG.length]
  have HR := Lib.hid hG; have Hg := Lib.hid hg; have HH := Lib.hid hH
  obtain ⟨R, hRR⟩ : ∃ R, rletR G t l = R := ⟨_, rfl⟩
  rw [hRR]
  unfold rletR at hRR
  cases ht : isTh G t
  · rw [ht] at hRR
    have hr : R = ([], 0, 1) := by rw [← hRR]; rfl
    subst hr
    have HT := Lib.hid ht
    clear hRR ht hG hg hgl hH
    go_enter Try.func38, Try.ntmps38
    go_wp2_with (first
      | (go_at_call 50; (with_reducible refine (ready_is HR.out Hg.out HT.out).mono ?_); rintro e w1 ⟨rfl, hb1⟩; have W1 := Lib.hid hb1; clear hb1))
    refine bodyPost_ret (results_tmp3 rfl _ _ _) rfl ?_
    exact .none W1.out
  · obtain ⟨hv, ht0, htn⟩ := isTh_iff.1 ht
    have hn8 := validG_len hv
    rw [hgl] at htn hn8
    obtain ⟨k, rfl⟩ := Int.eq_ofNat_of_zero_le ht0
    have hk : k < n := by omega
    have HT := Lib.hid ht
    have HV := Lib.hid hv
    cases hl : inB l 0 5
    · rw [ht, hl] at hRR
      have hr : R = ([], 0, 1) := by rw [← hRR]; rfl
      subst hr
      have HL := Lib.hid hl
      clear hRR ht hG hg hgl hl hv ht0 htn hH
      go_enter Try.func38, Try.ntmps38
      go_wp2_with (first
        | (go_at_call 50; (with_reducible refine (ready_is HR.out Hg.out HT.out).mono ?_); rintro e w1 ⟨rfl, hb1⟩; have W1 := Lib.hid hb1; clear hb1)
        | (go_at_call 56; refine (risLock_is HL.out).mono ?_; rintro e w1 ⟨rfl, rfl⟩))
      refine bodyPost_ret (results_tmp3 rfl _ _ _) rfl ?_
      exact .none W1.out
    · rw [ht, hl] at hRR
      rw [show (true && true) = true from rfl, if_pos rfl, Int.toNat_natCast] at hRR
      have HL := Lib.hid hl
      obtain ⟨⟨pri, ta, tn, tc, waits, holds⟩, b, off, rfl, hb, h1, h2, h3, hok, hgi, _⟩ := hG.at_ k hk
      simp only [] at h1 h2 h3
      have hth : thAt G k = ⟨pri, holds, waits⟩ := by rw [← hg, thAt_of hgi]; rfl
      rw [hth] at hRR
      simp only [] at hRR
      have HT1 : Hid (Rd w ta tn 1 (holds.map enc1)) := Lib.hid hok.1
      have HGI := Lib.hid hgi
      have h3' : ∀ (w1 : World), Below w.heap.size w w1 → w1.cell? ⟨b, off + k * 3 + 2, none⟩ = some (.int .i64 waits) := fun _ h => (h.cell (p := ⟨b, off + k * 3 + 2, none⟩) hb).trans h3
      have h2' : ∀ (w1 : World), Below w.heap.size w w1 → w1.cell? ⟨b, off + k * 3 + 1, none⟩ = some (.slice ta tn tc) := fun _ h => (h.cell (p := ⟨b, off + k * 3 + 1, none⟩) hb).trans h2
      have H2 := Lib.hid h2'
      have H3 := Lib.hid h3'
      clear ht hG hg hl hv ht0 htn hH hok hgi hth h1 h2 h3 h2' h3'
      by_cases hw : 0 ≤ waits
      · rw [if_pos (.inl hw)] at hRR
        subst hRR
        go_enter Try.func38, Try.ntmps38
        go_wp2_with (first
          | (go_at_call 50; (with_reducible refine (ready_is HR.out Hg.out HT.out).mono ?_); rintro e w1 ⟨rfl, hb1⟩; have W1 := Lib.hid hb1; have d2 := H2.out _ hb1; have d3 := H3.out _ hb1; clear hb1)
          | (go_at_call 56; refine (risLock_is HL.out).mono ?_; rintro e w1 ⟨rfl, rfl⟩))
        refine bodyPost_ret (results_tmp3 rfl _ _ _) rfl ?_
        exact .none W1.out
      · have hw' : waits < 0 := by omega
        cases hh : hasB holds l
        · have HH1 := Lib.hid hh
          rw [if_pos (.inr hh)] at hRR
          subst hRR
          clear hh
          go_enter Try.func38, Try.ntmps38
          go_wp2_with (first
          | (go_at_call 50; (with_reducible refine (ready_is HR.out Hg.out HT.out).mono ?_); rintro e w1 ⟨rfl, hb1⟩; have W1 := Lib.hid hb1; have d2 := H2.out _ hb1; have d3 := H3.out _ hb1; clear hb1)
          | (go_at_call 56; refine (risLock_is HL.out).mono ?_; rintro e w1 ⟨rfl, rfl⟩)
          | (go_at_call 61; (with_reducible refine (has_is _ _ _ _ _ _ (HT1.out.ext W1.out) HH1.out).mono ?_); rintro e w2 ⟨rfl, rfl⟩))
          refine bodyPost_ret (results_tmp3 rfl _ _ _) rfl ?_
          exact .none W1.out
        · have HH1 := Lib.hid hh
          rw [if_neg (by rw [hh]; simp; omega)] at hRR
          obtain ⟨B, hB⟩ : ∃ B, toG G l = B := ⟨_, rfl⟩
          have HTI := Lib.hid (toInv G l)
          rw [hB] at HTI hRR
          obtain ⟨L, hL⟩ : ∃ L, effL G = L := ⟨_, rfl⟩
          have hLl : L.length = n := by rw [← hL, effL_len, hgl]
          have HLL := Lib.hid hL
          have HST : Hid (toFrom G L l (n - 0) 0 (-1) = B) := Lib.hid (by rw [← hB, ← hL, toG, hgl]; rfl)
          clear hB hh hL
          go_enter Try.func38, Try.ntmps38
          go_wp2_with (first
            | (go_at_call 50; (with_reducible refine (ready_is HR.out Hg.out HT.out).mono ?_); rintro e w1 ⟨rfl, hb1⟩; have W1 := Lib.hid hb1; have d2 := H2.out _ hb1; have d3 := H3.out _ hb1; clear hb1)
            | (go_at_call 56; refine (risLock_is HL.out).mono ?_; rintro e w1 ⟨rfl, rfl⟩)
            | (go_at_call 61; (with_reducible refine (has_is _ _ _ _ _ _ (HT1.out.ext W1.out) HH1.out).mono ?_); rintro e w2 ⟨rfl, rfl⟩)
            | (go_at_call 63; (with_reducible refine (reffective_is HV.out (HR.out.ext W1.out) Hg.out).mono ?_); rw [HLL.out]; rintro e w2 ⟨a2, c2, rfl, ho2, hb2⟩; have HO := Lib.hid (ownsI_rd ho2); have W2 := Lib.hid (Below.then W1.out hb2); clear ho2 hb2))
          clear d2 d3
          go_loopw [10, 11] (fun v i wr => ∃ (k : Nat) (bst : Int), k ≤ n ∧ v = .int .i64 bst ∧ i = .int .i64 k ∧ -1 ≤ bst ∧ bst < n ∧ toFrom G L l (n - k) k bst = B ∧ Below w2.heap.size w2 wr) (fun _ i _ => n - (intOf i).toNat)
          case atStart => exact ⟨0, -1, Nat.zero_le _, rfl, rfl, by omega, by omega, HST.out, by (repeat' (first | (with_reducible exact Below.refl _ _) | (with_reducible assumption) | (with_reducible refine Below.alloc ?_ ?_ _) | (with_reducible refine Below.drew ?_) | (with_reducible refine Below.draws ?_ _) | (with_reducible refine Below.setCell ?_ ?_ _) | (refine Below.then ?_ (by with_reducible assumption)) | go_size))⟩
          case round =>
            obtain ⟨q, bst, hq, rfl, rfl, hb1, hb2, he, hB⟩ := hrel
            have HE := Lib.hid he; have HB := Lib.hid hB
            clear he hB
            by_cases hlt : q < n
            · obtain ⟨⟨pri2, ta2, tn2, tc2, waits2, holds2⟩, b3, off3, e3, hb3, h1, h2, h3, ht, hgi, HD⟩ := (HR.out.ext (Below.then W2.out HB.out)).at_ q hlt
              simp only [] at h1 h2 h3
              simp at e3
              obtain ⟨rfl, rfl⟩ := e3
              obtain ⟨x, bl, ol, rfl, hbl, hcx, hx⟩ := (HO.out.ext HB.out).idx q hlt
              have hs := toFrom_step (f := n - (q + 1)) (k := q) (b := bst) (G := G) (L := L) (l := l) (R := B) (by rw [show n - (q + 1) + 1 = n - q by omega]; exact HE.out)
              rw [toStep_at Hg.out hgi, valAt_of hx] at hs
              simp only [] at hs
              have HS := Lib.hid hs
              clear hs ht hgi HD hx HE
              by_cases p0 : waits2 = l
              · by_cases p1 : bst < 0
                · have HS2 : Hid (toFrom G L l (n - (q + 1)) (q + 1) q = B) := by have := HS.out; rw [if_pos ⟨p0, .inl p1⟩] at this; exact Lib.hid this
                  clear HS
                  go_wp2_with (refine wp_region_later_lit (by kernel_rfl) (by kernel_rfl) ?_; (repeat (go_big_quiet_step (fail))); refine wpQuiet_nil ?_; intro w1 hb1; obtain ⟨hc1, hf1, hz1, hr1⟩ := bfacts hb1; (try simp only [World.size_alloc, World.size_setCell, World.size_drew, World.size_drewN] at hz1 hr1); (try have hw0 : w.heap.size < w1.heap.size := by omega); (try have hw1 : w.heap.size + 1 < w1.heap.size := by omega); (try have hw2 : w.heap.size + 1 + 1 < w1.heap.size := by omega))
                  go_roundw
                  case rel => exact ⟨q + 1, q, by omega, rfl, by go_num, by omega, by omega, HS2.out, Below.then HB.out (by (repeat' (first | (with_reducible exact Below.refl _ _) | (with_reducible assumption) | (with_reducible refine Below.alloc ?_ ?_ _) | (with_reducible refine Below.drew ?_) | (with_reducible refine Below.draws ?_ _) | (with_reducible refine Below.setCell ?_ ?_ _) | (refine Below.then ?_ (by with_reducible assumption)) | go_size)))⟩
                  case measure => simp [intOf]; omega
                · obtain ⟨y, rfl⟩ := Int.eq_ofNat_of_zero_le (show 0 ≤ bst by omega)
                  obtain ⟨z, bl2, ol2, e2, hbl2, hcz, hz⟩ := (HO.out.ext HB.out).idx y (by omega)
                  simp at e2
                  obtain ⟨rfl, rfl⟩ := e2
                  rw [valAt_of hz] at HS
                  clear hz
                  have q1 : decide ((y : Int) < 0) = false := by simp
                  by_cases p2 : z < x
                  · have HS2 : Hid (toFrom G L l (n - (q + 1)) (q + 1) q = B) := by have := HS.out; rw [if_pos ⟨p0, .inr p2⟩] at this; exact Lib.hid this
                    clear HS
                    go_wp2_with (refine wp_region_later_lit (by kernel_rfl) (by kernel_rfl) ?_; (repeat (go_big_quiet_step (fail))); refine wpQuiet_nil ?_; intro w1 hb1; obtain ⟨hc1, hf1, hz1, hr1⟩ := bfacts hb1; (try simp only [World.size_alloc, World.size_setCell, World.size_drew, World.size_drewN] at hz1 hr1); (try have hw0 : w.heap.size < w1.heap.size := by omega); (try have hw1 : w.heap.size + 1 < w1.heap.size := by omega); (try have hw2 : w.heap.size + 1 + 1 < w1.heap.size := by omega))
                    go_roundw
                    case rel => exact ⟨q + 1, q, by omega, rfl, by go_num, by omega, by omega, HS2.out, Below.then HB.out (by (repeat' (first | (with_reducible exact Below.refl _ _) | (with_reducible assumption) | (with_reducible refine Below.alloc ?_ ?_ _) | (with_reducible refine Below.drew ?_) | (with_reducible refine Below.draws ?_ _) | (with_reducible refine Below.setCell ?_ ?_ _) | (refine Below.then ?_ (by with_reducible assumption)) | go_size)))⟩
                    case measure => simp [intOf]; omega
                  · have HS2 : Hid (toFrom G L l (n - (q + 1)) (q + 1) y = B) := by have := HS.out; rw [if_neg (by omega)] at this; exact Lib.hid this
                    clear HS
                    have q2 : decide (z < x) = false := by simpa using p2
                    go_wp2_with (refine wp_region_later_lit (by kernel_rfl) (by kernel_rfl) ?_; (repeat (go_big_quiet_step (fail))); refine wpQuiet_nil ?_; intro w1 hb1; obtain ⟨hc1, hf1, hz1, hr1⟩ := bfacts hb1; (try simp only [World.size_alloc, World.size_setCell, World.size_drew, World.size_drewN] at hz1 hr1); (try have hw0 : w.heap.size < w1.heap.size := by omega); (try have hw1 : w.heap.size + 1 < w1.heap.size := by omega); (try have hw2 : w.heap.size + 1 + 1 < w1.heap.size := by omega))
                    go_roundw
                    case rel => exact ⟨q + 1, y, by omega, rfl, by go_num, by omega, by omega, HS2.out, Below.then HB.out (by (repeat' (first | (with_reducible exact Below.refl _ _) | (with_reducible assumption) | (with_reducible refine Below.alloc ?_ ?_ _) | (with_reducible refine Below.drew ?_) | (with_reducible refine Below.draws ?_ _) | (with_reducible refine Below.setCell ?_ ?_ _) | (refine Below.then ?_ (by with_reducible assumption)) | go_size)))⟩
                    case measure => simp [intOf]; omega
              · have HS2 : Hid (toFrom G L l (n - (q + 1)) (q + 1) bst = B) := by have := HS.out; rw [if_neg (fun h => p0 h.1)] at this; exact Lib.hid this
                clear HS
                have q2 : (waits2 == l) = false := by simpa using p0
                go_wp2_with (refine wp_region_later_lit (by kernel_rfl) (by kernel_rfl) ?_; (repeat (go_big_quiet_step (fail))); refine wpQuiet_nil ?_; intro w1 hb1; obtain ⟨hc1, hf1, hz1, hr1⟩ := bfacts hb1; (try simp only [World.size_alloc, World.size_setCell, World.size_drew, World.size_drewN] at hz1 hr1); (try have hw0 : w.heap.size < w1.heap.size := by omega); (try have hw1 : w.heap.size + 1 < w1.heap.size := by omega); (try have hw2 : w.heap.size + 1 + 1 < w1.heap.size := by omega))
                go_roundw
                case rel => exact ⟨q + 1, bst, by omega, rfl, by go_num, by omega, by omega, HS2.out, Below.then HB.out (by (repeat' (first | (with_reducible exact Below.refl _ _) | (with_reducible assumption) | (with_reducible refine Below.alloc ?_ ?_ _) | (with_reducible refine Below.drew ?_) | (with_reducible refine Below.draws ?_ _) | (with_reducible refine Below.setCell ?_ ?_ _) | (refine Below.then ?_ (by with_reducible assumption)) | go_size)))⟩
                case measure => simp [intOf]; omega
            · have hv : bst = B := by have := HE.out; rw [show n - q = 0 by omega] at this; exact this
              subst hv
              by_cases hr : bst < 0
              · rw [if_pos hr] at hRR
                subst hRR
                have WR := Lib.hid (Below.then W2.out HB.out)
                go_wp2_with (first
                | (go_at_call 66; (with_reducible refine (rCopy_is (by omega) HH.out (HR.out.ext WR.out) Hg.out).mono ?_); rintro e w3 ⟨a3, c3, g2, rfl, ho3, hg2, hb3⟩; have HO3 := Lib.hid ho3; have HG2 := Lib.hid hg2; have W3 := Lib.hid (Below.then WR.out hb3); (obtain ⟨b2, rfl, hq1, hq2⟩ := owns_addr ho3.own (by omega))
                   have hz3 := hb3.size
                   obtain ⟨t2, ht2, e2⟩ := th_back HG2.out (thAt_get Hg.out HGI.out)
                   have f3 := (owns3_at' HO3.out.own ht2).2.1
                   have HT2 := Lib.hid ht2; have HE2 := Lib.hid e2
                   have HRd : Hid (Rd w3 t2.a t2.n 1 (t2.holds.map enc1)) := Lib.hid (ownsI_rd (HO3.out.ok t2 (List.mem_of_getElem? ht2)))
                   have ht2n : t2.n ≤ 1000 := by
                     have q1 := HRd.out.length
                     have q2 := asc_len (valid_asc HV.out (t := t2.th) (by rw [e2]; exact List.mem_of_getElem? (thAt_get Hg.out HGI.out)))
                     have q3 : t2.th.holds = t2.holds := rfl
                     rw [q3] at q2; omega
                   clear ho3 hg2 hb3 ht2 e2)
                | (go_at_call 74; (with_reducible refine (without_any _ _ _ t2.holds l _ ht2n HRd.out).mono ?_); rintro e w4 ⟨a4, n4, c4, rfl, ho4, hb4⟩; have HX := Lib.hid ho4; have W4 := Lib.hid (Below.then W3.out hb4); have HO4 := Lib.hid (HO3.out.ext hb4); have hz4 := hb4.size; have f4 := (owns3_at' HO4.out.own HT2.out).2.1; have f5 := HO4.out.own.frozenAt (k * 3 + 1); clear ho4 hb4))
                refine bodyPost_ret (results_tmp3 rfl _ _ _) rfl ?_
                obtain ⟨hO', hB'⟩ := head_own (by decide) HO4.out HT2.out (owns_mono HX.out (by omega)) hq1
                refine ⟨_, _, _, _, rfl, hO'.mono WR.out.size, ?_, W4.out.trans (hB'.mono WR.out.size)⟩
                rw [map_set_th, HG2.out]
                have := HE2.out
                simp only [ThV.th]
                rw [show t2.pri = pri from congrArg Th.pri this, show t2.holds = holds from congrArg Th.holds this, show t2.waits = waits from congrArg Th.waits this]
              · rw [if_neg hr] at hRR
                obtain ⟨y, rfl⟩ := Int.eq_ofNat_of_zero_le (Int.not_lt.1 hr)
                rw [Int.toNat_natCast] at hRR
                have hy : y < n := by omega
                obtain ⟨⟨pri3, holds3, waits3⟩, hx0, hxw⟩ := HTI.out.at_ (by omega)
                rw [Int.toNat_natCast] at hx0
                simp only [] at hxw
                have hl0 := inB_iff.1 HL.out
                have hyk : y ≠ k := by
                  rintro rfl
                  rw [thAt_get Hg.out HGI.out] at hx0
                  have : waits = waits3 := congrArg Th.waits (Option.some.inj hx0)
                  omega
                rw [show thAt G y = ⟨pri3, holds3, waits3⟩ by rw [thAt, hx0]; rfl] at hRR
                simp only [] at hRR
                subst hRR
                have HX0 := Lib.hid hx0
                clear hx0 hxw
                have WR := Lib.hid (Below.then W2.out HB.out)
                go_wp2_with (first
                | (go_at_call 66; (with_reducible refine (rCopy_is (by omega) HH.out (HR.out.ext WR.out) Hg.out).mono ?_); rintro e w3 ⟨a3, c3, g2, rfl, ho3, hg2, hb3⟩; have HO3 := Lib.hid ho3; have HG2 := Lib.hid hg2; have W3 := Lib.hid (Below.then WR.out hb3); (obtain ⟨b2, rfl, hq1, hq2⟩ := owns_addr ho3.own (by omega))
                   have hz3 := hb3.size
                   obtain ⟨t2, ht2, e2⟩ := th_back HG2.out (thAt_get Hg.out HGI.out)
                   obtain ⟨t3, ht3, e3⟩ := th_back HG2.out HX0.out
                   have f3 := (owns3_at' HO3.out.own ht2).2.1
                   have HT2 := Lib.hid ht2; have HE2 := Lib.hid e2; have HT3 := Lib.hid ht3; have HE3 := Lib.hid e3
                   have HRd : Hid (Rd w3 t2.a t2.n 1 (t2.holds.map enc1)) := Lib.hid (ownsI_rd (HO3.out.ok t2 (List.mem_of_getElem? ht2)))
                   have ht2n : t2.n ≤ 1000 := by
                     have q1 := HRd.out.length
                     have q2 := asc_len (valid_asc HV.out (t := t2.th) (by rw [e2]; exact List.mem_of_getElem? (thAt_get Hg.out HGI.out)))
                     have q3 : t2.th.holds = t2.holds := rfl
                     rw [q3] at q2; omega
                   clear ho3 hg2 hb3 ht2 e2 ht3 e3)
                | (go_at_call 74; (with_reducible refine (without_any _ _ _ t2.holds l _ ht2n HRd.out).mono ?_); rintro e w4 ⟨a4, n4, c4, rfl, ho4, hb4⟩; have HX := Lib.hid ho4; have W4 := Lib.hid (Below.then W3.out hb4); have HO4 := Lib.hid (HO3.out.ext hb4); have hz4 := hb4.size; have f4 := (owns3_at' HO4.out.own HT2.out).2.1; have f5 := HO4.out.own.frozenAt (k * 3 + 1)
                   have HW := Lib.hid (head_own (by decide) HO4.out HT2.out (owns_mono HX.out (by omega)) hq1)
                   have W5 := Lib.hid (W4.out.trans (HW.out.2.mono WR.out.size))
                   have hs3 : (g2.set k ⟨t2.pri, a4, n4, c4, t2.waits, outL t2.holds l⟩)[y]? = some t3 := by rw [List.getElem?_set, if_neg (fun q => hyk q.symm)]; exact HT3.out
                   have f6 := (owns3_at' HW.out.1.own hs3).2.1
                   have HS3 := Lib.hid hs3
                   have HRd3 : Hid (Rd (w4.setCell ⟨b2, k * 3 + 1, none⟩ (.slice a4 n4 c4)) t3.a t3.n 1 (t3.holds.map enc1)) := Lib.hid (ownsI_rd (HW.out.1.ok t3 (List.mem_of_getElem? hs3)))
                   clear ho4 hb4 hs3)
                | (go_at_call 67; (with_reducible refine (with_any _ _ _ t3.holds l _ HRd3.out).mono ?_); rintro e w6 ⟨a6, n6, c6, rfl, ho6, hb6⟩
                   have HX6 := Lib.hid ho6
                   have W6 := Lib.hid (Below.then W5.out hb6)
                   have HO6 := Lib.hid (HW.out.1.ext hb6)
                   have hz6 : w4.heap.size ≤ w6.heap.size := by have := hb6.size; simpa using this
                   have f7 := (owns3_at' HO6.out.own HS3.out).2.1
                   have f8 := HO6.out.own.frozenAt (y * 3 + 1)
                   have HW6 := Lib.hid (head_own (xs := withL t3.holds l) (by decide) HO6.out HS3.out (owns_mono HX6.out (by simp; omega)) hq1)
                   have hs4 : ((g2.set k ⟨t2.pri, a4, n4, c4, t2.waits, outL t2.holds l⟩).set y ⟨t3.pri, a6, n6, c6, t3.waits, withL t3.holds l⟩)[y]? = some ⟨t3.pri, a6, n6, c6, t3.waits, withL t3.holds l⟩ := by
                     rw [List.getElem?_set, if_pos rfl, if_pos (List.getElem?_eq_some_iff.1 HS3.out).1]
                   have f9 := (owns3_at' HW6.out.1.own hs4).2.2
                   have f10 := HW6.out.1.own.frozenAt (y * 3 + 2)
                   have HS4 := Lib.hid hs4
                   clear ho6 hb6 hs4))
                refine bodyPost_ret (results_tmp3 rfl _ _ _) rfl ?_
                obtain ⟨hO8, hB8⟩ := wait_own (x := -1) (by decide) HW6.out.1 HS4.out hq1 (by simp; omega)
                refine ⟨_, _, _, _, rfl, hO8.mono WR.out.size, ?_, (W6.out.trans (HW6.out.2.mono WR.out.size)).trans (hB8.mono WR.out.size)⟩
                rw [map_set_th, map_set_th, map_set_th, HG2.out, List.set_set]
                have := HE2.out
                have h3 := HE3.out
                simp only [ThV.th]
                rw [show t2.pri = pri from congrArg Th.pri this, show t2.holds = holds from congrArg Th.holds this, show t2.waits = waits from congrArg Th.waits this, show t3.pri = pri3 from congrArg Th.pri h3, show t3.holds = holds3 from congrArg Th.holds h3]
end Go.Proofs.Ytmdjbnicjohkjaa
