/- The contracts of Releases of both sides, and of the reference's Sorted. The conditions: the list reads as named. -/
import Derived.Test.YtfiggbeaomkepaaCtSort
import Derived.Test.YtfiggbeaomkepaaCount
import Derived.Test.YtfiggbeaomkepaaPushM
import Derived.BigRegion
import Derived.Deep.RegionHeld3
import Derived.IntWalk
namespace Go.Proofs.Ytfiggbeaomkepaa
open Go.RowKit
set_option linter.unusedSimpArgs false
set_option linter.unusedVariables false
def ltI (a b : Int) : Bool := decide (a < b)
theorem ltI_eq : (fun a b : Int => decide (a < b)) = ltI := rfl
def relL (xs : List P2) : List Int := xs.map fun x => x.1 + x.2
def relR (xs : List P2) : List Int × Int := if listE xs = 0 then (isortL ltI (relL xs), 0) else ([], listE xs)
theorem relL_take {xs : List P2} {k : Nat} {x : P2} (h : xs.drop k = x :: xs.drop (k + 1)) : relL (xs.take (k + 1)) = relL (xs.take k) ++ [x.1 + x.2] := by
  have hk : xs[k]? = some x := by
    have := congrArg (fun l => l[0]?) h
    simpa using this
  unfold relL
  rw [List.take_add_one, hk, List.map_append]; rfl
theorem swap_isort {p r : List Int} {y x : Int} {j : Nat} (hj : j = p.length) : ((p ++ y :: x :: r).set (j + 1) y).set j x = p ++ x :: y :: r := by
  subst hj
  rw [List.set_append_right _ _ (by omega), show p.length + 1 - p.length = 1 by omega, List.set_append_right _ _ (by omega), Nat.sub_self]
  rfl
set_option maxHeartbeats 2000000 in
theorem sorted_any (a : Option Addr) (n c : Nat) (xs : List Int) (w : World) (hn : n ≤ 1000) (hR : Rd w a n 1 (xs.map enc1)) (h0 : n = 0 → (a = none ∧ c = 0) ∨ ∃ ad, a = some ad) :
    Calls Try.prog 59 #[.slice a n c] w (OutI w.heap.size w (isortL ltI xs)) := by
  have hlen := hR.length
  have e1 := E1
  have HR := Lib.hid hR; have H0 := Lib.hid h0; have HL := Lib.hid hlen
  obtain ⟨R, hRR⟩ : ∃ R, isortL ltI xs = R := ⟨_, rfl⟩
  have HRR := Lib.hid hRR
  rw [hRR]
  clear hR h0 hlen hRR
  go_enter Try.func59, Try.ntmps59
  go_wp2_with (at_builtin; refine wpList_pushAll (B := w.heap.size) (n := 0) (xs := []) (v := .slice none 0 0) rfl _ _ _ rfl e1 enc1_len enc1_one rfl (World.ownsRow_nil _ _ _ _) rfl (HR.out.ext (by (repeat' (first | (with_reducible exact Below.refl _ _) | (with_reducible assumption) | (with_reducible refine Below.alloc ?_ ?_ _) | (with_reducible refine Below.drew ?_) | (with_reducible refine Below.draws ?_ _) | (with_reducible refine Below.setCell ?_ ?_ _) | (refine Below.then ?_ (by with_reducible assumption)) | go_size)))) H0.out (by omega) (by decide) (by simp) ?_; intro v2 w2 hown2 hv2 hb2)
  rw [Nat.zero_add, List.nil_append] at hown2
  obtain ⟨a', c', rfl⟩ := hv2
  rw [Nat.zero_add] at hown2 ⊢
  have HO2 := Lib.hid hown2; have HB2 := Lib.hid hb2
  clear hown2 hb2
  go_loopw [4] (fun v wr => ∃ i : Nat, 1 ≤ i ∧ i ≤ max 1 n ∧ v = .int .i64 i ∧ wr.ownsRow w.heap.size 3 1 (.slice a' n c') n ((isortL ltI (xs.take i) ++ xs.drop i).flatMap enc1) ∧ Below w.heap.size w wr) (fun v _ => n - (intOf v).toNat)
  case atStart =>
    refine ⟨1, Nat.le_refl _, by omega, rfl, ?_, by have := HB2.out; (repeat' (first | (with_reducible exact Below.refl _ _) | (with_reducible assumption) | (with_reducible refine Below.alloc ?_ ?_ _) | (with_reducible refine Below.drew ?_) | (with_reducible refine Below.draws ?_ _) | (with_reducible refine Below.setCell ?_ ?_ _) | (refine Below.then ?_ (by with_reducible assumption)) | go_size))⟩
    have : isortL ltI (xs.take 1) = xs.take 1 := by cases xs <;> rfl
    rw [this, List.take_append_drop]
    exact HO2.out
  case round =>
    obtain ⟨i, hi1, hin, rfl, hO, hB⟩ := hrel
    have HO := Lib.hid hO; have HB := Lib.hid hB
    clear hO hB HO2 HB2
    by_cases hlt : i < n
    · obtain ⟨x, hx⟩ : ∃ x, xs[i]? = some x := ⟨_, List.getElem?_eq_getElem (by rw [HL.out]; exact hlt)⟩
      have hxd : xs.drop i = x :: xs.drop (i + 1) := by obtain ⟨h1, h2⟩ := List.getElem?_eq_some_iff.1 hx; rw [List.drop_eq_getElem_cons h1, h2]
      obtain ⟨S, hS⟩ : ∃ S, isortL ltI (xs.take i) = S := ⟨_, rfl⟩
      have hsl : S.length = i := by rw [← hS, (isort_perm _ _).length_eq, List.length_take, HL.out]; omega
      have HTK : Hid (isortL ltI (xs.take (i + 1)) = insP ltI x S) := Lib.hid (by rw [← hS, ← isort_snoc, List.take_add_one, hx]; rfl)
      obtain ⟨q0, hq0, -⟩ : ∃ q, a' = some ⟨q, 0, none⟩ ∧ q < wr.heap.size := by
        rcases HO.out.2 with ⟨hv, _⟩ | ⟨g', cap', cur, hv, _, hg, _⟩
        · simp at hv; omega
        · simp at hv; exact ⟨g', hv.1, (Array.getElem?_eq_some_iff.1 hg).1⟩
      subst hq0
      rw [hS, hxd] at HO
      have HSL := Lib.hid hsl
      clear hx hxd hsl hS
      obtain ⟨wo, rfl⟩ : ∃ wo : World, wo = wr := ⟨_, rfl⟩
      go_wp2
      go_loopw [5] (fun v wr => ∃ (j : Nat) (p q : List Int), v = .int .i64 j ∧ j = p.length ∧ p ++ q = S ∧ (∀ y ∈ q, ltI x y = true) ∧ wr.ownsRow w.heap.size 3 1 (.slice (some ⟨q0, 0, none⟩) n c') n ((p ++ x :: (q ++ xs.drop (i + 1))).flatMap enc1) ∧ Below w.heap.size w wr) (fun v _ => (intOf v).toNat)
      case atStart => exact ⟨i, S, [], rfl, by rw [HSL.out], by simp, by simp, HO.out, HB.out⟩
      case round =>
        obtain ⟨j, p, q, rfl, hj, hpq, hq, hOj, hBj⟩ := hrel
        have HPQ := Lib.hid hpq; have HQ := Lib.hid hq; have HOJ := Lib.hid hOj; have HBJ := Lib.hid hBj; have HJ := Lib.hid hj
        have hjn : j < n := by have := congrArg List.length hpq; rw [HSL.out] at this; simp at this; omega
        clear hpq hq hOj hBj HO HB
        obtain ⟨wp, rfl⟩ : ∃ wp : World, wp = wr := ⟨_, rfl⟩
        have HEND : Hid ((∀ y, p.getLast? = some y → ltI x y = false) → isortL ltI (xs.take (i + 1)) = p ++ x :: q) := Lib.hid (fun h => by rw [HTK.out, ← HPQ.out, insP_eq HQ.out h])
        rcases List.eq_nil_or_concat p with hp | ⟨p', y, hp⟩
        · have hj0 : j = 0 := by rw [hj, hp]; rfl
          have hd : decide (0 < j) = false := by simp [hj0]
          have HP := Lib.hid hp
          clear hj hp
          go_wp2_with (refine wp_region_later_lit (by kernel_rfl) (by kernel_rfl) ?_; (repeat (go_big_quiet_step (fail))); refine wpQuiet_nil ?_; intro w3 hb3)
          go_roundw
          case rel =>
            refine ⟨i + 1, by omega, by omega, by go_num, ?_, HBJ.out.trans (hb3.mono HBJ.out.size)⟩
            rw [HEND.out (by rw [HP.out]; simp), List.append_assoc, List.cons_append]
            exact owns_ext HOJ.out hb3
          case measure => simp [intOf]; omega
        · rw [List.concat_eq_append] at hp
          have HP := Lib.hid hp
          obtain ⟨jp, rfl⟩ : ∃ jp, j = jp + 1 := ⟨p'.length, by rw [hj, hp]; simp⟩
          have hjp : jp = p'.length := by rw [hp] at hj; simp at hj; omega
          have HJP := Lib.hid hjp
          have e1 : (p ++ x :: (q ++ xs.drop (i + 1)))[jp + 1]? = some x := by
            rw [List.getElem?_append_right (by omega), hj, Nat.sub_self]; rfl
          have e2 : (p ++ x :: (q ++ xs.drop (i + 1)))[jp]? = some y := by
            rw [List.getElem?_append_left (by omega), hp, List.getElem?_append_right (by omega), hjp, Nat.sub_self]; rfl
          obtain ⟨x', hx', c1, f1, hbw⟩ := ownsI_at HOJ.out (jp + 1) hjn
          obtain ⟨y', hy', c2, f2, _⟩ := ownsI_at HOJ.out jp (by omega)
          rw [e1] at hx'; rw [e2] at hy'
          obtain rfl : x = x' := by simpa using hx'
          obtain rfl : y = y' := by simpa using hy'
          have HC1 := Lib.hid c1; have HC2 := Lib.hid c2; have HF1 := Lib.hid f1; have HF2 := Lib.hid f2
          have hjn' : jp < n := by omega
          clear e1 e2 hx' hy' hj hp hjp
          by_cases hl : x < y
          · have HLX := Lib.hid hl
            have hl' : decide (x < y) = true := by simpa using hl
            go_wp2_with ((refine wp_region_later_lit (by kernel_rfl) (by kernel_rfl) ?_; (repeat (go_big_quiet_step (fail))); refine wpQuiet_nil ?_; intro w3 hb3); have d1 := (hb3.cell (p := ⟨q0, jp + 1, none⟩) hbw).trans HC1.out; have d2 := (hb3.cell (p := ⟨q0, jp, none⟩) hbw).trans HC2.out; have d3 := (hb3.frozen (p := ⟨q0, jp + 1, none⟩) hbw).trans HF1.out; have d4 := (hb3.frozen (p := ⟨q0, jp, none⟩) hbw).trans HF2.out)
            go_roundw
            case rel =>
              refine ⟨jp, p', y :: q, by go_num, HJP.out, by rw [← HPQ.out, HP.out]; simp, ?_, ?_, ?_⟩
              · intro z hz
                rcases List.mem_cons.1 hz with rfl | hz
                · exact decide_eq_true HLX.out
                · exact HQ.out z hz
              · have h5 := ownsI_set (ownsI_set (owns_ext HOJ.out hb3) (jp + 1) y) jp x
                have e5 : p ++ x :: (q ++ xs.drop (i + 1)) = p' ++ y :: x :: (q ++ xs.drop (i + 1)) := by rw [HP.out]; simp
                rw [e5, swap_isort HJP.out] at h5
                exact h5
              · have hg0 : w.heap.size ≤ q0 := by
                  rcases HOJ.out.2 with ⟨hv, _⟩ | ⟨g', cap', cur, hv, hB0, hg, _⟩
                  · simp at hv
                  · simp at hv; rw [hv.1]; exact hB0
                exact ((HBJ.out.trans (hb3.mono HBJ.out.size)).setCell (p := ⟨q0, jp + 1, none⟩) hg0 _).setCell (p := ⟨q0, jp, none⟩) hg0 _
            case measure => simp [intOf]
          · have hl' : decide (x < y) = false := by simpa using hl
            have HLX := Lib.hid hl
            go_wp2_with (refine wp_region_later_lit (by kernel_rfl) (by kernel_rfl) ?_; (repeat (go_big_quiet_step (fail))); refine wpQuiet_nil ?_; intro w3 hb3)
            go_roundw
            case rel =>
              refine ⟨i + 1, by omega, by omega, by go_num, ?_, HBJ.out.trans (hb3.mono HBJ.out.size)⟩
              rw [HEND.out (by rw [HP.out]; intro z hz; simp at hz; subst hz; exact decide_eq_false HLX.out), List.append_assoc, List.cons_append]
              exact owns_ext HOJ.out hb3
            case measure => simp [intOf]; omega
    · go_wp2
      go_ret
      refine ⟨_, _, _, rfl, ?_, HB.out⟩
      have hle : xs.length ≤ i := by rw [HL.out]; omega
      have := HO.out
      rw [List.take_of_length_le hle, List.drop_of_length_le hle, List.append_nil, HRR.out] at this
      exact this
theorem relL_len (xs : List P2) : (relL xs).length = xs.length := by simp [relL]
theorem far_at {xs : List P2} (h : xs.any farB = false) {k : Nat} {x : P2} (hd : xs.drop k = x :: xs.drop (k + 1)) : farB x = false := by
  have : x ∈ xs := List.mem_of_mem_drop (i := k) (by rw [hd]; simp)
  rw [List.any_eq_false] at h
  simpa using h x this
theorem relR_ok {xs : List P2} (h : listE xs = 0) : relR xs = (isortL ltI (relL xs), 0) := by rw [relR, if_pos h]
theorem relR_no {xs : List P2} (h : ¬ listE xs = 0) : relR xs = ([], listE xs) := by rw [relR, if_neg h]
set_option maxHeartbeats 1000000 in
theorem releases_any (a : Option Addr) (n c : Nat) (w : World) (xs : List P2) (hR : Rd w a n 2 (xs.map enc2)) :
    Calls Try.prog 43 #[.slice a n c] w (OutIE w.heap.size w (relR xs).1 (relR xs).2) := by
  have HL := Lib.hid hR.length
  have hs := hR.small
  have e1 := E1
  have HR := Lib.hid hR; clear hR
  by_cases he : listE xs = 0
  · rw [relR_ok he]
    obtain ⟨h1, h2⟩ := listE_zero' he
    rw [HL.out] at h2
    have HF := Lib.hid h1
    clear h1
    go_enter Try.func43, Try.ntmps43
    go_wp2_with (go_at_call 52; refine (check_one _ _ _ _ _ HR.out).mono ?_; rintro e w1 ⟨rfl, hb1⟩; obtain ⟨hc1, hf1, hz1, hr1⟩ := bfacts hb1; (try simp only [World.size_alloc, World.size_setCell, World.size_drew, World.size_drewN] at hz1 hr1); (try have hw0 : w.heap.size < w1.heap.size := by omega); (try have hw1 : w.heap.size + 1 < w1.heap.size := by omega); (try have hw2 : w.heap.size + 1 + 1 < w1.heap.size := by omega))
    go_loopw [5, 16] (fun v i wr => ∃ (k : Nat) (a' : Option Addr) (c' : Nat), k ≤ n ∧ i = .int .i64 k ∧ v = .slice a' k c' ∧ wr.ownsRow w.heap.size 3 1 (.slice a' k c') k ((relL (xs.take k)).flatMap enc1) ∧ Below w.heap.size w wr) (fun _ i _ => n - (intOf i).toNat)
    case atStart => exact ⟨0, none, 0, Nat.zero_le _, rfl, rfl, World.ownsRow_nil _ _ _ _, by (repeat' (first | (with_reducible exact Below.refl _ _) | (with_reducible assumption) | (with_reducible refine Below.alloc ?_ ?_ _) | (with_reducible refine Below.drew ?_) | (with_reducible refine Below.draws ?_ _) | (with_reducible refine Below.setCell ?_ ?_ _) | (refine Below.then ?_ (by with_reducible assumption)) | go_size))⟩
    case round =>
      obtain ⟨k, a', c', hk, rfl, rfl, hO, hB⟩ := hrel
      have HO := Lib.hid hO
      have hz := hB.size
      clear hO
      by_cases hlt : k < n
      · obtain ⟨⟨x1, x2⟩, b, off, rfl, hb, h1, h2, HD⟩ := (HR.out.ext hB).next2 k hlt
        simp only [] at h1 h2
        obtain ⟨⟨b1, b2⟩, b3, b4⟩ := farB_false' (far_at HF.out HD.out)
        simp only [] at b1 b2 b3 b4
        have HB := Lib.hid hB; clear hB
        have HTK := Lib.hid (relL_take HD.out)
        go_wp2_with (at_builtin; refine wpList_pushM (N := wr.heap.size + 1) (B := w.heap.size) (v := .slice a' k c') (by simp) rfl _ _ _ rfl e1 rfl (HO.out.alloc _) rfl rfl (by intro u hu; simp at hu; rcases hu with rfl; rfl) (by omega) (by decide) (by simp; omega) ?_; intro a2 c2 w2 hown' hb1; have HO' := Lib.hid hown'; have HB' := Lib.hid hb1; clear hown' hb1)
        go_roundw
        case rel =>
          refine ⟨k + 1, a2, c2, by omega, by go_num, rfl, ?_, Below.trans (Below.alloc (Below.alloc HB.out hz _) (by simp; omega) _) (grown_below ((HO.out.alloc _).alloc _) HB'.out (by simp; omega))⟩
          rw [HTK.out, List.flatMap_append]; exact HO'.out
        case measure => simp [intOf]; omega
      · obtain rfl : k = n := by omega
        have HB := Lib.hid hB; clear hB
        rw [List.take_of_length_le (by rw [HL.out]; omega)] at HO
        go_wp2_with (go_at_call 58; refine (sortInt_any _ _ _ _ (relL xs) _ (by omega) HO.out).mono ?_; rintro e w3 ⟨rfl, ho3, hg3⟩; have HO3 := Lib.hid ho3; have HG3 := Lib.hid hg3; clear ho3 hg3)
        go_ret2
        exact ⟨_, _, _, rfl, HO3.out, HB.out.trans (grown_below HO.out HG3.out hz)⟩
  · rw [relR_no he]
    obtain ⟨E, hE⟩ : ∃ E, listE xs = E := ⟨_, rfl⟩
    have HE := Lib.hid hE
    rw [hE] at he ⊢
    have he' : (E != 0) = true := by simpa using he
    clear hE
    go_enter Try.func43, Try.ntmps43
    go_wp2_with (go_at_call 52; refine (check_one _ _ _ _ _ HR.out).mono ?_; rw [HE.out]; rintro e w1 ⟨rfl, hb1⟩; obtain ⟨hc1, hf1, hz1, hr1⟩ := bfacts hb1; (try simp only [World.size_alloc, World.size_setCell, World.size_drew, World.size_drewN] at hz1 hr1); (try have hw0 : w.heap.size < w1.heap.size := by omega); (try have hw1 : w.heap.size + 1 < w1.heap.size := by omega); (try have hw2 : w.heap.size + 1 + 1 < w1.heap.size := by omega))
    go_ret2
    exact .none hb1
set_option maxHeartbeats 1000000 in
theorem rreleases_any (a : Option Addr) (n c : Nat) (w : World) (xs : List P2) (hR : Rd w a n 2 (xs.map enc2)) :
    Calls Try.prog 44 #[.slice a n c] w (OutIE w.heap.size w (relR xs).1 (relR xs).2) := by
  have HL := Lib.hid hR.length
  have hs := hR.small
  have e1 := E1
  have HR := Lib.hid hR; clear hR
  by_cases he : listE xs = 0
  · rw [relR_ok he]
    obtain ⟨h1, h2⟩ := listE_zero' he
    rw [HL.out] at h2
    have HF := Lib.hid h1
    clear h1
    go_enter Try.func44, Try.ntmps44
    go_wp2_with (go_at_call 53; refine (listed_any _ _ _ _ _ HR.out).mono ?_; rintro e w1 ⟨rfl, hb1⟩; obtain ⟨hc1, hf1, hz1, hr1⟩ := bfacts hb1; (try simp only [World.size_alloc, World.size_setCell, World.size_drew, World.size_drewN] at hz1 hr1); (try have hw0 : w.heap.size < w1.heap.size := by omega); (try have hw1 : w.heap.size + 1 < w1.heap.size := by omega); (try have hw2 : w.heap.size + 1 + 1 < w1.heap.size := by omega))
    go_loopw [5, 6] (fun v i wr => ∃ (k : Nat) (a' : Option Addr) (c' : Nat), k ≤ n ∧ i = .int .i64 k ∧ v = .slice a' k c' ∧ wr.ownsRow w.heap.size 3 1 (.slice a' k c') k ((relL (xs.take k)).flatMap enc1) ∧ Below w.heap.size w wr) (fun _ i _ => n - (intOf i).toNat)
    case atStart => exact ⟨0, none, 0, Nat.zero_le _, rfl, rfl, World.ownsRow_nil _ _ _ _, by (repeat' (first | (with_reducible exact Below.refl _ _) | (with_reducible assumption) | (with_reducible refine Below.alloc ?_ ?_ _) | (with_reducible refine Below.drew ?_) | (with_reducible refine Below.draws ?_ _) | (with_reducible refine Below.setCell ?_ ?_ _) | (refine Below.then ?_ (by with_reducible assumption)) | go_size))⟩
    case round =>
      obtain ⟨k, a', c', hk, rfl, rfl, hO, hB⟩ := hrel
      have HO := Lib.hid hO
      have hz := hB.size
      clear hO
      by_cases hlt : k < n
      · obtain ⟨⟨x1, x2⟩, b, off, rfl, hb, h1, h2, HD⟩ := (HR.out.ext hB).next2 k hlt
        simp only [] at h1 h2
        obtain ⟨⟨b1, b2⟩, b3, b4⟩ := farB_false' (far_at HF.out HD.out)
        simp only [] at b1 b2 b3 b4
        have HB := Lib.hid hB; clear hB
        have HTK := Lib.hid (relL_take HD.out)
        obtain ⟨wo, rfl⟩ : ∃ wo : World, wo = wr := ⟨_, rfl⟩
        have hwr : IntKind.i64.wrap (x1 + x2) = x1 + x2 := IntWalk.i64_in _ (by omega)
        obtain ⟨x0, b0, o0, e0, hb0, g1, g2, D0⟩ := HR.out.next2 k hlt
        simp at e0
        obtain ⟨rfl, rfl⟩ := e0
        obtain rfl : (x1, x2) = x0 := by have q1 := D0.out; rw [HD.out] at q1; exact (List.cons.inj q1).1
        simp only [] at g1 g2
        have G1 := Lib.hid g1; have G2 := Lib.hid g2
        clear D0 g1 g2
        have j1 := (HO.out.alloc (.cells #[.int .i64 (x1 + x2)] 3)).drew
        have j2 : News ((wo.alloc (.cells #[.int .i64 (x1 + x2)] 3)).drew) (some ⟨wo.heap.size, 0, none⟩) 1 1 [.int .i64 (x1 + x2)] := .inr ⟨_, rfl, World.news_of_block (heap_alloc_new _ _)⟩
        have j3 : w.heap.size ≤ ((wo.alloc (.cells #[.int .i64 (x1 + x2)] 3)).drew).heap.size := by simp; omega
        have J1 := Lib.hid j1; have J2 := Lib.hid j2; have J3 := Lib.hid j3
        clear j1 j2 j3
        go_wp2_with fail
        go_region_held3 (fun w' => w'.cell? ⟨b, off + k * 2, none⟩ = some (.int .i64 x1) ∧ w'.cell? ⟨b, off + k * 2 + 1, none⟩ = some (.int .i64 x2)) (first | go_keep)
          (first
           | (refine step_app (by rfl) _ _ _ (by rfl) e1 (B := w.heap.size) (news := [.int .i64 (x1 + x2)]) (by rfl) J1.out (by rfl) (by rfl) J2.out (by intro u hu; simp at hu; rcases hu with rfl; rfl) (by omega) (by decide) J3.out ?_
              intro a2 c2 w2 hown2 hg2
              have HO2 := Lib.hid hown2
              have HB2 := Lib.hid (Below.trans (Below.alloc HB.out hz _).drew (grown_below (B := w.heap.size) (e := 3) (k := 1) J1.out hg2 J3.out))
              have q1 := (HB2.out.cell (p := ⟨b, off + k * 2, none⟩) hb0).trans G1.out
              have q2 := (HB2.out.cell (p := ⟨b, off + k * 2 + 1, none⟩) hb0).trans G2.out
              clear hown2 hg2))
        go_wp2
        go_roundw
        case rel =>
          refine ⟨k + 1, a2, c2, by omega, by go_num, rfl, ?_, HB2.out⟩
          rw [HTK.out, List.flatMap_append]; exact HO2.out
        case measure => simp [intOf]; omega
      · obtain rfl : k = n := by omega
        have HB := Lib.hid hB; clear hB
        rw [List.take_of_length_le (by rw [HL.out]; omega)] at HO
        go_wp2_with (go_at_call 59; refine (sorted_any _ _ _ (relL xs) _ (by omega) (ownsI_rd HO.out) (owns_nil HO.out)).mono ?_; rintro e w3 ⟨a3, n3, c3, rfl, ho3, hb3⟩; have HO3 := Lib.hid ho3; have HB3 := Lib.hid hb3; clear ho3 hb3)
        go_ret2
        exact ⟨_, _, _, rfl, owns_mono HO3.out hz, HB.out.trans (HB3.out.mono hz)⟩
  · rw [relR_no he]
    obtain ⟨E, hE⟩ : ∃ E, listE xs = E := ⟨_, rfl⟩
    have HE := Lib.hid hE
    rw [hE] at he ⊢
    have he' : (E != 0) = true := by simpa using he
    clear hE
    go_enter Try.func44, Try.ntmps44
    go_wp2_with (go_at_call 53; refine (listed_any _ _ _ _ _ HR.out).mono ?_; rw [HE.out]; rintro e w1 ⟨rfl, hb1⟩; obtain ⟨hc1, hf1, hz1, hr1⟩ := bfacts hb1; (try simp only [World.size_alloc, World.size_setCell, World.size_drew, World.size_drewN] at hz1 hr1); (try have hw0 : w.heap.size < w1.heap.size := by omega); (try have hw1 : w.heap.size + 1 < w1.heap.size := by omega); (try have hw2 : w.heap.size + 1 + 1 < w1.heap.size := by omega))
    go_ret2
    exact .none hb1
end Go.Proofs.Ytfiggbeaomkepaa
