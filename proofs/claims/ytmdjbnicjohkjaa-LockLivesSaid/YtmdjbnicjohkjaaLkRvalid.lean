/- The contract of the reference's Valid. The conditions: the graph reads as named. -/
import Derived.Test.YtmdjbnicjohkjaaLkGraph
import Derived.Test.YtmdjbnicjohkjaaLkValid2
namespace Go.Proofs.Ytmdjbnicjohkjaa
open Go.RowKit
set_option linter.unusedSimpArgs false
set_option linter.unusedVariables false
theorem has_is {b : Bool} (a : Option Addr) (n c : Nat) (xs : List Int) (v : Int) (w : World) (hR : Rd w a n 1 (xs.map enc1)) (hb : hasB xs v = b) :
    Calls Try.prog 61 #[.slice a n c, .int .i64 v] w fun e w' => e = .returned (.bool b) ∧ w = w' := hb ▸ has_any a n c xs v w hR
set_option maxRecDepth 10000 in
set_option maxHeartbeats 4000000 in
theorem rvalid_any (a : Option Addr) (n c : Nat) (g : List ThV) (w : World) (hG : RdG w a n g) :
    Calls Try.prog 23 #[.slice a n c] w fun e w' => e = .returned (.bool (validG (g.map ThV.th))) ∧ Below w.heap.size w w' := by
  have hs := hG.small
  have hgl : (g.map ThV.th).length = n := by simp [hG.length]
  have hG0 := hG.length
  by_cases h8 : 8 < n
  · have : validG (g.map ThV.th) = false := by unfold validG; rw [hgl, show decide (n ≤ 8) = false by simp; omega]; rfl
    rw [this]
    clear hG hgl
    go_enter Try.func23, Try.ntmps23
    go_wp2
    go_ret
    exact ⟨rfl, by (repeat' (first | (with_reducible exact Below.refl _ _) | (with_reducible assumption) | (with_reducible refine Below.alloc ?_ ?_ _) | (with_reducible refine Below.drew ?_) | (with_reducible refine Below.draws ?_ _) | (with_reducible refine Below.setCell ?_ ?_ _) | (refine Below.then ?_ (by with_reducible assumption)) | go_size))⟩
  · have v0 : thsGo [] (g.map ThV.th) = false → validG (g.map ThV.th) = false := fun h => by unfold validG; rw [h]; simp
    have v1 : thsGo [] (g.map ThV.th) = true → validG (g.map ThV.th) = (g.map ThV.th).all (waitsOk (allHolds (g.map ThV.th))) := fun h => by
      unfold validG; rw [h, hgl, show decide (n ≤ 8) = true by simp; omega]; simp
    have wk : thsGo [] (g.map ThV.th) = true → ∀ (i : Nat) (t : ThV), g[i]? = some t → waitsOk (allHolds (g.map ThV.th)) t.th = (decide (t.waits < 0) || !(decide (holderG (g.map ThV.th) t.waits < 0) || decide (holderG (g.map ThV.th) t.waits = i))) := fun h i t ht => waits_holder (t := t.th) h (by rw [List.getElem?_map, ht]; rfl)
    have st : thsGo (allHolds ((g.take 0).map ThV.th)) ((g.drop 0).map ThV.th) = thsGo [] (g.map ThV.th) := rfl
    rw [List.all_map] at v1
    have st3 : ((g.drop 0).all (waitsOk (allHolds (g.map ThV.th)) ∘ ThV.th)) = g.all (waitsOk (allHolds (g.map ThV.th)) ∘ ThV.th) := rfl
    generalize validG (g.map ThV.th) = V at *
    generalize thsGo [] (g.map ThV.th) = TG at *
    generalize g.all (waitsOk (allHolds (g.map ThV.th)) ∘ ThV.th) = WA at *
    have HV0 := Lib.hid v0; have HV1 := Lib.hid v1; have HWK := Lib.hid wk; have HS := Lib.hid st; have HS3 := Lib.hid st3; have HR := Lib.hid hG; have HG0 := Lib.hid hG0
    clear v0 v1 wk st st3 hG hgl hG0
    go_enter Try.func23, Try.ntmps23
    go_wp2
    go_loopw [3] (fun i wr => ∃ (k : Nat), k ≤ n ∧ i = .int .i64 k ∧ thsGo (allHolds ((g.take k).map ThV.th)) ((g.drop k).map ThV.th) = TG ∧ Below w.heap.size w wr) (fun i _ => n - (intOf i).toNat)
    case atStart => exact ⟨0, Nat.zero_le _, rfl, HS.out, by (repeat' (first | (with_reducible exact Below.refl _ _) | (with_reducible assumption) | (with_reducible refine Below.alloc ?_ ?_ _) | (with_reducible refine Below.drew ?_) | (with_reducible refine Below.draws ?_ _) | (with_reducible refine Below.setCell ?_ ?_ _) | (refine Below.then ?_ (by with_reducible assumption)) | go_size))⟩
    case round =>
      obtain ⟨k, hk, rfl, he, hB⟩ := hrel
      have HE := Lib.hid he; have HB := Lib.hid hB
      have hz := hB.size
      clear he hB
      obtain ⟨wo, rfl⟩ : ∃ wo, wo = wr := ⟨_, rfl⟩
      by_cases hlt : k < n
      · obtain ⟨⟨pri, ta, tn, tc, waits, holds⟩, b, off, rfl, hb, h1, h2, h3, ht, hgi, HD⟩ := (HR.out.ext HB.out).at_ k hlt
        obtain ⟨S, hS⟩ : ∃ S, S = allHolds ((g.take k).map ThV.th) := ⟨_, rfl⟩
        have hSn : allHolds ((g.take (k + 1)).map ThV.th) = S ++ holds := by rw [take_of_drop HD.out, List.map_append, hS]; simp [allHolds, ThV.th]
        have HE2 : Hid ((thOk ⟨pri, holds, waits⟩ && holdsGo S (-1) holds && thsGo (S ++ holds) ((g.drop (k + 1)).map ThV.th)) = TG) := by have := HE.out; rw [HD.out, ← hS] at this; exact this
        have HT : Hid (Rd w ta tn 1 (holds.map enc1)) := Lib.hid (HR.out.ok _ (List.mem_of_getElem? hgi)).1
        have HSS := Lib.hid hS; have HSN := Lib.hid hSn
        clear HE ht hgi HD hS hSn
        simp only [] at h1 h2 h3
        by_cases p0 : pri < 0 ∨ pri > 99 ∨ waits < -1 ∨ waits ≥ 6
        · have hv := HV0.out (by rw [← HE2.out, show thOk ⟨pri, holds, waits⟩ = false by rw [Bool.eq_false_iff, ne_eq, thOk_iff]; simp only []; omega]; rfl)
          subst hv
          have hcs : pri < 0 ∨ (¬ pri < 0 ∧ pri > 99) ∨ (¬ pri < 0 ∧ ¬ pri > 99 ∧ waits < -1) ∨ (¬ pri < 0 ∧ ¬ pri > 99 ∧ ¬ waits < -1 ∧ waits ≥ 6) := by omega
          clear p0
          rcases hcs with q | ⟨q, q1⟩ | ⟨q, q1, q2⟩ | ⟨q, q1, q2, q3⟩
          all_goals
            go_wp2
            go_ret
            exact ⟨rfl, Below.then HB.out (by (repeat' (first | (with_reducible exact Below.refl _ _) | (with_reducible assumption) | (with_reducible refine Below.alloc ?_ ?_ _) | (with_reducible refine Below.drew ?_) | (with_reducible refine Below.draws ?_ _) | (with_reducible refine Below.setCell ?_ ?_ _) | (refine Below.then ?_ (by with_reducible assumption)) | go_size)))⟩
        have hok : thOk ⟨pri, holds, waits⟩ = true := by
          rw [thOk_iff]; simp only []
          omega
        have q0 : ¬ pri < 0 := by omega
        have q1 : ¬ pri > 99 := by omega
        have q2 : ¬ waits < -1 := by omega
        have q3 : ¬ waits ≥ 6 := by omega
        clear p0
        have HE3 : Hid ((holdsGo S (-1) holds && thsGo (S ++ holds) ((g.drop (k + 1)).map ThV.th)) = TG) := by have := HE2.out; rw [hok, Bool.true_and] at this; exact this
        clear HE2 hok
        have st : holdsGo S (ahead holds 0) (holds.drop 0) = holdsGo S (-1) holds := rfl
        generalize holdsGo S (-1) holds = RH at *
        have HST := Lib.hid st; clear st
        go_wp2
        clear h1 h2 h3 q0 q1 q2 q3
        go_loopw [5] (fun i wi => ∃ j : Nat, j ≤ tn ∧ i = .int .i64 j ∧ holdsGo S (ahead holds j) (holds.drop j) = RH ∧ wi.cell? ⟨wo.heap.size, 1, none⟩ = some (.slice ta tn tc) ∧ wo.heap.size < wi.heap.size ∧ Below w.heap.size w wi) (fun i _ => tn - (intOf i).toNat)
        case atStart => exact ⟨0, Nat.zero_le _, rfl, HST.out, by simp [go_sem], by simp, Below.then HB.out (by (repeat' (first | (with_reducible exact Below.refl _ _) | (with_reducible assumption) | (with_reducible refine Below.alloc ?_ ?_ _) | (with_reducible refine Below.drew ?_) | (with_reducible refine Below.draws ?_ _) | (with_reducible refine Below.setCell ?_ ?_ _) | (refine Below.then ?_ (by with_reducible assumption)) | go_size)))⟩
        case round =>
          obtain ⟨j, hj, rfl, he, hc1, hz1, hB⟩ := hrel
          have HE := Lib.hid he; have HB2 := Lib.hid hB
          have hzi := hB.size
          have hts := HT.out.small
          clear he hB
          obtain ⟨wi, rfl⟩ : ∃ wi, wi = wr := ⟨_, rfl⟩
          by_cases hjl : j < tn
          · obtain ⟨x, b2, off2, rfl, hb2, hx, HD⟩ := (HT.out.ext HB2.out).next1 j hjl
            have HE4 : Hid ((inB x 0 5 && !hasB S x && decide (ahead holds j < x) && holdsGo S x (holds.drop (j + 1))) = RH) := by have := HE.out; rw [HD.out] at this; exact this
            clear HE
            cases px : inB x 0 5
            · have hv := HV0.out (by rw [← HE3.out, ← HE4.out, px]; rfl)
              subst hv
              go_wp2_with (refine wp_region_later_lit (by kernel_rfl) (by kernel_rfl) ?_; (repeat (go_big_quiet_step ((go_at_call 56; exact later_same (risLock_any _ _))))); refine wpQuiet_nil ?_; intro w1 hb1; obtain ⟨hc1, hf1, hz1, hr1⟩ := bfacts hb1; (try simp only [World.size_alloc, World.size_setCell, World.size_drew, World.size_drewN] at hz1 hr1); (try have hw0 : w.heap.size < w1.heap.size := by omega); (try have hw1 : w.heap.size + 1 < w1.heap.size := by omega); (try have hw2 : w.heap.size + 1 + 1 < w1.heap.size := by omega))
              go_ret
              exact ⟨rfl, Below.then HB2.out (by (repeat' (first | (with_reducible exact Below.refl _ _) | (with_reducible assumption) | (with_reducible refine Below.alloc ?_ ?_ _) | (with_reducible refine Below.drew ?_) | (with_reducible refine Below.draws ?_ _) | (with_reducible refine Below.setCell ?_ ?_ _) | (refine Below.then ?_ (by with_reducible assumption)) | go_size)))⟩
            by_cases pa : ahead holds j < x
            · have pj : j = 0 ∨ ∃ j' p, j = j' + 1 ∧ wi.cell? ⟨b2, off2 + j', none⟩ = some (.int .i64 p) ∧ ¬ (x ≤ p) := by
                rcases j with _ | j
                · exact .inl rfl
                · obtain ⟨p, b3, off3, e3, hb3, hp, HD3⟩ := (HT.out.ext HB2.out).next1 j (by omega)
                  simp at e3
                  obtain ⟨rfl, rfl⟩ := e3
                  rw [ahead_of_drop HD3.out] at pa
                  exact .inr ⟨j, p, rfl, hp, by omega⟩
              have HAH := Lib.hid (ahead_of_drop HD.out)
              have HX : Hid (hasB S x = false → holdsGo S x (holds.drop (j + 1)) = RH) := Lib.hid (fun h => by rw [← HE4.out, px, h, show decide (ahead holds j < x) = true by simpa using pa]; simp)
              have HY : Hid (hasB S x = true → RH = false) := Lib.hid (fun h => by rw [← HE4.out, h]; simp)
              clear HE4 pa
              rcases pj with j0 | ⟨j', p, rfl, hp, hpa⟩
              all_goals
                (try have hj0 : decide (0 < j) = false := decide_eq_false (by omega))
                (try clear j0)
                go_wp2_with (refine wp_region_later_lit (by kernel_rfl) (by kernel_rfl) ?_; (repeat (go_big_quiet_step ((go_at_call 56; exact later_same (risLock_any _ _))))); refine wpQuiet_nil ?_; intro w1 hb1; obtain ⟨hc1, hf1, hz1, hr1⟩ := bfacts hb1; (try simp only [World.size_alloc, World.size_setCell, World.size_drew, World.size_drewN] at hz1 hr1); (try have hw0 : w.heap.size < w1.heap.size := by omega); (try have hw1 : w.heap.size + 1 < w1.heap.size := by omega); (try have hw2 : w.heap.size + 1 + 1 < w1.heap.size := by omega))
                have HB3 : Hid (Below w.heap.size w w1) := Lib.hid (Below.then HB2.out (by (repeat' (first | (with_reducible exact Below.refl _ _) | (with_reducible assumption) | (with_reducible refine Below.alloc ?_ ?_ _) | (with_reducible refine Below.drew ?_) | (with_reducible refine Below.draws ?_ _) | (with_reducible refine Below.setCell ?_ ?_ _) | (refine Below.then ?_ (by with_reducible assumption)) | go_size))))
                have hz3 : wo.heap.size < w1.heap.size := by omega
                have hc3 : w1.cell? ⟨wo.heap.size, 1, none⟩ = some (.slice (some ⟨b2, off2, none⟩) tn tc) := by simp [*]
                clear hc1 hf1 hr1 hb1
                (try clear hj0)
                (try clear hpa)
                (try clear hp)
                go_loopw [6] (fun i wl => ∃ q : Nat, q ≤ k ∧ i = .int .i64 q ∧ (∀ t ∈ g.take q, hasB t.holds x = false) ∧ wl.cell? ⟨wo.heap.size, 1, none⟩ = some (.slice (some ⟨b2, off2, none⟩) tn tc) ∧ wo.heap.size < wl.heap.size ∧ Below w.heap.size w wl) (fun i _ => k - (intOf i).toNat)
                case atStart => exact ⟨0, Nat.zero_le _, rfl, by simp, hc3, hz3, HB3.out⟩
                case round =>
                  obtain ⟨q, hq, rfl, hno, hcl, hzl, hBl⟩ := hrel
                  have HNO := Lib.hid hno; have HBL := Lib.hid hBl
                  clear hno hBl
                  by_cases hqk : q < k
                  · obtain ⟨⟨pri', ta', tn', tc', waits', holds'⟩, b', off', e', hb', h1', h2', h3', ht', hgi', HD'⟩ := (HR.out.ext HBL.out).at_ q (by omega)
                    simp at e'
                    obtain ⟨rfl, rfl⟩ := e'
                    simp only [] at h2'
                    clear h1' h3'
                    obtain ⟨x', b3, off3, e3, hb3, hx3, HD3⟩ := (HT.out.ext HBL.out).next1 _ hjl
                    simp at e3
                    obtain ⟨rfl, rfl⟩ := e3
                    obtain rfl : x' = x := by have h1 := HD3.out; rw [HD.out] at h1; simp at h1; exact h1.symm
                    have HT' : Hid (Rd wr ta' tn' 1 (holds'.map enc1)) := Lib.hid ht'.1
                    have HG' : Hid (g[q]? = some ⟨pri', ta', tn', tc', waits', holds'⟩) := Lib.hid hgi'
                    have htk' := take_of_drop HD'.out
                    have HTK := Lib.hid htk'
                    clear ht' hgi' HD' HD3 htk'
                    cases hh : hasB holds' x'
                    · go_wp2_with (refine wp_region_later_lit (by kernel_rfl) (by kernel_rfl) ?_; (repeat (go_big_quiet_step ((go_at_call 61; exact later_same (has_is _ _ _ _ _ _ (later_rd HT'.out (Below.refl _ _)) hh))))); refine wpQuiet_nil ?_; intro w1 hb1; obtain ⟨hc1, hf1, hz1, hr1⟩ := bfacts hb1; (try simp only [World.size_alloc, World.size_setCell, World.size_drew, World.size_drewN] at hz1 hr1); (try have hw0 : w.heap.size < w1.heap.size := by omega); (try have hw1 : w.heap.size + 1 < w1.heap.size := by omega); (try have hw2 : w.heap.size + 1 + 1 < w1.heap.size := by omega))
                      go_roundw
                      case rel =>
                        refine ⟨q + 1, by omega, by go_num, fun t ht => ?_, by simp [*], by omega, Below.then HBL.out (by (repeat' (first | (with_reducible exact Below.refl _ _) | (with_reducible assumption) | (with_reducible refine Below.alloc ?_ ?_ _) | (with_reducible refine Below.drew ?_) | (with_reducible refine Below.draws ?_ _) | (with_reducible refine Below.setCell ?_ ?_ _) | (refine Below.then ?_ (by with_reducible assumption)) | go_size)))⟩
                        rw [HTK.out] at ht
                        rcases List.mem_append.1 ht with ht | ht
                        · exact HNO.out t ht
                        · simp at ht; subst ht; exact hh
                      case measure => simp [intOf]; omega
                    · have hSx : hasB S x' = true := by
                        rw [HSS.out, hasB_all]
                        refine ⟨ThV.th ⟨pri', ta', tn', tc', waits', holds'⟩, List.mem_map_of_mem (List.mem_of_getElem? (i := q) ?_), hh⟩
                        rw [List.getElem?_take, if_pos hqk]; exact HG'.out
                      have hv := HV0.out (by rw [← HE3.out, HY.out hSx]; rfl)
                      subst hv
                      go_wp2_with (refine wp_region_later_lit (by kernel_rfl) (by kernel_rfl) ?_; (repeat (go_big_quiet_step ((go_at_call 61; exact later_same (has_is _ _ _ _ _ _ (later_rd HT'.out (Below.refl _ _)) hh))))); refine wpQuiet_nil ?_; intro w1 hb1; obtain ⟨hc1, hf1, hz1, hr1⟩ := bfacts hb1; (try simp only [World.size_alloc, World.size_setCell, World.size_drew, World.size_drewN] at hz1 hr1); (try have hw0 : w.heap.size < w1.heap.size := by omega); (try have hw1 : w.heap.size + 1 < w1.heap.size := by omega); (try have hw2 : w.heap.size + 1 + 1 < w1.heap.size := by omega))
                      go_ret
                      exact ⟨rfl, Below.then HBL.out (by (repeat' (first | (with_reducible exact Below.refl _ _) | (with_reducible assumption) | (with_reducible refine Below.alloc ?_ ?_ _) | (with_reducible refine Below.drew ?_) | (with_reducible refine Below.draws ?_ _) | (with_reducible refine Below.setCell ?_ ?_ _) | (refine Below.then ?_ (by with_reducible assumption)) | go_size)))⟩
                  · have hqk' : q = k := by omega
                    subst hqk'
                    have hSx : hasB S x = false := by
                      rw [HSS.out, Bool.eq_false_iff, ne_eq, hasB_all]
                      rintro ⟨t, ht, hl⟩
                      obtain ⟨u, hu, rfl⟩ := List.mem_map.1 ht
                      have := HNO.out u hu
                      exact absurd (hl.symm.trans this) (by simp)
                    have HE5 : Hid (holdsGo S (ahead holds _) (holds.drop _) = RH) := Lib.hid (by rw [HAH.out]; exact HX.out hSx)
                    clear hSx
                    go_wp2
                    go_roundw
                    case rel => exact ⟨_, by omega, by go_num, HE5.out, hcl, hzl, HBL.out⟩
                    case measure => simp [intOf]; omega
            · have hv := HV0.out (by rw [← HE3.out, ← HE4.out, show decide (ahead holds j < x) = false by simpa using pa]; simp)
              subst hv
              have pj : ∃ j' p, j = j' + 1 ∧ wi.cell? ⟨b2, off2 + j', none⟩ = some (.int .i64 p) ∧ x ≤ p := by
                rcases j with _ | j
                · have := (inB_iff.1 px).1
                  simp [ahead] at pa; omega
                · obtain ⟨p, b3, off3, e3, hb3, hp, HD3⟩ := (HT.out.ext HB2.out).next1 j (by omega)
                  simp at e3
                  obtain ⟨rfl, rfl⟩ := e3
                  rw [ahead_of_drop HD3.out] at pa
                  exact ⟨j, p, rfl, hp, by omega⟩
              obtain ⟨j', p, rfl, hp, hpa⟩ := pj
              go_wp2_with (refine wp_region_later_lit (by kernel_rfl) (by kernel_rfl) ?_; (repeat (go_big_quiet_step ((go_at_call 56; exact later_same (risLock_any _ _))))); refine wpQuiet_nil ?_; intro w1 hb1; obtain ⟨hc1, hf1, hz1, hr1⟩ := bfacts hb1; (try simp only [World.size_alloc, World.size_setCell, World.size_drew, World.size_drewN] at hz1 hr1); (try have hw0 : w.heap.size < w1.heap.size := by omega); (try have hw1 : w.heap.size + 1 < w1.heap.size := by omega); (try have hw2 : w.heap.size + 1 + 1 < w1.heap.size := by omega))
              go_ret
              exact ⟨rfl, Below.then HB2.out (by (repeat' (first | (with_reducible exact Below.refl _ _) | (with_reducible assumption) | (with_reducible refine Below.alloc ?_ ?_ _) | (with_reducible refine Below.drew ?_) | (with_reducible refine Below.draws ?_ _) | (with_reducible refine Below.setCell ?_ ?_ _) | (refine Below.then ?_ (by with_reducible assumption)) | go_size)))⟩
          · have hjn : j = tn := by omega
            subst hjn
            have hl := HT.out.length
            have hRH : RH = true := by rw [← HE.out, drop_end hl (Nat.le_refl _)]; rfl
            subst hRH
            have HE5 : Hid (thsGo (allHolds ((g.take (k + 1)).map ThV.th)) ((g.drop (k + 1)).map ThV.th) = TG) := by have := HE3.out; rw [Bool.true_and] at this; rw [HSN.out]; exact this
            clear hl HE HE3 hts
            go_wp2
            go_roundw
            case rel => exact ⟨k + 1, by omega, by go_num, HE5.out, HB2.out⟩
            case measure => simp [intOf]; omega
      · have hkn : g.drop k = [] := drop_end HG0.out (by omega)
        have hTG : TG = true := by rw [← HE.out, hkn]; rfl
        subst hTG
        have hv := HV1.out rfl
        subst hv
        have HW := Lib.hid (HWK.out rfl)
        clear HE hkn
        go_wp2
        go_loopw [7] (fun i wr => ∃ (k : Nat), k ≤ n ∧ i = .int .i64 k ∧ (g.drop k).all (waitsOk (allHolds (g.map ThV.th)) ∘ ThV.th) = V ∧ Below w.heap.size w wr) (fun i _ => n - (intOf i).toNat)
        case atStart => exact ⟨0, Nat.zero_le _, rfl, HS3.out, HB.out⟩
        case round =>
          obtain ⟨k, hk, rfl, he, hB⟩ := hrel
          have HE := Lib.hid he; have HB3 := Lib.hid hB
          clear he hB
          by_cases hlt : k < n
          · obtain ⟨⟨pri, ta, tn, tc, waits, holds⟩, b, off, rfl, hb, h1, h2, h3, ht, hgi, HD⟩ := (HR.out.ext HB3.out).at_ k hlt
            simp only [] at h1 h2 h3
            have hw := HW.out k _ hgi
            have HE2 : Hid ((waitsOk (allHolds (g.map ThV.th)) ⟨pri, holds, waits⟩ && (g.drop (k + 1)).all (waitsOk (allHolds (g.map ThV.th)) ∘ ThV.th)) = V) := by have := HE.out; rw [HD.out] at this; exact this
            simp only [ThV.th] at hw
            rw [hw] at HE2
            clear HE ht hgi HD h1 h2 hw
            have HRo := Lib.hid (HR.out.ext HB3.out)
            obtain ⟨H, hH⟩ : ∃ H, H = holderG (g.map ThV.th) waits := ⟨_, rfl⟩
            have HH := Lib.hid hH
            rw [← hH] at HE2
            clear hH
            by_cases w0 : waits < 0
            · have HE5 : Hid ((g.drop (k + 1)).all (waitsOk (allHolds (g.map ThV.th)) ∘ ThV.th) = V) := by have := HE2.out; rw [show decide (waits < 0) = true by simpa using w0, Bool.true_or, Bool.true_and] at this; exact this
              clear HE2
              have w0' : decide (waits ≥ 0) = false := decide_eq_false (by omega)
              go_wp2
              go_roundw
              case rel => exact ⟨k + 1, by omega, by go_num, HE5.out, HB3.out⟩
              case measure => simp [intOf]; omega
            · have w0' : waits ≥ 0 := by omega
              by_cases c1 : H < 0
              · have hv : V = false := by rw [← HE2.out, show decide (waits < 0) = false by simpa using w0, show decide (H < 0) = true by simpa using c1]; simp
                subst hv
                go_wp2_with (go_at_call 57; refine (rholder_any _ _ _ _ waits _ HRo.out).mono ?_; rw [← HH.out]; rintro e w1 ⟨rfl, hb1⟩; obtain ⟨hc1, hf1, hz1, hr1⟩ := bfacts hb1; (try simp only [World.size_alloc, World.size_setCell, World.size_drew, World.size_drewN] at hz1 hr1); (try have hw0 : w.heap.size < w1.heap.size := by omega); (try have hw1 : w.heap.size + 1 < w1.heap.size := by omega); (try have hw2 : w.heap.size + 1 + 1 < w1.heap.size := by omega))
                go_ret
                exact ⟨rfl, Below.then HB3.out (by (repeat' (first | (with_reducible exact Below.refl _ _) | (with_reducible assumption) | (with_reducible refine Below.alloc ?_ ?_ _) | (with_reducible refine Below.drew ?_) | (with_reducible refine Below.draws ?_ _) | (with_reducible refine Below.setCell ?_ ?_ _) | (refine Below.then ?_ (by with_reducible assumption)) | go_size)))⟩
              · by_cases c2 : H = k
                · have hv : V = false := by rw [← HE2.out, show decide (waits < 0) = false by simpa using w0, show decide (H = k) = true by simpa using c2]; simp
                  subst hv
                  subst c2
                  go_wp2_with (first | (go_at_call 57; refine (rholder_any _ _ _ _ waits _ (HRo.out.ext (by (repeat' (first | (with_reducible exact Below.refl _ _) | (with_reducible assumption) | (with_reducible refine Below.alloc ?_ ?_ _) | (with_reducible refine Below.drew ?_) | (with_reducible refine Below.draws ?_ _) | (with_reducible refine Below.setCell ?_ ?_ _) | (refine Below.then ?_ (by with_reducible assumption)) | go_size))))).mono ?_; rw [← HH.out]; rintro e w1 ⟨rfl, hb1⟩; obtain ⟨hc1, hf1, hz1, hr1⟩ := bfacts hb1; (try simp only [World.size_alloc, World.size_setCell, World.size_drew, World.size_drewN] at hz1 hr1); (try have hw0 : w.heap.size < w1.heap.size := by omega); (try have hw1 : w.heap.size + 1 < w1.heap.size := by omega); (try have hw2 : w.heap.size + 1 + 1 < w1.heap.size := by omega)))
                  go_ret
                  exact ⟨rfl, Below.then HB3.out (by (repeat' (first | (with_reducible exact Below.refl _ _) | (with_reducible assumption) | (with_reducible refine Below.alloc ?_ ?_ _) | (with_reducible refine Below.drew ?_) | (with_reducible refine Below.draws ?_ _) | (with_reducible refine Below.setCell ?_ ?_ _) | (refine Below.then ?_ (by with_reducible assumption)) | go_size)))⟩
                · have c3 : (H == (k : Int)) = false := by simpa using c2
                  have HE5 : Hid ((g.drop (k + 1)).all (waitsOk (allHolds (g.map ThV.th)) ∘ ThV.th) = V) := by have := HE2.out; rw [show decide (waits < 0) = false by simpa using w0, show decide (H < 0) = false by simpa using c1, show decide (H = k) = false by simpa using c2] at this; simp only [Bool.or_self, Bool.not_false, Bool.or_true, Bool.true_and] at this; exact this
                  go_wp2_with (first | (go_at_call 57; refine (rholder_any _ _ _ _ waits _ (HRo.out.ext (by (repeat' (first | (with_reducible exact Below.refl _ _) | (with_reducible assumption) | (with_reducible refine Below.alloc ?_ ?_ _) | (with_reducible refine Below.drew ?_) | (with_reducible refine Below.draws ?_ _) | (with_reducible refine Below.setCell ?_ ?_ _) | (refine Below.then ?_ (by with_reducible assumption)) | go_size))))).mono ?_; rw [← HH.out]; rintro e w1 ⟨rfl, hb1⟩; obtain ⟨hc1, hf1, hz1, hr1⟩ := bfacts hb1; (try simp only [World.size_alloc, World.size_setCell, World.size_drew, World.size_drewN] at hz1 hr1); (try have hw0 : w.heap.size < w1.heap.size := by omega); (try have hw1 : w.heap.size + 1 < w1.heap.size := by omega); (try have hw2 : w.heap.size + 1 + 1 < w1.heap.size := by omega)))
                  go_roundw
                  case rel => exact ⟨k + 1, by omega, by go_num, HE5.out, Below.then HB3.out (by (repeat' (first | (with_reducible exact Below.refl _ _) | (with_reducible assumption) | (with_reducible refine Below.alloc ?_ ?_ _) | (with_reducible refine Below.drew ?_) | (with_reducible refine Below.draws ?_ _) | (with_reducible refine Below.setCell ?_ ?_ _) | (refine Below.then ?_ (by with_reducible assumption)) | go_size)))⟩
                  case measure => simp [intOf]; omega
          · have hV : V = true := by rw [← HE.out, drop_end HG0.out (by omega)]; rfl
            subst hV
            go_wp2
            go_ret
            exact ⟨rfl, HB3.out⟩
end Go.Proofs.Ytmdjbnicjohkjaa
