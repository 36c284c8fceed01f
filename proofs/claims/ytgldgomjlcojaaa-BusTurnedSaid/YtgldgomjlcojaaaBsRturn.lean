/- The contract of Turned of the reference. The conditions: the slots read as named. -/
import Derived.Test.YtgldgomjlcojaaaBsTurnd
import Derived.IntWalk
namespace Go.Proofs.Ytgldgomjlcojaaa
open Go.RowKit
set_option linter.unusedSimpArgs false
set_option linter.unusedVariables false
theorem rotL_get {l : List P2} {K j x : Nat} (hK : K < l.length) (hj1 : 1 ≤ j) (hj : j < l.length) (hx : (K + j) % l.length = x) : x < l.length ∧ (rotL l K)[j - 1]? = l[x]? := by
  have hxl : x < l.length := hx ▸ Nat.mod_lt _ (by omega)
  refine ⟨hxl, ?_⟩
  unfold rotL
  by_cases q : K + j < l.length
  · rw [Nat.mod_eq_of_lt q] at hx
    rw [List.getElem?_append_left (by simp; omega), List.getElem?_drop, ← hx]
    congr 1; omega
  · have e : (K + j) % l.length = K + j - l.length := by rw [Nat.mod_eq_sub_mod (by omega), Nat.mod_eq_of_lt (by omega)]
    rw [e] at hx
    rw [List.getElem?_append_right (by simp; omega), List.length_drop, List.getElem?_take_of_lt (by omega), ← hx]
    congr 1; omega
set_option maxRecDepth 10000 in
set_option maxHeartbeats 4000000 in
theorem rTurned_any (a : Option Addr) (n c : Nat) (l : List P2) (b : Int) (w : World) (hR : Rd w a n 2 (l.map enc2)) :
    Calls Try.prog 35 #[.slice a n c, .int .i64 b] w (OutSE w.heap.size w (turnR l b).1 (turnR l b).2) := by
  have HR := Lib.hid hR
  clear hR
  unfold turnR
  cases hq : (validS l && inB b 0 1000000)
  · rw [← askB_own] at hq
    go_enter Try.func35, Try.ntmps35
    go_wp2_with (go_at_call 53; (with_reducible refine (asks_val HR.out hq).mono ?_); rintro e w1 ⟨rfl, rfl⟩)
    go_ret2
    exact OutSE.none (Below.refl _ _)
  · obtain ⟨hv, hm⟩ := Bool.and_eq_true_iff.1 hq
    obtain ⟨ht1, ht2⟩ := inB_iff.1 hm
    obtain ⟨v, rfl⟩ := Int.eq_ofNat_of_zero_le ht1
    obtain ⟨htl, htl4⟩ := tableS_len hv
    have HV := Lib.hid hv
    have HNL := Lib.hid HR.out.length
    have hn8 : n ≤ 8 := by rw [← HR.out.length]; exact (validS_iff.1 hv).2.1
    have hn1 : 1 ≤ n := by rw [← HR.out.length]; exact (validS_iff.1 hv).1
    have HSP := Lib.hid (validS_iff.1 hv).2.2
    rw [if_pos rfl, Int.toNat_natCast]
    obtain ⟨r, hr⟩ : ∃ r, v % (tableS l).length = r := ⟨_, rfl⟩
    have hrl : r < (tableS l).length := hr ▸ Nat.mod_lt _ (by omega)
    have HRM : Hid ((v : Int) % ((tableS l).length : Int) = (r : Int)) := Lib.hid (by rw [Int.mod_nat, hr])
    rw [hr]
    have HST := Lib.hid (CutInv.start hrl)
    obtain ⟨hK, s, hs, hsN⟩ := cutS_lt hrl
    generalize (cutS l r).1 = K at *
    generalize (cutS l r).2 = N at *
    obtain ⟨R, hRR⟩ : ∃ R : List P2 × Int, (if (rotS l K N).length ≤ 8 then (rotS l K N, 0) else ([], 2)) = R := ⟨_, rfl⟩
    rw [hRR]
    have HRR := Lib.hid hRR
    have HS := Lib.hid hs
    rw [← askB_own] at hq
    clear hm hr hv hRR hs
    have hr400 : r ≤ 400 := by omega
    go_enter Try.func35, Try.ntmps35
    go_upto_region 5 with (first
      | (go_at_call 53; (with_reducible refine (asks_val HR.out hq).mono ?_); rintro e w1 ⟨rfl, rfl⟩)
      | (go_at_call 48; (with_reducible refine (table_any _ _ _ _ _ HR.out HV.out).mono ?_); rintro e w3 ⟨a2, n2, c2, rfl, ho, hb2⟩; have hn2 := (ownsI_rd ho).length; have W3 := Lib.hid hb2; clear ho hb2))
    have e2 : (v : Int) % (n2 : Int) = (r : Int) := by rw [← hn2]; exact HRM.out
    try rw [e2]
    clear hn2
    go_loopw [7, 8] (fun u i wr => ∃ k n' : Nat, u = .int .i64 n' ∧ i = .int .i64 k ∧ n' ≤ 400 ∧ CutInv l K N k n' ∧ w3 = wr) (fun _ i _ => n - (intOf i).toNat)
    case atStart => exact ⟨0, r, rfl, rfl, hr400, HST.out, rfl⟩
    case round =>
      clear e2
      obtain ⟨k, n', rfl, rfl, hn', hI, rfl⟩ := hrel
      have HI := Lib.hid hI
      have hkl := hI.some
      rw [HR.out.length] at hkl
      clear hI HST
      obtain ⟨⟨o, sp⟩, bb, off, rfl, hbb, h1, h2, HD⟩ := (HR.out.ext W3.out).next2 k hkl
      have hsp := HSP.out (o, sp) (List.mem_of_mem_drop (i := k) (by rw [HD.out]; simp))
      simp only [] at hsp h1 h2
      obtain ⟨span, rfl⟩ := Int.eq_ofNat_of_zero_le (show 0 ≤ sp by omega)
      have hsp50 : span ≤ 50 := by omega
      by_cases hle : span ≤ n'
      · have HI2 := Lib.hid (HI.out.on HD.out rfl (by simpa using hle))
        have HI3 : Hid (CutInv l K N (k + 1) (n' - span)) := Lib.hid (by have := HI2.out; simpa using this)
        clear hsp HI2
        go_wp2
        go_roundw
        case rel => exact ⟨k + 1, n' - span, by go_num, by go_num, by omega, HI3.out, by first | rfl | trivial⟩
        case measure => simp [intOf]; omega
      · obtain ⟨rfl, rfl⟩ := HI.out.stop HD.out (by simpa using hle)
        have hso : s = (o, (span : Int)) := by have := get_of_drop HD.out; rw [HS.out] at this; simpa using this
        subst hso
        have hsN2 : N ≤ span := by omega
        clear hsp HD HI hsN
        go_upto_region 8 with fail
        have ew : IntKind.i64.wrap ((span : Int) - (N : Int)) = (span : Int) - (N : Int) := IntWalk.i64_in _ (by omega)
        go_region_held3 (fun w' => w'.cell? ⟨bb, off + K * 2, none⟩ = some (.int .i64 o) ∧ w'.cell? ⟨bb, off + K * 2 + 1, none⟩ = some (.int .i64 span)) (first | go_keep) (fail)
        clear ew
        obtain ⟨R8, hR8⟩ : ∃ R, R = rotL l K := ⟨_, rfl⟩
        have HR8 := Lib.hid hR8
        have hRS : rotS l K N = (o, (span : Int) - (N : Int)) :: R8 ++ (if N = 0 then [] else [(o, (N : Int))]) := by unfold rotS; rw [HS.out, hR8]
        have hlen8 : R8.length + 1 = n := by rw [hR8, rotL, ← HNL.out]; simp; omega
        have hR := HRR.out
        rw [hRS] at hR
        have HRX := Lib.hid hR
        have e1 := ES
        obtain ⟨w4, hw4⟩ : ∃ w4, w4 = (w3.alloc (.cells #[.int .i64 o, .int .i64 ((span : Int) - (N : Int))] 27)).drew := ⟨_, rfl⟩
        have HB4 : Hid (Below w3.heap.size w3 w4) := Lib.hid (by rw [hw4]; (repeat' (first | (with_reducible exact Below.refl _ _) | (with_reducible assumption) | (with_reducible refine Below.alloc ?_ ?_ _) | (with_reducible refine Below.drew ?_) | (with_reducible refine Below.draws ?_ _) | (with_reducible refine Below.setCell ?_ ?_ _) | (refine Below.then ?_ (by with_reducible assumption)) | go_size)))
        have HO4 : Hid (w4.ownsRow w3.heap.size 27 2 (.slice (some ⟨w3.heap.size, 0, none⟩) 1 1) 1 (((o, (span : Int) - (N : Int)) :: R8.take (1 - 1)).flatMap enc2)) := Lib.hid (by
          rw [hw4]
          have h := (World.ownsRow_lit (base := w3.heap.size) (e := 27) (size := 2) w3 #[.int .i64 o, .int .i64 ((span : Int) - (N : Int))] 1 (Nat.le_refl _) (by decide) rfl).drew
          exact h)
        rw [← hw4]
        obtain ⟨q, hq⟩ : ∃ q, q = w3.heap.size := ⟨_, rfl⟩
        rw [← hq] at HO4 ⊢
        have HQ := Lib.hid hq
        have hzq : q ≤ w4.heap.size := by rw [hq]; exact HB4.out.size
        clear hw4 hR hRS hR8 h1 h2 HRR hbb hq
        go_upto_region 9 with fail
        go_upto_region 10 with fail
        go_loopw [9, 10] (fun u i wr => ∃ (j : Nat) (a' : Option Addr) (c' : Nat), 1 ≤ j ∧ j ≤ n ∧ u = .slice a' j c' ∧ i = .int .i64 j ∧ wr.ownsRow q 27 2 (.slice a' j c') j (((o, (span : Int) - (N : Int)) :: R8.take (j - 1)).flatMap enc2) ∧ Below q w3 wr) (fun _ i _ => n - (intOf i).toNat)
        case atStart => exact ⟨1, _, 1, Nat.le_refl _, hn1, rfl, rfl, HO4.out, by rw [HQ.out]; exact HB4.out⟩
        case round =>
          clear HO4
          obtain ⟨j, a', c', hj1, hj, rfl, rfl, hown, hB⟩ := hrel
          have HO := Lib.hid hown
          have HB : Hid (Below w3.heap.size w3 wr) := Lib.hid (by rw [← HQ.out]; exact hB)
          have hz : q ≤ wr.heap.size := by rw [HQ.out]; exact HB.out.size
          clear hown hB
          by_cases hlt : j < n
          · obtain ⟨x, hx⟩ : ∃ x, (K + j) % n = x := ⟨_, rfl⟩
            obtain ⟨hxl, hget⟩ := rotL_get (x := x) hK hj1 (by rw [HNL.out]; exact hlt) (by rw [HNL.out]; exact hx)
            rw [HNL.out] at hxl
            have ex : ((K : Int) + (j : Int)) % (n : Int) = (x : Int) := by rw [← hx]; simp
            obtain ⟨⟨y, y'⟩, b3, o3, e3, hb3, g1, g2, HD⟩ := (HR.out.ext (Below.then W3.out HB.out)).next2 x hxl
            simp at e3
            obtain ⟨rfl, rfl⟩ := e3
            simp only [] at g1 g2
            have hgx : R8[j - 1]? = some (y, y') := by rw [HR8.out, hget]; exact get_of_drop HD.out
            have HTK : Hid (R8.take (j + 1 - 1) = R8.take (j - 1) ++ [(y, y')]) := Lib.hid (by rw [show j + 1 - 1 = j - 1 + 1 by omega, List.take_add_one, hgx]; rfl)
            clear hx hget HD hgx
            go_wp2_with (at_builtin; refine wpList_push (B := q) rfl _ _ _ rfl e1 rfl HO.out rfl rfl (by intro u hu; simp at hu; rcases hu with rfl | rfl <;> rfl) (by omega) (by decide) hz ?_; intro a6 c6 w6 hown6 hb6; have HO6 := Lib.hid hown6; have HB6 := Lib.hid hb6; clear hown6 hb6)
            go_roundw
            case rel => exact ⟨j + 1, a6, c6, by omega, by omega, rfl, by go_num, by rw [HTK.out, ← List.cons_append, List.flatMap_append]; exact HO6.out, (by rw [HQ.out]; exact HB.out.trans (HQ.out ▸ HB6.out))⟩
            case measure => simp [intOf]; omega
          · have hjn : j = n := by omega
            subst hjn
            have HO5 : Hid (wr.ownsRow q 27 2 (.slice a' j c') j (((o, (span : Int) - (N : Int)) :: R8).flatMap enc2)) := Lib.hid (by
              have := HO.out
              rw [List.take_of_length_le (by omega)] at this; exact this)
            have W35 := Lib.hid (Below.then W3.out HB.out)
            clear HO
            by_cases hN : N = 0
            · subst hN
              have hR : R = ((o, (span : Int) - (0 : Nat)) :: R8, 0) := by
                have := HRX.out
                rw [if_pos (by simp; omega)] at this
                rw [← this]; simp
              subst hR
              clear HRX
              go_wp2
              go_ret2
              exact ⟨_, _, _, rfl, owns_mono HO5.out (by rw [HQ.out]; exact W3.out.size), W35.out⟩
            · have hN0 : 0 < N := by omega
              have HRX2 : Hid ((if j + 1 ≤ 8 then ((o, (span : Int) - (N : Int)) :: R8 ++ [(o, (N : Int))], 0) else ([], 2)) = R) := Lib.hid (by
                have := HRX.out
                rw [if_neg hN] at this
                rw [← this]
                have e : ((o, (span : Int) - (N : Int)) :: R8 ++ [(o, (N : Int))]).length = j + 1 := by simp; omega
                rw [e])
              obtain ⟨⟨o', sp'⟩, bb2, off2, e4, hb4, g1, g2, HD4⟩ := (HR.out.ext (Below.then W3.out HB.out)).next2 K hkl
              simp at e4
              obtain ⟨rfl, rfl⟩ := e4
              obtain ⟨rfl, rfl⟩ : o' = o ∧ sp' = (span : Int) := by have := get_of_drop HD4.out; rw [HS.out] at this; simp at this; exact ⟨this.1.symm, this.2.symm⟩
              simp only [] at g1 g2
              clear hN HRX HD4
              by_cases h8 : j + 1 ≤ 8
              · have hR : R = ((o', (span : Int) - (N : Int)) :: R8 ++ [(o', (N : Int))], 0) := by rw [← HRX2.out, if_pos h8]
                subst hR
                clear HRX2
                go_wp2_with (at_builtin; refine wpList_push (B := q) rfl _ _ _ rfl e1 rfl HO5.out rfl rfl (by intro u hu; simp at hu; rcases hu with rfl | rfl <;> rfl) (by omega) (by decide) hz ?_; intro a6 c6 w6 hown6 hb6; have HO6 := Lib.hid hown6; have HB6 := Lib.hid hb6; clear hown6 hb6)
                go_ret2
                have hfin : w6.ownsRow q 27 2 (.slice a6 (j + 1) c6) (j + 1) (((o', (span : Int) - (N : Int)) :: R8 ++ [(o', (N : Int))]).flatMap enc2) := by rw [List.flatMap_append]; exact HO6.out
                exact ⟨_, _, _, rfl, owns_mono hfin (by rw [HQ.out]; exact W3.out.size), W35.out.trans (HB6.out.mono (by rw [HQ.out]; exact W3.out.size))⟩
              · have hR : R = ([], 2) := by rw [← HRX2.out, if_neg h8]
                subst hR
                clear HRX2
                go_wp2_with (at_builtin; refine wpList_push (B := q) rfl _ _ _ rfl e1 rfl HO5.out rfl rfl (by intro u hu; simp at hu; rcases hu with rfl | rfl <;> rfl) (by omega) (by decide) hz ?_; intro a6 c6 w6 hown6 hb6; have HO6 := Lib.hid hown6; have HB6 := Lib.hid hb6; clear hown6 hb6)
                go_ret2
                exact OutSE.none (W35.out.trans (HB6.out.mono (by rw [HQ.out]; exact W3.out.size)))
end Go.Proofs.Ytgldgomjlcojaaa
