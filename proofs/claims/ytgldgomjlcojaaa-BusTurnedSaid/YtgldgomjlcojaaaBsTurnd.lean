/- The contract of Turned of the program. The conditions: the slots read as named. -/
import Derived.Test.YtgldgomjlcojaaaBsCut
namespace Go.Proofs.Ytgldgomjlcojaaa
open Go.RowKit
set_option linter.unusedSimpArgs false
set_option linter.unusedVariables false
theorem Rd.dropN {w : World} {b off n k i : Nat} {xs : List (List Value)} (h : Rd w (some ⟨b, off, none⟩) n k xs) (hi : i ≤ n) : Rd w (some ⟨b, off + i * k, none⟩) (n - i) k (xs.drop i) := by
  refine ⟨by rw [List.length_drop, h.len], by have := h.small; omega, fun h0 => ?_⟩
  obtain ⟨b', off', e, hb, hc⟩ := h.at_ (by omega)
  simp at e
  obtain ⟨rfl, rfl⟩ := e
  refine ⟨b, off + i * k, rfl, hb, fun q hq j hj => ?_⟩
  have hq2 : i + q < xs.length := by simp at hq; omega
  have := hc (i + q) hq2 j hj
  rw [Nat.add_mul] at this
  rw [show off + i * k + q * k + j = off + (i * k + q * k) + j by omega, this]
  simp
theorem Rd.takeN {w : World} {a : Option Addr} {n k i : Nat} {xs : List (List Value)} (h : Rd w a n k xs) (hi : i ≤ n) : Rd w a i k (xs.take i) := by
  have hl := h.len
  refine ⟨by rw [List.length_take]; omega, by have := h.small; omega, fun h0 => ?_⟩
  obtain ⟨b', off', rfl, hb, hc⟩ := h.at_ (by omega)
  refine ⟨b', off', rfl, hb, fun q hq j hj => ?_⟩
  have hq2 : q < xs.length := by simp at hq; omega
  rw [hc q hq2 j hj]; simp
abbrev TS : Nat := 27
/-- a list of slots that the call made -/
def OutS (B : Nat) (w : World) (xs : List P2) (e : Ending) (w' : World) : Prop :=
  ∃ a n c, e = .returned (.slice a n c) ∧ w'.ownsRow B 27 2 (.slice a n c) n (xs.flatMap enc2) ∧ Below B w w'
def OutSE (B : Nat) (w : World) (xs : List P2) (er : Int) (e : Ending) (w' : World) : Prop :=
  ∃ a n c, e = .returned (.tuple #[.slice a n c, .int .i64 er]) ∧ w'.ownsRow B 27 2 (.slice a n c) n (xs.flatMap enc2) ∧ Below B w w'
theorem OutSE.none {B : Nat} {w w' : World} {er : Int} (hb : Below B w w') : OutSE B w [] er (.returned (.tuple #[.slice none 0 0, .int .i64 er])) w' := ⟨_, _, _, rfl, World.ownsRow_nil _ _ _ _, hb⟩
theorem clone_any (ad : Addr) (n c : Nat) (l : List P2) (w : World) (hn : n ≤ 1000) (hR : Rd w (some ad) n 2 (l.map enc2)) :
    Calls Try.prog 62 #[.slice (some ad) n c] w (OutS w.heap.size w l) := by
  have HR := Lib.hid hR
  have e1 := ES
  have HOW : Hid ((w.alloc (.cells #[] 27)).ownsRow w.heap.size 27 2 (.slice (some ⟨w.heap.size, 0, none⟩) 0 0) 0 []) := Lib.hid (World.ownsRow_lit w #[] 0 (Nat.le_refl _) (by decide) rfl)
  have heq := Lib.run_eql_slice_nil (P := Try.prog) w 22 27 (some ad) n c 0 0 Try.underlying22
  clear hR
  go_enter Try.func62, Try.ntmps62
  go_wp2_with (at_builtin; refine wpList_pushAll (B := w.heap.size) (n := 0) (xs := []) rfl _ _ _ rfl e1 enc2_len enc2_one rfl HOW.out rfl (HR.out.ext (by (repeat' (first | (with_reducible exact Below.refl _ _) | (with_reducible assumption) | (with_reducible refine Below.alloc ?_ ?_ _) | (with_reducible refine Below.drew ?_) | (with_reducible refine Below.draws ?_ _) | (with_reducible refine Below.setCell ?_ ?_ _) | (refine Below.then ?_ (by with_reducible assumption)) | go_size)))) (fun _ => .inr ⟨_, rfl⟩) (by omega) (by decide) (by simp) ?_; intro v2 w2 hown2 hv2 hb2)
  rw [Nat.zero_add, List.nil_append] at hown2
  obtain ⟨a', c', rfl⟩ := hv2
  rw [Nat.zero_add] at hown2 ⊢
  go_ret
  exact ⟨_, _, _, rfl, hown2, Below.trans (by (repeat' (first | (with_reducible exact Below.refl _ _) | (with_reducible assumption) | (with_reducible refine Below.alloc ?_ ?_ _) | (with_reducible refine Below.drew ?_) | (with_reducible refine Below.draws ?_ _) | (with_reducible refine Below.setCell ?_ ?_ _) | (refine Below.then ?_ (by with_reducible assumption)) | go_size))) hb2⟩
theorem owns_some {w : World} {B e k n c : Nat} {a : Option Addr} {xs : List Value} (h : w.ownsRow B e k (.slice a n c) n xs) (hn : 0 < n) : ∃ g, a = some ⟨g, 0, none⟩ ∧ B ≤ g ∧ g < w.heap.size := by
  rcases h.2 with ⟨_, h8⟩ | ⟨g, cap, cur, hv, hB, hg, _⟩
  · omega
  · simp at hv; exact ⟨g, hv.1, hB, (Array.getElem?_eq_some_iff.1 hg).1⟩
theorem owns2_at {w : World} {B g n c : Nat} {xs : List P2} (h : w.ownsRow B 27 2 (.slice (some ⟨g, 0, none⟩) n c) n (xs.flatMap enc2)) {i : Nat} {x : P2} (hx : xs[i]? = some x) :
    w.cell? ⟨g, i * 2, none⟩ = some (.int .i64 x.1) ∧ w.cell? ⟨g, i * 2 + 1, none⟩ = some (.int .i64 x.2) := by
  obtain ⟨hi, rfl⟩ := List.getElem?_eq_some_iff.1 hx
  have hl := (Rd.of_owns enc2_len (by decide) h).length
  have h0 := flat_get enc2_len xs i 0 hi (by omega)
  have h1 := flat_get enc2_len xs i 1 hi (by omega)
  rw [Nat.add_zero] at h0
  rw [h.cellAt (i * 2) (by omega), h.cellAt (i * 2 + 1) (by omega), h0, h1]
  exact ⟨rfl, rfl⟩
theorem flat2_head (x y z : Int) (xs : List P2) : (((x, y) :: xs).flatMap enc2).set 1 (.int .i64 z) = ((x, z) :: xs).flatMap enc2 := rfl
structure CutInv (l : List P2) (K N k n : Nat) : Prop where
  lt : n < (tableS (l.drop k)).length
  k_ : k + (cutS (l.drop k) n).1 = K
  n_ : (cutS (l.drop k) n).2 = N
theorem CutInv.start {l : List P2} {n : Nat} (h : n < (tableS l).length) : CutInv l (cutS l n).1 (cutS l n).2 0 n := ⟨h, by simp, rfl⟩
theorem CutInv.some {l : List P2} {K N k n : Nat} (h : CutInv l K N k n) : k < l.length := by
  by_cases q : k < l.length
  · exact q
  · have := h.lt; rw [List.drop_of_length_le (by omega)] at this; simp [tableS] at this
theorem CutInv.on {l : List P2} {K N k n : Nat} {s : P2} {r : List P2} (h : CutInv l K N k n) (hd : l.drop k = s :: r) (hr : r = l.drop (k + 1)) (hs : s.2.toNat ≤ n) : CutInv l K N (k + 1) (n - s.2.toNat) := by
  obtain ⟨h1, h2, h3⟩ := h
  rw [hd, hr] at h1 h2 h3
  rw [tableS_cons] at h1
  simp at h1
  unfold cutS at h2 h3
  rw [if_pos hs] at h2 h3
  simp only [] at h2 h3
  exact ⟨by omega, by omega, h3⟩
theorem CutInv.stop {l : List P2} {K N k n : Nat} {s : P2} {r : List P2} (h : CutInv l K N k n) (hd : l.drop k = s :: r) (hs : ¬ s.2.toNat ≤ n) : K = k ∧ N = n := by
  obtain ⟨h1, h2, h3⟩ := h
  rw [hd] at h2 h3
  unfold cutS at h2 h3
  rw [if_neg hs] at h2 h3
  simp only [] at h2 h3
  exact ⟨by omega, by omega⟩
set_option maxRecDepth 10000 in
set_option maxHeartbeats 4000000 in
theorem Turned_any (a : Option Addr) (n c : Nat) (l : List P2) (b : Int) (w : World) (hR : Rd w a n 2 (l.map enc2)) (hc : n ≤ c ∧ c ≤ 9223372036854775807) :
    Calls Try.prog 34 #[.slice a n c, .int .i64 b] w (OutSE w.heap.size w (turnR l b).1 (turnR l b).2) := by
  have HR := Lib.hid hR
  clear hR
  unfold turnR
  cases hv : validS l
  · go_enter Try.func34, Try.ntmps34
    go_wp2_with (go_at_call 32; (with_reducible refine (valid_val HR.out hv).mono ?_); rintro e w1 ⟨rfl, hb1⟩; have W1 := Lib.hid hb1; clear hb1)
    go_ret2
    exact OutSE.none W1.out
  · cases hm : inB b 0 1000000
    · go_enter Try.func34, Try.ntmps34
      go_wp2_with (first
        | (go_at_call 32; (with_reducible refine (valid_val HR.out hv).mono ?_); rintro e w1 ⟨rfl, hb1⟩; have W1 := Lib.hid hb1; clear hb1)
        | (go_at_call 56; refine (within_val hm).mono ?_; rintro e w1 ⟨rfl, rfl⟩))
      go_ret2
      exact OutSE.none W1.out
    · obtain ⟨ht1, ht2⟩ := inB_iff.1 hm
      obtain ⟨v, rfl⟩ := Int.eq_ofNat_of_zero_le ht1
      have HM := Lib.hid hm
      obtain ⟨htl, htl4⟩ := tableS_len hv
      have HV := Lib.hid hv
      have hn8 : n ≤ 8 := by rw [← HR.out.length]; exact (validS_iff.1 hv).2.1
      have hn1 : 1 ≤ n := by rw [← HR.out.length]; exact (validS_iff.1 hv).1
      have HSP := Lib.hid (validS_iff.1 hv).2.2
      rw [show (true && true) = true from rfl, if_pos rfl, Int.toNat_natCast]
      obtain ⟨r, hr⟩ : ∃ r, v % (tableS l).length = r := ⟨_, rfl⟩
      have hrl : r < (tableS l).length := hr ▸ Nat.mod_lt _ (by omega)
      have HRM : Hid ((v : Int) % ((tableS l).length : Int) = (r : Int)) := Lib.hid (by rw [Int.mod_nat, hr])
      rw [hr]
      have HST := Lib.hid (CutInv.start hrl)
      obtain ⟨hK, s, hs, hsN⟩ := cutS_lt hrl
      generalize (cutS l r).1 = K at *
      generalize (cutS l r).2 = N at *
      obtain ⟨R, hRR⟩ : ∃ R : List P2 × Int, (if (rotS l K N).length ≤ 8 then (rotS l K N, 0) else ([], 2)) = R := ⟨_, rfl⟩
      rw [hRR]
      have HRR := Lib.hid hRR
      have HS := Lib.hid hs
      clear hm hr hv hRR hs
      have hr400 : r ≤ 400 := by omega
      go_enter Try.func34, Try.ntmps34
      go_upto_region 5 with (first
        | (go_at_call 32; (with_reducible refine (valid_val HR.out HV.out).mono ?_); rintro e w1 ⟨rfl, hb1⟩; have W1 := Lib.hid hb1; clear hb1)
        | (go_at_call 56; refine (within_val HM.out).mono ?_; rintro e w1 ⟨rfl, rfl⟩)
        | (go_at_call 45; (with_reducible refine (turning_any _ _ _ l _ (HR.out.ext W1.out) HV.out).mono ?_); rintro e w2 ⟨h, rfl, hrows, hb2⟩; have W2 := Lib.hid (Below.then W1.out hb2); have hn0 := hrows.rdW.len; (have e2 : (v : Int) % ((h 0).n : Int) = (r : Int) := by rw [hn0]; exact HRM.out); (have i1 : (0 : Int) < ((h 0).n : Int) := by omega); (have i2 : (h 0).n ≤ 400 := by omega); clear hrows hb2 hn0)
        | (go_at_call 55; (with_reducible refine (period_any h _).mono ?_); rintro e w3 ⟨rfl, hb3⟩; have W3 := Lib.hid (Below.then W2.out hb3); clear hb3))
      rw [e2]
      clear e2 i1 i2
      go_loopw [1, 6] (fun u i wr => ∃ k n' : Nat, u = .int .i64 n' ∧ i = .int .i64 k ∧ n' ≤ 400 ∧ CutInv l K N k n' ∧ w3 = wr) (fun _ i _ => n - (intOf i).toNat)
      case atStart => exact ⟨0, r, rfl, rfl, hr400, HST.out, rfl⟩
      case round =>
        obtain ⟨k, n', rfl, rfl, hn', hI, rfl⟩ := hrel
        have HI := Lib.hid hI
        have hkl := hI.some
        rw [HR.out.length] at hkl
        clear hI HST
        obtain ⟨⟨o, sp⟩, bb, off, rfl, hbb, h1, h2, HD⟩ := (HR.out.ext W3.out).next2 k hkl
        have hsp := HSP.out (o, sp) (List.mem_of_mem_drop (i := k) (by rw [HD.out]; simp))
        simp only [] at hsp h1 h2
        obtain ⟨span, rfl⟩ := Int.eq_ofNat_of_zero_le (show 0 ≤ sp by omega)
        have hsp50 : span ≤ 50 := by omega
        by_cases hle : span ≤ n'
        · have HI2 := Lib.hid (HI.out.on HD.out rfl (by simpa using hle))
          have HI3 : Hid (CutInv l K N (k + 1) (n' - span)) := Lib.hid (by have := HI2.out; simpa using this)
          clear hsp HI2
          go_wp2
          go_roundw
          case rel => exact ⟨k + 1, n' - span, by go_num, by go_num, by omega, HI3.out, by first | rfl | trivial⟩
          case measure => simp [intOf]; omega
        · obtain ⟨rfl, rfl⟩ := HI.out.stop HD.out (by simpa using hle)
          have hso : s = (o, (span : Int)) := by have := get_of_drop HD.out; rw [HS.out] at this; simpa using this
          subst hso
          clear hsp HD HI hsN
          go_upto_region 8 with fail
          obtain ⟨R8, hR8⟩ : ∃ R, R = rotL l K := ⟨_, rfl⟩
          have HDR := Lib.hid ((HR.out.ext W3.out).dropN (i := K) (by omega))
          have HTK := Lib.hid ((HR.out.ext W3.out).takeN (i := K) (by omega))
          have i1 : (0 : Int) ≤ (K : Int) := by omega
          have i2 : (K : Int) ≤ (n : Int) := by omega
          have i3 : (n : Int) ≤ (c : Int) := by omega
          have i4 : (K : Int) ≤ (c : Int) := by omega
          have e1 := ES
          have i5 : ¬ c = K := by omega
          have i6 : n - K ≤ 1000 := by omega
          clear hn'
          go_region_held3 (fun w' => True) (trivial)
            (first
              | (go_at_call 62
                 refine (clone_any ⟨bb, off + K * 2, none⟩ (n - K) (c - K) (l.drop K) _ i6 (by rw [List.map_drop]; exact HDR.out.ext (by (repeat' (first | (with_reducible exact Below.refl _ _) | (with_reducible assumption) | (with_reducible refine Below.alloc ?_ ?_ _) | (with_reducible refine Below.drew ?_) | (with_reducible refine Below.draws ?_ _) | (with_reducible refine Below.setCell ?_ ?_ _) | (refine Below.then ?_ (by with_reducible assumption)) | go_size))))).mono ?_
                 rintro e w4 ⟨a4, n4, c4, rfl, hown4, hb4⟩
                 have hn4 : n4 = n - K := by have := (Rd.of_owns enc2_len (by decide) hown4).length; rw [List.length_drop, HR.out.length] at this; exact this.symm
                 subst hn4
                 have W4 : Hid (Below w3.heap.size w3 w4) := Lib.hid (Below.then (by (repeat' (first | (with_reducible exact Below.refl _ _) | (with_reducible assumption) | (with_reducible refine Below.alloc ?_ ?_ _) | (with_reducible refine Below.drew ?_) | (with_reducible refine Below.draws ?_ _) | (with_reducible refine Below.setCell ?_ ?_ _) | (refine Below.then ?_ (by with_reducible assumption)) | go_size))) hb4)
                 have HO4 : Hid (w4.ownsRow w3.heap.size 27 2 (.slice a4 (n - K) c4) (n - K) ((l.drop K).flatMap enc2)) := Lib.hid (owns_mono hown4 (by simp))
                 have hz4 := W4.out.size
                 clear hown4 hb4)
              | (refine step_app (by rfl) _ _ _ (by rfl) e1 (B := w3.heap.size) (by rfl) (by exact HO4.out) (by rfl) (news := (l.take K).flatMap enc2) (by rw [flat_len enc2_len, List.length_take, HR.out.length, Nat.min_eq_left (by omega)]) (by exact News.rd enc2_len (by decide) (by rw [List.map_take]; exact HTK.out.ext W4.out) (fun _ => .inr ⟨_, rfl⟩)) (by intro u hu; obtain ⟨y, _, hy⟩ := List.mem_flatMap.1 hu; exact enc2_one y u hy) (by omega) (by decide) (by omega) ?_
                 intro a5 c5 w5 hown5 hg5
                 have W5 : Hid (Below w3.heap.size w3 w5) := Lib.hid (W4.out.trans (grown_below HO4.out hg5 hz4))
                 have HO5 : Hid (w5.ownsRow w3.heap.size 27 2 (.slice a5 (n - K + K) c5) (n - K + K) ((l.drop K ++ l.take K).flatMap enc2)) := Lib.hid (by rw [List.flatMap_append]; exact hown5)
                 clear hown5 hg5))
          have hL0 : l.drop K ++ l.take K = (o, (span : Int)) :: R8 := by
            rw [hR8, rotL, List.drop_eq_getElem_cons hK]
            have : l[K] = (o, (span : Int)) := by have := HS.out; simpa [hK] using this
            rw [this]; rfl
          have hRS : rotS l K N = (o, (span : Int) - (N : Int)) :: R8 ++ (if N = 0 then [] else [(o, (N : Int))]) := by unfold rotS; rw [HS.out, hR8]
          rw [show n - K + K = n by omega, hL0] at HO5
          rw [show n - K + K = n by omega]
          have hlen8 : R8.length + 1 = n := by have := (Rd.of_owns enc2_len (by decide) HO5.out).length; simpa using this
          obtain ⟨g, rfl, hgB, hgl⟩ := owns_some HO5.out (by omega)
          obtain ⟨x0, x1⟩ := owns2_at HO5.out (i := 0) (x := (o, (span : Int))) rfl
          simp only [Nat.zero_mul, Nat.zero_add] at x0 x1
          have hR := HRR.out
          rw [hRS] at hR
          have HRX := Lib.hid hR
          have W35 := Lib.hid (Below.then W3.out W5.out)
          clear hL0 hRS hR8 HO4 W4 HDR HTK HRR i1 i2 i3 i4 i5 i6 h1 h2 HS hbb hR hK
          by_cases hN : N = 0
          · subst hN
            have hR : R = ((o, (span : Int)) :: R8, 0) := by
              have := HRX.out
              rw [if_pos (by simp; omega)] at this
              rw [← this]; simp
            subst hR
            clear HRX
            go_wp2
            go_ret2
            exact ⟨_, _, _, rfl, owns_mono HO5.out W3.out.size, W35.out⟩
          · have hN0 : 0 < N := by omega
            clear hN
            have hz5 := W5.out.size
            go_upto_region 11 with (at_builtin; refine wpList_push (B := w3.heap.size) rfl _ _ _ rfl e1 rfl HO5.out rfl rfl (by intro u hu; simp at hu; rcases hu with rfl | rfl <;> rfl) (by omega) (by decide) hz5 ?_; intro a6 c6 w6 hown6 hb6)
            have hown7 : w6.ownsRow w3.heap.size 27 2 (.slice a6 (n + 1) c6) (n + 1) (((o, (span : Int)) :: (R8 ++ [(o, (N : Int))])).flatMap enc2) := by
              have e : ((o, (span : Int)) :: (R8 ++ [(o, (N : Int))])).flatMap enc2 = ((o, (span : Int)) :: R8).flatMap enc2 ++ [.int .i64 o, .int .i64 N] := by rw [← List.cons_append, List.flatMap_append]; rfl
              rw [e]; exact hown6
            obtain ⟨g6, rfl, hgB6, hgl6⟩ := owns_some hown7 (by omega)
            obtain ⟨y0, y1⟩ := owns2_at hown7 (i := 0) (x := (o, (span : Int))) rfl
            simp only [Nat.zero_mul, Nat.zero_add] at y0 y1
            have y2 := hown7.frozenAt 1
            have hst := (hown7.stored 1 (.int .i64 ((span : Int) - (N : Int)))).1
            rw [flat2_head] at hst
            have HST := Lib.hid hst
            have HB6 : Hid (Below w.heap.size w (w6.setCell ⟨g6, 1, none⟩ (.int .i64 ((span : Int) - (N : Int))))) := Lib.hid (Below.setCell (W35.out.trans (hb6.mono W3.out.size)) (Nat.le_trans W3.out.size hgB6) _)
            have HRX2 : Hid ((if n + 1 ≤ 8 then (((o, (span : Int) - (N : Int)) :: (R8 ++ [(o, (N : Int))]), 0) : List P2 × Int) else ([], 2)) = R) := Lib.hid (by
              have := HRX.out
              rw [if_neg (show ¬ N = 0 by omega)] at this
              rw [← this]
              have e : ((o, (span : Int) - (N : Int)) :: R8 ++ [(o, (N : Int))]).length = n + 1 := by simp; omega
              rw [e]; rfl)
            clear hown6 hown7 hb6 hst HRX x0 x1 hgB hgl HO5
            have hsN : N ≤ span := by omega
            by_cases h8 : n + 1 ≤ 8
            · have hR : R = ((o, (span : Int) - (N : Int)) :: (R8 ++ [(o, (N : Int))]), 0) := by rw [← HRX2.out, if_pos h8]
              subst hR
              clear HRX2
              go_wp2
              go_ret2
              exact ⟨_, _, _, rfl, owns_mono HST.out W3.out.size, HB6.out⟩
            · have hR : R = ([], 2) := by rw [← HRX2.out, if_neg h8]
              subst hR
              clear HRX2
              go_wp2
              go_ret2
              exact OutSE.none HB6.out
end Go.Proofs.Ytgldgomjlcojaaa
