/- The contract of the program's ends. The conditions: the run and the entries read as named. The contract of the reference's Ends. The conditions: the run reads as named. The contracts of Late and Meets, of both sides. The conditions: the run reads as named. -/
import Derived.Test.YtmahagcghpoekaaGreatMg1
import Derived.Test.YtmahagcghpoekaaGreatMg3
import Derived.Test.YtmahagcghpoekaaGreatMg8
import Derived.Test.YtmahagcghpoekaaGreatMg12
import Derived.Deep.RegionHeld3
import Derived.Deep.Cut
import Derived.OwnWalk
namespace Go.Proofs.YtmahagcghpoekaaGreat
open Go.RowKit
set_option linter.unusedSimpArgs false
set_option linter.unusedVariables false
/-- a slice of lists of ints -/
structure RdE (w : World) (a : Option Addr) (n : Nat) (X : Nat → List Int) : Prop where
  sm : n ≤ 9223372036854775807
  at_ : ∀ k, k < n → ∃ (b off : Nat) (ea : Option Addr) (en ec : Nat), a = some ⟨b, off, none⟩ ∧ b < w.heap.size ∧ w.cell? ⟨b, off + k, none⟩ = some (.slice ea en ec) ∧ Rd w ea en 1 ((X k).map enc1)
theorem RdE.ext {w w' : World} {a : Option Addr} {n : Nat} {X : Nat → List Int} (h : RdE w a n X) (hb : Below w.heap.size w w') : RdE w' a n X :=
  ⟨h.sm, fun k hk => by
    obtain ⟨b, off, ea, en, ec, e, h1, h2, h3⟩ := h.at_ k hk
    exact ⟨b, off, ea, en, ec, e, Nat.lt_of_lt_of_le h1 hb.size, (hb.cell (p := ⟨b, off + k, none⟩) h1).trans h2, h3.ext hb⟩⟩
theorem IRows.put {B N : Nat} {w : World} {h X} (hR : IRows B w N h X) {i : Nat} (hi : i < N) {g : Nat} (hg : (h i).a = some ⟨g, 0, none⟩) (x : Nat) (v : Int) :
    IRows B (w.setCell ⟨g, x, none⟩ (.int .i64 v)) N h (updF X i ((X i).set x v)) := by
  have hs : sl (h i) = .slice (some ⟨g, 0, none⟩) (h i).n (h i).c := by unfold sl; rw [hg]
  have ho := hR.own i hi
  rw [hs] at ho
  have hgr := (ho.stored x (.int .i64 v)).2
  refine ⟨fun k hk => ?_, hR.apart⟩
  by_cases e : k = i
  · subst e; rw [updF_same, hs]; exact ownsI_set ho x v
  · rw [updF_other _ _ e]
    refine (hR.own k hk).kept hgr ?_
    have := hR.apart k i hk hi e
    rw [hs] at this
    exact this
theorem updF_ends {R : Rn} {o : List En} {e : En} (h : e.w = 5) {k x : Nat} (hk : e.k = (k : Int)) (hx : e.a = (x : Int)) : endsRow R (o ++ [e]) = updF (endsRow R o) k ((endsRow R o k).set x e.m) := by
  funext i
  rw [endsRow_over R h hk hx]
  unfold updF
  split
  · rename_i q; subst q; rfl
  · rfl
theorem same_ends {R : Rn} {o : List En} {e : En} (h : e.w ≠ 5) : endsRow R (o ++ [e]) = endsRow R o := by funext i; exact endsRow_other R h i
theorem take_one {α : Type} {l : List α} {j : Nat} {x : α} (h : l[j]? = some x) : l.take (j + 1) = l.take j ++ [x] := by rw [List.take_add_one, h]; rfl
set_option maxRecDepth 100000 in
set_option maxHeartbeats 8000000 in
theorem ends_any (H : RunH) (R : Rn) (o : List En) (a : Option Addr) (n c : Nat) (w : World) (hR : RdRun w H R) (hr : RnOk R) (ho : Rd w a n 5 (o.map encE)) (hn : n ≤ 100000000)
    (hok : ∀ e ∈ o, e.w = 5 → ∃ i x : Nat, e.k = (i : Int) ∧ e.a = (x : Int) ∧ i < R.L.length ∧ x < (evA R i).length) :
    Calls Tryz.prog 27 #[.agg #[.slice H.tA H.tN H.tC, .int .i64 R.fr, .int .i64 R.sl, .slice H.eA H.eN H.eC, .slice H.bA H.bN H.bC, .slice H.sA H.sN H.sC], .slice a n c] w fun e w' => ∃ a', e = .returned (.slice a' R.L.length R.L.length) ∧ RdE w' a' R.L.length (endsRow R o) ∧ Below w.heap.size w w' := by
  have htn := hR.t.length
  have hen := hR.e.len
  have hen2 := hr.ev
  have hL5 := hr.r.len
  have HR := Lib.hid hR; have HRN := Lib.hid hr; have HO := Lib.hid ho; have HOK := Lib.hid hok
  obtain ⟨nL, hnL⟩ : ∃ x, R.L.length = x := ⟨_, rfl⟩
  rw [hnL]
  have HNL := Lib.hid hnL
  have htn' : H.tN = nL := by omega
  have hEN : H.eN = nL := by omega
  have hn5 : nL ≤ 5 := by omega
  obtain ⟨fr, hfr⟩ : ∃ x, R.fr = x := ⟨_, rfl⟩
  obtain ⟨sl_, hsl⟩ : ∃ x, R.sl = x := ⟨_, rfl⟩
  rw [htn', hfr, hsl, hEN]
  have HEN := Lib.hid hEN
  obtain ⟨eA, heA⟩ : ∃ x, H.eA = x := ⟨_, rfl⟩
  rw [heA]
  have HEA := Lib.hid heA
  clear hR hr htn hnL htn' hfr hsl hen hen2 hEN ho hok heA
  have hmk2 := run_make_row' (P := Tryz.prog) 38 26 (.slice none 0 0) 24 Tryz.underlying38 (by kernel_rfl) rfl .i64 .i64 nL (by omega) (by omega)
  go_enter Tryz.func27, Tryz.ntmps27
  go_wp2
  obtain ⟨w2, hw2⟩ : ∃ x, x = (w.alloc (.cells #[.slice H.tA nL H.tC, .int .i64 fr, .int .i64 sl_, .slice eA nL H.eC, .slice H.bA H.bN H.bC, .slice H.sA H.sN H.sC] 29)).alloc (.cells (madeCells #[.slice none 0 0] nL) 26) := ⟨_, rfl⟩
  have hBk : Blk w2 (w.heap.size + 1) (madeCells #[.slice none 0 0] nL) := by rw [hw2]; exact Blk.at _ _ _ _ (by simp)
  have hBx : Blk w2 w.heap.size #[.slice H.tA nL H.tC, .int .i64 fr, .int .i64 sl_, .slice eA nL H.eC, .slice H.bA H.bN H.bC, .slice H.sA H.sN H.sC] := by rw [hw2]; exact (Blk.at _ _ _ _ rfl).old _
  have hb2 : Below w.heap.size w w2 := by rw [hw2]; (repeat' (first | (with_reducible exact Below.refl _ _) | (with_reducible assumption) | (with_reducible refine Below.alloc ?_ ?_ _) | (with_reducible refine Below.drew ?_) | (with_reducible refine Below.draws ?_ _) | (with_reducible refine Below.setCell ?_ ?_ _) | (refine Below.then ?_ (by with_reducible assumption)) | go_size))
  have hz2 : w2.heap.size = w.heap.size + 2 := by rw [hw2]; simp
  have x3 := hBx.c 3
  simp at x3
  rw [← hw2]
  have HB2 := Lib.hid hb2; have HBK := Lib.hid hBk; have HX3 := Lib.hid x3
  have hI0 : IRows w2.heap.size w2 nL (fun _ => ⟨none, 0, 0⟩) (fun _ => []) := ⟨fun i hi => World.ownsRow_nil _ _ _ _, fun i j _ _ _ => .inl rfl⟩
  have HI0 := Lib.hid hI0
  clear hw2 hBk hBx hb2 hI0 hmk2
  go_loopw [15] (fun v wr => ∃ (k : Nat) (h : Nat → Hdr), k ≤ nL ∧ v = .int .i64 k ∧ IRows w2.heap.size wr nL h (fun i => if i < k then endsRow R [] i else []) ∧ (∀ i, i < nL → wr.cell? ⟨w.heap.size + 1, i, none⟩ = some (sl (h i))) ∧ (∀ j, wr.frozen? ⟨w.heap.size + 1, j, none⟩ = false) ∧ wr.cell? ⟨w.heap.size, 3, none⟩ = some (.slice eA nL H.eC) ∧ w2.heap.size ≤ wr.heap.size ∧ Below w.heap.size w wr) (fun v _ => nL - (intOf v).toNat)
  case atStart => exact ⟨0, _, Nat.zero_le _, rfl, by simpa using HI0.out, fun i hi => by rw [HBK.out.c, made_one _ _ _ hi], HBK.out.f, HX3.out, Nat.le_refl _, HB2.out⟩
  case round =>
    clear x3
    obtain ⟨k, h, hk, rfl, hI, hW, hF, hX, hz, hB⟩ := hrel
    have HI := Lib.hid hI; have HW := Lib.hid hW; have HF := Lib.hid hF; have HB := Lib.hid hB
    by_cases hkn : k < nL
    · have hkE : k < H.eN := by rw [HEN.out]; exact hkn
      have hkL : k < R.L.length := by rw [HNL.out]; exact hkn
      have hkev : k < R.ev.length := by rw [HRN.out.ev]; exact hkL
      obtain ⟨b, off, ea, en, ec, hea, hb, hc, hRd⟩ := HR.out.e.at_ k hkE
      have hel := HRN.out.el (evAt R.ev k) (by unfold evAt; rw [List.getElem?_eq_getElem hkev]; exact List.getElem_mem hkev)
      have hen40 : en ≤ 40 := by rw [← hRd.length]; exact hel.1
      have hlen : (evA R k).length = en := hRd.length
      have HLEN := Lib.hid hlen
      have hc' := (hB.cell (p := ⟨b, off + k, none⟩) hb).trans hc
      obtain rfl : eA = some ⟨b, off, none⟩ := HEA.out.symm.trans hea
      have hWk := hW k hkn
      have hFk := hF k
      have hWz : w.heap.size + 1 < wr.heap.size := by omega
      have hWz0 : w.heap.size < wr.heap.size := by omega
      have hbz := World.block_lt_of_cell? _ _ hc'
      simp only [] at hbz
      clear hI hW hF hB hel hRd hc hea hlen
      go_wp2_with (go_at_call 61; (with_reducible refine (repeat_any _ en _ _ (by omega) (by simp [go_sem])).mono ?_); rintro e w6 ⟨g6, rfl, hown6, hb6⟩; have hb6' : Below wr.heap.size wr w6 := Below.trans (by (repeat' (first | (with_reducible exact Below.refl _ _) | (with_reducible assumption) | (with_reducible refine Below.alloc ?_ ?_ _) | (with_reducible refine Below.drew ?_) | (with_reducible refine Below.draws ?_ _) | (with_reducible refine Below.setCell ?_ ?_ _) | (refine Below.then ?_ (by with_reducible assumption)) | go_size))) (hb6.mono (by simp)); have y0 := (hb6'.cell (p := ⟨w.heap.size + 1, k, none⟩) hWz).trans hWk; have y1 := (hb6'.frozen (p := ⟨w.heap.size + 1, k, none⟩) hWz).trans hFk; have HB6 := Lib.hid hb6'; have HO6 := Lib.hid (owns_mono hown6 (show wr.heap.size ≤ _ by simp)); clear hown6 hb6 hb6')
      go_roundw
      case rel =>
        have hfr := HI.out.fresh hkn HB6.out hz (d := ⟨some ⟨g6, 0, none⟩, en, en⟩) HO6.out
        have hz6 := HB6.out.size
        refine ⟨k + 1, updF h k ⟨some ⟨g6, 0, none⟩, en, en⟩, hkn, by go_num, ?_, fun i hi => ?_, fun j => ?_, ?_, ?_, ?_⟩
        · have e : (fun i => if i < k + 1 then endsRow R [] i else []) = updF (fun i => if i < k then endsRow R [] i else []) k (List.replicate en (-1)) := by
            funext i
            unfold updF
            by_cases q : i = k
            · subst q; rw [if_pos rfl, if_pos (by omega), endsRow_nil, HLEN.out]
            · rw [if_neg q]
              show _ = (if i < k then endsRow R [] i else [])
              by_cases q2 : i < k
              · rw [if_pos q2, if_pos (by omega)]
              · rw [if_neg q2, if_neg (by omega)]
          rw [e]
          exact hfr.far (by omega) _
        · by_cases q : i = k
          · subst q
            rw [updF_same]
            exact World.cell?_setCell_same _ _ _ y0
          · rw [updF_other _ _ q]
            exact (World.cell?_setCell_other _ _ _ _ (addr_neS (.inr (fun q2 => q q2.symm)))).trans ((HB6.out.cell (p := ⟨w.heap.size + 1, i, none⟩) hWz).trans (HW.out i hi))
        · rw [World.frozen?_setCell]
          exact (HB6.out.frozen (p := ⟨w.heap.size + 1, j, none⟩) hWz).trans (HF.out j)
        · exact (World.cell?_setCell_other _ _ _ _ (addr_neS (.inl (by omega)))).trans ((HB6.out.cell (p := ⟨w.heap.size, 3, none⟩) (show w.heap.size < wr.heap.size by omega)).trans hX)
        · simp; omega
        · exact (HB.out.trans (HB6.out.mono HB.out.size)).setCell (p := ⟨w.heap.size + 1, k, none⟩) (show w.heap.size ≤ w.heap.size + 1 by omega) _
      case measure => simp [intOf]; omega
    · have hkn2 : k = nL := by omega
      subst hkn2
      have hI2 : IRows w2.heap.size wr k h (endsRow R (o.take 0)) := by
        refine ⟨fun i hi => ?_, hI.apart⟩
        have := hI.own i hi
        rw [if_pos hi] at this
        exact this
      have HI2 := Lib.hid hI2
      clear hI hI2 HI
      go_wp2
      go_loopw [32] (fun v wr => ∃ j : Nat, j ≤ n ∧ v = .int .i64 j ∧ IRows w2.heap.size wr k h (endsRow R (o.take j)) ∧ (∀ i, i < k → wr.cell? ⟨w.heap.size + 1, i, none⟩ = some (sl (h i))) ∧ w2.heap.size ≤ wr.heap.size ∧ Below w.heap.size w wr) (fun v _ => n - (intOf v).toNat)
      case atStart => exact ⟨0, Nat.zero_le _, rfl, HI2.out, HW.out, hz, HB.out⟩
      case round =>
        clear HI2 hX hW hF
        obtain ⟨j, hj, rfl, hI, hW, hz3, hB3⟩ := hrel
        have HI := Lib.hid hI; have HW3 := Lib.hid hW; have HB3 := Lib.hid hB3
        by_cases hjn : j < n
        · obtain ⟨x, b1, o1, rfl, hb1, hx, q0, q1, q2, q3, q4⟩ := (HO.out.ext HB3.out).en_at j hjn
          have HX := Lib.hid hx
          have htk := take_one hx
          obtain ⟨m1, k1, w1', a1, c1⟩ := x
          simp only [] at q0 q1 q2 q3 q4
          have hzx : w.heap.size + 1 < wr.heap.size := by omega
          by_cases h5 : w1' = 5
          · subst h5
            obtain ⟨i, xx, hik, hia, hil, hxl⟩ := HOK.out _ (List.mem_of_getElem? hx) rfl
            simp only [] at hik hia
            subst hik; subst hia
            have hin : i < k := by rw [← HNL.out]; exact hil
            have hWi := hW i hin
            have hlen := hI.len hin
            rw [endsRow_len] at hlen
            have hown := hI.own i hin
            obtain ⟨g, hga⟩ : ∃ g, (h i).a = some ⟨g, 0, none⟩ := by
              rcases hown.2 with ⟨hv, h0⟩ | ⟨g', cap', cur, hv, _⟩
              · omega
              · unfold sl at hv; simp at hv; exact ⟨g', hv.1⟩
            unfold sl at hWi
            rw [hga] at hWi
            obtain ⟨hn', hhn⟩ : ∃ x, (h i).n = x := ⟨_, rfl⟩
            rw [hhn] at hWi hlen
            have hs : sl (h i) = .slice (some ⟨g, 0, none⟩) (h i).n (h i).c := by unfold sl; rw [hga]
            rw [hs] at hown
            obtain ⟨yv, _, d1, f1, gl⟩ := ownsI_at hown xx (by omega)
            have hxn : xx < hn' := by omega
            have hgB : w2.heap.size ≤ g := (hown.lt g rfl).1
            have HGA := Lib.hid hga
            have HTK := Lib.hid htk
            clear hI hW hB3 hown hhn hs hga hx htk hlen
            go_wp2
            go_region
            all_goals
              go_wp2_with fail
              go_roundw
              case rel =>
                have hp := (HI.out.put hin HGA.out xx m1).ext (w' := ((wr.setCell ⟨g, xx, none⟩ (.int .i64 m1)).alloc (.cells #[.int .i64 m1, .int .i64 (i : Int), .int .i64 5, .int .i64 (xx : Int), .int .i64 c1] 69)).drew) (by (repeat' (first | (with_reducible exact Below.refl _ _) | (with_reducible assumption) | (with_reducible refine Below.alloc ?_ ?_ _) | (with_reducible refine Below.drew ?_) | (with_reducible refine Below.draws ?_ _) | (with_reducible refine Below.setCell ?_ ?_ _) | (refine Below.then ?_ (by with_reducible assumption)) | go_size)))
                refine ⟨j + 1, by omega, by go_num, ?_, fun i2 hi2 => ?_, ?_, ?_⟩
                · rw [HTK.out, updF_ends rfl rfl rfl]
                  exact hp
                · have e1 := (World.cell?_setCell_other wr ⟨g, xx, none⟩ ⟨w.heap.size + 1, i2, none⟩ (.int .i64 m1) (addr_neS (.inl (by omega)))).trans (HW3.out i2 hi2)
                  exact ((show Below (wr.setCell ⟨g, xx, none⟩ (.int .i64 m1)).heap.size (wr.setCell ⟨g, xx, none⟩ (.int .i64 m1)) _ by (repeat' (first | (with_reducible exact Below.refl _ _) | (with_reducible assumption) | (with_reducible refine Below.alloc ?_ ?_ _) | (with_reducible refine Below.drew ?_) | (with_reducible refine Below.draws ?_ _) | (with_reducible refine Below.setCell ?_ ?_ _) | (refine Below.then ?_ (by with_reducible assumption)) | go_size))).cell (p := ⟨w.heap.size + 1, i2, none⟩) (by simp; omega)).trans e1
                · simp; omega
                · refine Below.then (HB3.out.setCell (p := ⟨g, xx, none⟩) (show w.heap.size ≤ g by omega) (.int .i64 m1)) ?_
                  (repeat' (first | (with_reducible exact Below.refl _ _) | (with_reducible assumption) | (with_reducible refine Below.alloc ?_ ?_ _) | (with_reducible refine Below.drew ?_) | (with_reducible refine Below.draws ?_ _) | (with_reducible refine Below.setCell ?_ ?_ _) | (refine Below.then ?_ (by with_reducible assumption)) | go_size))
              case measure => simp [intOf]; omega
          · have h5' : (w1' == 5) = false := by simpa using h5
            have HTK := Lib.hid htk
            clear hI hW hB3 hx htk
            go_wp2
            go_roundw
            case rel =>
              refine ⟨j + 1, by omega, by go_num, ?_, fun i2 hi2 => ?_, ?_, ?_⟩
              · rw [HTK.out, same_ends h5]
                exact HI.out.ext (by (repeat' (first | (with_reducible exact Below.refl _ _) | (with_reducible assumption) | (with_reducible refine Below.alloc ?_ ?_ _) | (with_reducible refine Below.drew ?_) | (with_reducible refine Below.draws ?_ _) | (with_reducible refine Below.setCell ?_ ?_ _) | (refine Below.then ?_ (by with_reducible assumption)) | go_size)))
              · exact ((show Below wr.heap.size wr _ by (repeat' (first | (with_reducible exact Below.refl _ _) | (with_reducible assumption) | (with_reducible refine Below.alloc ?_ ?_ _) | (with_reducible refine Below.drew ?_) | (with_reducible refine Below.draws ?_ _) | (with_reducible refine Below.setCell ?_ ?_ _) | (refine Below.then ?_ (by with_reducible assumption)) | go_size))).cell (p := ⟨w.heap.size + 1, i2, none⟩) hzx).trans (HW3.out i2 hi2)
              · simp; omega
              · exact HB3.out.trans (by (repeat' (first | (with_reducible exact Below.refl _ _) | (with_reducible assumption) | (with_reducible refine Below.alloc ?_ ?_ _) | (with_reducible refine Below.drew ?_) | (with_reducible refine Below.draws ?_ _) | (with_reducible refine Below.setCell ?_ ?_ _) | (refine Below.then ?_ (by with_reducible assumption)) | go_size)))
            case measure => simp [intOf]; omega
        · have hjn2 : j = n := by omega
          subst hjn2
          rw [List.take_of_length_le (by rw [HO.out.length]; exact Nat.le_refl _)] at hI
          have HIF := Lib.hid hI
          clear hI hW hB3
          go_wp2
          go_ret
          refine ⟨_, rfl, ⟨by omega, fun i hi => ⟨w.heap.size + 1, 0, (h i).a, (h i).n, (h i).c, rfl, by omega, by rw [Nat.zero_add]; exact HW3.out i hi, ownsI_rd (HIF.out.own i hi)⟩⟩, HB3.out⟩
/-- what Ends gives: the rows (of so many tasks), the error -/
def OutX (w : World) (n : Nat) (X : Nat → List Int) (er : Int) (e : Ending) (w' : World) : Prop :=
  ∃ a c, e = .returned (.tuple #[.slice a n c, .int .i64 er]) ∧ RdE w' a n X ∧ Below w.heap.size w w'
theorem RdE.nil (w : World) (a : Option Addr) (X : Nat → List Int) : RdE w a 0 X := ⟨by omega, fun k hk => absurd hk (Nat.not_lt_zero k)⟩
/-- the number of tasks, the rows, the error of Ends -/
def endN (R : Rn) (t : Int) : Nat := if (runB R && inB t 0 2000) = true then R.L.length else 0
def endX (R : Rn) (t : Int) : Nat → List Int := endsRow R (plM R t.toNat).o
def endE (R : Rn) (t : Int) : Int := if (runB R && inB t 0 2000) = true then 0 else 1
theorem plM_ok5 {R : Rn} (hr : RnOk R) (k : Nat) : ∀ e ∈ (plM R k).o, e.w = 5 → ∃ i x : Nat, e.k = (i : Int) ∧ e.a = (x : Int) ∧ i < R.L.length ∧ x < (evA R i).length := by
  obtain ⟨_, _, h⟩ := plM_ei hr k
  exact h.ok
theorem plM_olen {R : Rn} (hr : RnOk R) {k : Nat} (hk : k ≤ 2000) : (plM R k).o.length ≤ 504000 := by have := plM_o hr k; omega
set_option maxRecDepth 10000 in
set_option maxHeartbeats 2000000 in
theorem Ends_any (H : RunH) (R : Rn) (t : Int) (w : World) (hR : ReadRun w H R) : Calls Tryz.prog 11 #[runV H R.fr R.sl, .int .i64 t] w (OutX w (endN R t) (endX R t) (endE R t)) := by
  obtain ⟨B, hB⟩ : ∃ B, (runB R && inB t 0 2000) = B := ⟨_, rfl⟩
  unfold endN endE
  rw [hB]
  have HI := Lib.hid (fun w1 (hb : Below w.heap.size w w1) => is_any H R t w1 (hR.ext hb) hB)
  cases B
  · obtain ⟨fr, hfr⟩ : ∃ x, R.fr = x := ⟨_, rfl⟩
    obtain ⟨sl_, hsl⟩ : ∃ x, R.sl = x := ⟨_, rfl⟩
    rw [hfr, hsl] at HI ⊢
    obtain ⟨tA, tN, tC, eA, eN, eC, bA, bN, bC, sA, sN, sC⟩ := H
    unfold runV at HI ⊢
    simp only [] at HI ⊢
    clear hR hB hfr hsl
    go_enter Tryz.func11, Tryz.ntmps11
    go_wp2_with (go_at_call 26; (with_reducible refine (HI.out _ (by (repeat' (first | (with_reducible exact Below.refl _ _) | (with_reducible assumption) | (with_reducible refine Below.alloc ?_ ?_ _) | (with_reducible refine Below.drew ?_) | (with_reducible refine Below.draws ?_ _) | (with_reducible refine Below.setCell ?_ ?_ _) | (refine Below.then ?_ (by with_reducible assumption)) | go_size)))).mono ?_); rintro e w1 ⟨rfl, hb1⟩; have B1 : Hid (Below w.heap.size w w1) := Lib.hid (Below.trans (by (repeat' (first | (with_reducible exact Below.refl _ _) | (with_reducible assumption) | (with_reducible refine Below.alloc ?_ ?_ _) | (with_reducible refine Below.drew ?_) | (with_reducible refine Below.draws ?_ _) | (with_reducible refine Below.setCell ?_ ?_ _) | (refine Below.then ?_ (by with_reducible assumption)) | go_size))) (hb1.mono (by simp))); have z1 : w.heap.size < w1.heap.size := Nat.lt_of_lt_of_le (by simp) hb1.size; have c1_0 := (hb1.cell (p := ⟨w.heap.size, 0, none⟩) (by simp)).trans (by simp [go_sem]; rfl); have c1_1 := (hb1.cell (p := ⟨w.heap.size, 1, none⟩) (by simp)).trans (by simp [go_sem]; rfl); have c1_2 := (hb1.cell (p := ⟨w.heap.size, 2, none⟩) (by simp)).trans (by simp [go_sem]; rfl); have c1_3 := (hb1.cell (p := ⟨w.heap.size, 3, none⟩) (by simp)).trans (by simp [go_sem]; rfl); have c1_4 := (hb1.cell (p := ⟨w.heap.size, 4, none⟩) (by simp)).trans (by simp [go_sem]; rfl); have c1_5 := (hb1.cell (p := ⟨w.heap.size, 5, none⟩) (by simp)).trans (by simp [go_sem]; rfl); clear hb1)
    go_ret2
    exact ⟨_, _, rfl, RdE.nil _ _ _, B1.out⟩
  · rw [Bool.and_eq_true, inB_iff] at hB
    obtain ⟨tn, rfl⟩ := Int.eq_ofNat_of_zero_le hB.2.1
    rw [if_pos rfl, if_pos rfl]
    unfold endX
    rw [Int.toNat_natCast]
    obtain ⟨hr, _⟩ := run_ok hB.1
    have htn : tn ≤ 2000 := by omega
    have HP := Lib.hid (fun w1 (hb : Below w.heap.size w w1) => play_any H R tn w1 (hR.ext hb).rd hr htn)
    have HEN := Lib.hid (fun (w1 : World) (a : Option Addr) (n c : Nat) (hb : Below w.heap.size w w1) (hx : Rd w1 a n 5 ((plM R tn).o.map encE)) => ends_any H R (plM R tn).o a n c w1 (hR.ext hb).rd hr hx (by have h1 := hx.length; have h2 := plM_olen hr htn; omega) (plM_ok5 hr tn))
    obtain ⟨nL, hnL⟩ : ∃ x, R.L.length = x := ⟨_, rfl⟩
    obtain ⟨fr, hfr⟩ : ∃ x, R.fr = x := ⟨_, rfl⟩
    obtain ⟨sl_, hsl⟩ : ∃ x, R.sl = x := ⟨_, rfl⟩
    rw [hnL] at HEN ⊢
    rw [hfr, hsl] at HI HP HEN ⊢
    obtain ⟨tA, tN, tC, eA, eN, eC, bA, bN, bC, sA, sN, sC⟩ := H
    unfold runV at HI ⊢
    simp only [] at HI HP HEN ⊢
    clear hR hB hfr hsl hnL hr
    go_enter Tryz.func11, Tryz.ntmps11
    go_upto_region 3 with (go_at_call 26; (with_reducible refine (HI.out _ (by (repeat' (first | (with_reducible exact Below.refl _ _) | (with_reducible assumption) | (with_reducible refine Below.alloc ?_ ?_ _) | (with_reducible refine Below.drew ?_) | (with_reducible refine Below.draws ?_ _) | (with_reducible refine Below.setCell ?_ ?_ _) | (refine Below.then ?_ (by with_reducible assumption)) | go_size)))).mono ?_); rintro e w1 ⟨rfl, hb1⟩; have B1 : Hid (Below w.heap.size w w1) := Lib.hid (Below.trans (by (repeat' (first | (with_reducible exact Below.refl _ _) | (with_reducible assumption) | (with_reducible refine Below.alloc ?_ ?_ _) | (with_reducible refine Below.drew ?_) | (with_reducible refine Below.draws ?_ _) | (with_reducible refine Below.setCell ?_ ?_ _) | (refine Below.then ?_ (by with_reducible assumption)) | go_size))) (hb1.mono (by simp))); have z1 : w.heap.size < w1.heap.size := Nat.lt_of_lt_of_le (by simp) hb1.size; have c1_0 := (hb1.cell (p := ⟨w.heap.size, 0, none⟩) (by simp)).trans (by simp [go_sem]; rfl); have c1_1 := (hb1.cell (p := ⟨w.heap.size, 1, none⟩) (by simp)).trans (by simp [go_sem]; rfl); have c1_2 := (hb1.cell (p := ⟨w.heap.size, 2, none⟩) (by simp)).trans (by simp [go_sem]; rfl); have c1_3 := (hb1.cell (p := ⟨w.heap.size, 3, none⟩) (by simp)).trans (by simp [go_sem]; rfl); have c1_4 := (hb1.cell (p := ⟨w.heap.size, 4, none⟩) (by simp)).trans (by simp [go_sem]; rfl); have c1_5 := (hb1.cell (p := ⟨w.heap.size, 5, none⟩) (by simp)).trans (by simp [go_sem]; rfl); clear hb1)
    go_region_held3 (fun w' => w'.cell? ⟨w.heap.size, 0, none⟩ = some (.slice tA tN tC) ∧ w'.cell? ⟨w.heap.size, 1, none⟩ = some (.int .i64 fr) ∧ w'.cell? ⟨w.heap.size, 2, none⟩ = some (.int .i64 sl_) ∧ w'.cell? ⟨w.heap.size, 3, none⟩ = some (.slice eA eN eC) ∧ w'.cell? ⟨w.heap.size, 4, none⟩ = some (.slice bA bN bC) ∧ w'.cell? ⟨w.heap.size, 5, none⟩ = some (.slice sA sN sC)) (first | go_keep)
      (first
        | (go_at_call 28; (with_reducible refine (HP.out _ B1.out.drew).mono ?_); rintro e w2 ⟨a2, n2, c2', rfl, h2, hb2x⟩; have HO2 := Lib.hid (Rd.of_owns encE_len (by decide) h2); have hb2 : Below w1.heap.size w1 w2 := Below.then (Below.refl w1.heap.size w1).drew hb2x; clear h2 hb2x; have B2 := Lib.hid (Below.then B1.out hb2); have z2 : w.heap.size < w2.heap.size := Nat.lt_of_lt_of_le z1 hb2.size; have c2_0 := (hb2.cell (p := ⟨w.heap.size, 0, none⟩) z1).trans c1_0; have c2_1 := (hb2.cell (p := ⟨w.heap.size, 1, none⟩) z1).trans c1_1; have c2_2 := (hb2.cell (p := ⟨w.heap.size, 2, none⟩) z1).trans c1_2; have c2_3 := (hb2.cell (p := ⟨w.heap.size, 3, none⟩) z1).trans c1_3; have c2_4 := (hb2.cell (p := ⟨w.heap.size, 4, none⟩) z1).trans c1_4; have c2_5 := (hb2.cell (p := ⟨w.heap.size, 5, none⟩) z1).trans c1_5; clear hb2 c1_0 c1_1 c1_2 c1_3 c1_4 c1_5)
        | (go_at_call 27; (with_reducible refine (HEN.out _ _ _ _ B2.out HO2.out).mono ?_); rintro e w3 ⟨a3, rfl, h3, hb3⟩; have HX3 := Lib.hid h3; clear h3; have B3 := Lib.hid (Below.then B2.out hb3); have z3 : w.heap.size < w3.heap.size := Nat.lt_of_lt_of_le z2 hb3.size; have c3_0 := (hb3.cell (p := ⟨w.heap.size, 0, none⟩) z2).trans c2_0; have c3_1 := (hb3.cell (p := ⟨w.heap.size, 1, none⟩) z2).trans c2_1; have c3_2 := (hb3.cell (p := ⟨w.heap.size, 2, none⟩) z2).trans c2_2; have c3_3 := (hb3.cell (p := ⟨w.heap.size, 3, none⟩) z2).trans c2_3; have c3_4 := (hb3.cell (p := ⟨w.heap.size, 4, none⟩) z2).trans c2_4; have c3_5 := (hb3.cell (p := ⟨w.heap.size, 5, none⟩) z2).trans c2_5; clear hb3 c2_0 c2_1 c2_2 c2_3 c2_4 c2_5))
    all_goals
      go_wp2_with fail
      go_ret2
      exact ⟨_, _, rfl, HX3.out, B3.out⟩
end Go.Proofs.YtmahagcghpoekaaGreat
namespace Go.Proofs.YtmahagcghpoekaaGreat
open Go.RowKit
set_option linter.unusedSimpArgs false
set_option linter.unusedVariables false
theorem ERow : Elt Tryz.prog 38 26 1 24 := Elt.mk' (z := .slice none 0 0) Tryz.underlying38 (by kernel_rfl) rfl (by decide)
def hdrs (i : Nat) (h : Nat → Hdr) : List Value := (List.range i).map (fun j => sl (h j))
theorem hdrs_succ (i : Nat) (h : Nat → Hdr) (d : Hdr) : hdrs (i + 1) (updF h i d) = hdrs i h ++ [sl d] := by
  unfold hdrs
  rw [List.range_succ, List.map_append, List.map_singleton, updF_same]
  congr 1
  refine List.map_congr_left (fun j hj => ?_)
  rw [List.mem_range] at hj
  rw [updF_other _ _ (by omega)]
theorem hdrs_rd {w : World} {B n c : Nat} {a : Option Addr} {h : Nat → Hdr} {X : Nat → List Int} (ho : w.ownsRow B 26 1 (.slice a n c) n (hdrs n h)) (hn : n ≤ 1000) (hx : ∀ i, i < n → Rd w (h i).a (h i).n 1 ((X i).map enc1)) : RdE w a n X := by
  refine ⟨by omega, fun k hk => ?_⟩
  rcases ho.2 with ⟨_, h0⟩ | ⟨g, cap, cur, hv, hB, hg, _⟩
  · omega
  · simp at hv
    obtain ⟨rfl, rfl⟩ := hv
    refine ⟨g, 0, (h k).a, (h k).n, (h k).c, rfl, (Array.getElem?_eq_some_iff.1 hg).1, ?_, hx k hk⟩
    rw [Nat.zero_add, ho.cellAt k (by simpa using hk)]
    simp [hdrs, hk]
theorem endsRow_take {R : Rn} {o : List En} {i k : Nat} (h : k < (evA R i).length) : (endsRow R o i).take (k + 1) = (endsRow R o i).take k ++ [endF o i (k : Int)] := take_one (endsRow_get h)
theorem endF_take {o : List En} {n : Nat} {e : En} (h : o[n]? = some e) (i : Nat) (x : Int) : endF (o.take (n + 1)) i x = endG i x (endF (o.take n) i x) e := by rw [take_one h, endF_one]
end Go.Proofs.YtmahagcghpoekaaGreat
namespace Go.Proofs.YtmahagcghpoekaaGreat
open Go.RowKit
set_option linter.unusedSimpArgs false
set_option linter.unusedVariables false
def dueA (R : Rn) (i k : Nat) : Int := (((evA R i)[k]?).getD default).1 + (taAt R.L i).dl
def xAt (X : Nat → List Int) (i k : Nat) : Int := ((X i)[k]?).getD 0
/-- what is found late so far: the first due, the task, the event -/
abbrev LS := Int × Int × Int
def lateS (R : Rn) (X : Nat → List Int) (i k : Nat) (s : LS) : LS := if dueA R i k < s.1 ∧ (xAt X i k < 0 ∨ dueA R i k < xAt X i k) then (dueA R i k, (i : Int), (k : Int)) else s
def lateRow (R : Rn) (X : Nat → List Int) (i : Nat) : Nat → Nat → LS → LS
  | 0, _, s => s
  | f + 1, k, s => lateRow R X i f (k + 1) (lateS R X i k s)
def lateAll (R : Rn) (X : Nat → List Int) : Nat → Nat → LS → LS
  | 0, _, s => s
  | f + 1, i, s => lateAll R X f (i + 1) (lateRow R X i (evA R i).length 0 s)
def lateF (R : Rn) (t : Int) : LS := lateAll R (endX R t) R.L.length 0 (t + 1, -1, -1)
def lateR (R : Rn) (t : Int) : Int × Int × Int := if (runB R && inB t 0 2000) = true then (if 0 ≤ (lateF R t).2.1 then ((lateF R t).2.1, (lateF R t).2.2, 15) else (-1, -1, 0)) else (0, 0, 1)
def meetsR (R : Rn) (t : Int) : Bool × Int := if (runB R && inB t 0 2000) = true then (decide ((lateF R t).2.1 < 0), 0) else (false, 1)
def rIII (x y z : Int) : Ending := .returned (.tuple #[.int .i64 x, .int .i64 y, .int .i64 z])
theorem RdRun.late {w : World} {H : RunH} {R : Rn} (hR : RdRun w H R) (hr : RnOk R) (hv : ValidT R.L) {i k : Nat} (hi : i < R.L.length) (hk : k < (evA R i).length) :
    ∃ (eb eo en ec vb vo : Nat) (x y : Int) (tb toff : Nat) (d : Int), H.eA = some ⟨eb, eo, none⟩ ∧ w.cell? ⟨eb, eo + i, none⟩ = some (.slice (some ⟨vb, vo, none⟩) en ec) ∧ (evA R i).length = en ∧ w.cell? ⟨vb, vo + k * 2, none⟩ = some (.int .i64 x) ∧
    H.tA = some ⟨tb, toff, none⟩ ∧ w.cell? ⟨tb, toff + i * 6 + 1, none⟩ = some (.int .i64 d) ∧ x + d = dueA R i k ∧ (0 ≤ x ∧ x ≤ 1000000) ∧ (0 ≤ d ∧ d ≤ 10000) ∧ eb < w.heap.size ∧ vb < w.heap.size ∧ tb < w.heap.size ∧ i < H.tN ∧ i < H.eN := by
  have hkev : i < R.ev.length := by rw [hr.ev]; exact hi
  have hie : i < H.eN := by have := hR.e.len; omega
  have hit : i < H.tN := by have := hR.t.length; omega
  obtain ⟨b, off, ea, en, ec, hea, hb, hc, hRd⟩ := hR.e.at_ i hie
  have hlen : (evA R i).length = en := hRd.length
  obtain ⟨x, y, vb, vo, rfl, hvb, g0, g1, hg, _⟩ := hRd.pc_at' k (by omega)
  have hel := (hr.el (evA R i) (by unfold evA; rw [List.getElem?_eq_getElem hkev]; exact List.getElem_mem hkev)).2 (x, y) (List.mem_of_getElem? hg)
  simp only [] at hel
  obtain ⟨t, tb, toff, pa, pn, pc, hta, htb, _, h1, _, _, _, _, _, _, ht, _⟩ := hR.t.at_ i hit
  have htm : taAt R.L i = t := taAt_of ht
  have htM := List.mem_of_getElem? ht
  have d1 := hv.dl t htM
  have d2 := hv.gap t htM
  have hvz : vb < w.heap.size := hvb
  refine ⟨b, off, en, ec, vb, vo, x, y, tb, toff, t.dl, hea, hc, hlen, g0, hta, h1, ?_, hel.1, by omega, hb, hvz, htb, hit, hie⟩
  have hg' : (evA R i)[k]? = some (x, y) := hg
  unfold dueA
  rw [hg', htm]; rfl
theorem RdE.xat {w : World} {a : Option Addr} {n : Nat} {X : Nat → List Int} (h : RdE w a n X) {i k : Nat} (hi : i < n) (hk : k < (X i).length) :
    ∃ (b off xb xo en ec : Nat), a = some ⟨b, off, none⟩ ∧ b < w.heap.size ∧ w.cell? ⟨b, off + i, none⟩ = some (.slice (some ⟨xb, xo, none⟩) en ec) ∧ (X i).length = en ∧ xb < w.heap.size ∧ w.cell? ⟨xb, xo + k, none⟩ = some (.int .i64 (xAt X i k)) := by
  obtain ⟨b, off, ea, en, ec, rfl, hb, hc, hR⟩ := h.at_ i hi
  have hl := hR.length
  obtain ⟨y, xb, xo, rfl, hxb, hx, hy⟩ := hR.idx k (by omega)
  refine ⟨b, off, xb, xo, en, ec, rfl, hb, hc, hl, hxb, ?_⟩
  have : xAt X i k = y := by unfold xAt; rw [hy]; rfl
  rw [this]; exact hx
theorem RdE.row {w : World} {a : Option Addr} {n : Nat} {X : Nat → List Int} (h : RdE w a n X) {i : Nat} (hi : i < n) :
    ∃ (b off : Nat) (ea : Option Addr) (en ec : Nat), a = some ⟨b, off, none⟩ ∧ b < w.heap.size ∧ w.cell? ⟨b, off + i, none⟩ = some (.slice ea en ec) ∧ (X i).length = en ∧ Rd w ea en 1 ((X i).map enc1) := by
  obtain ⟨b, off, ea, en, ec, rfl, hb, hc, hR⟩ := h.at_ i hi
  exact ⟨b, off, ea, en, ec, rfl, hb, hc, hR.length, hR⟩
set_option maxRecDepth 100000 in
set_option maxHeartbeats 8000000 in
theorem Late_any (H : RunH) (R : Rn) (t : Int) (w : World) (hR : ReadRun w H R) : Calls Tryz.prog 44 #[runV H R.fr R.sl, .int .i64 t] w fun e w' => e = rIII (lateR R t).1 (lateR R t).2.1 (lateR R t).2.2 ∧ Below w.heap.size w w' := by
  have HE := Lib.hid (fun w1 (hb : Below w.heap.size w w1) => Ends_any H R t w1 (hR.ext hb))
  obtain ⟨B, hB⟩ : ∃ B, (runB R && inB t 0 2000) = B := ⟨_, rfl⟩
  unfold lateR
  unfold endE endN at HE
  rw [hB] at HE ⊢
  cases B
  · obtain ⟨fr, hfr⟩ : ∃ x, R.fr = x := ⟨_, rfl⟩
    obtain ⟨sl_, hsl⟩ : ∃ x, R.sl = x := ⟨_, rfl⟩
    rw [hfr, hsl] at HE ⊢
    obtain ⟨tA, tN, tC, eA, eN, eC, bA, bN, bC, sA, sN, sC⟩ := H
    unfold runV at HE ⊢
    simp only [] at HE ⊢
    clear hR hB hfr hsl
    go_enter Tryz.func44, Tryz.ntmps44
    go_wp2_with (go_at_call 11; (with_reducible refine (HE.out _ (by (repeat' (first | (with_reducible exact Below.refl _ _) | (with_reducible assumption) | (with_reducible refine Below.alloc ?_ ?_ _) | (with_reducible refine Below.drew ?_) | (with_reducible refine Below.draws ?_ _) | (with_reducible refine Below.setCell ?_ ?_ _) | (refine Below.then ?_ (by with_reducible assumption)) | go_size)))).mono ?_); rintro e w1 ⟨a1, c1, rfl, h1, hb1⟩; have HX1 := Lib.hid h1; clear h1; have B1 : Hid (Below w.heap.size w w1) := Lib.hid (Below.trans (by (repeat' (first | (with_reducible exact Below.refl _ _) | (with_reducible assumption) | (with_reducible refine Below.alloc ?_ ?_ _) | (with_reducible refine Below.drew ?_) | (with_reducible refine Below.draws ?_ _) | (with_reducible refine Below.setCell ?_ ?_ _) | (refine Below.then ?_ (by with_reducible assumption)) | go_size))) (hb1.mono (by simp))); have z1 : w.heap.size < w1.heap.size := Nat.lt_of_lt_of_le (by simp) hb1.size; have c1_0 := (hb1.cell (p := ⟨w.heap.size, 0, none⟩) (by simp)).trans (by simp [go_sem]; rfl); have c1_1 := (hb1.cell (p := ⟨w.heap.size, 1, none⟩) (by simp)).trans (by simp [go_sem]; rfl); have c1_2 := (hb1.cell (p := ⟨w.heap.size, 2, none⟩) (by simp)).trans (by simp [go_sem]; rfl); have c1_3 := (hb1.cell (p := ⟨w.heap.size, 3, none⟩) (by simp)).trans (by simp [go_sem]; rfl); have c1_4 := (hb1.cell (p := ⟨w.heap.size, 4, none⟩) (by simp)).trans (by simp [go_sem]; rfl); have c1_5 := (hb1.cell (p := ⟨w.heap.size, 5, none⟩) (by simp)).trans (by simp [go_sem]; rfl); clear hb1)
    refine bodyPost_ret (results_tmp3 rfl _ _ _) rfl ?_
    exact ⟨rfl, B1.out⟩
  · rw [if_pos rfl, if_pos rfl] at HE
    rw [if_pos rfl]
    rw [Bool.and_eq_true, inB_iff] at hB
    obtain ⟨hr, hvl, _⟩ := run_ok hB.1
    have hv := valid_of hvl
    have hL5 := hr.r.len
    obtain ⟨X, hX⟩ : ∃ X, endX R t = X := ⟨_, rfl⟩
    have hXl : ∀ i, (X i).length = (evA R i).length := fun i => by rw [← hX]; exact endsRow_len _ _ _
    rw [hX] at HE
    obtain ⟨F, hF⟩ : ∃ F, lateF R t = F := ⟨_, rfl⟩
    rw [hF]
    obtain ⟨Z, hZ⟩ : ∃ Z : Int × Int × Int, (if 0 ≤ F.2.1 then (F.2.1, F.2.2, 15) else (-1, -1, 0)) = Z := ⟨_, rfl⟩
    rw [hZ]
    have HZ := Lib.hid hZ
    clear hZ
    unfold lateF at hF
    rw [hX] at hF
    have HR := Lib.hid hR.rd; have HRN := Lib.hid hr; have HV := Lib.hid hv; have HXL := Lib.hid hXl
    obtain ⟨nL, hnL⟩ : ∃ x, R.L.length = x := ⟨_, rfl⟩
    have HNL := Lib.hid hnL
    rw [hnL] at hF HE
    have HF0 : Hid (lateAll R X (nL - 0) 0 (t + 1, -1, -1) = F) := Lib.hid hF
    obtain ⟨fr, hfr⟩ : ∃ x, R.fr = x := ⟨_, rfl⟩
    obtain ⟨sl_, hsl⟩ : ∃ x, R.sl = x := ⟨_, rfl⟩
    rw [hfr, hsl] at HE ⊢
    obtain ⟨tA, tN, tC, eA, eN, eC, bA, bN, bC, sA, sN, sC⟩ := H
    unfold runV at HE ⊢
    simp only [] at HE HR ⊢
    have wt : IntKind.i64.wrap (t + 1) = t + 1 := IntWalk.i64_in _ (by omega)
    have ht := hB.2
    clear hR hB hfr hsl hnL hr hv hvl hF hX hXl
    go_enter Tryz.func44, Tryz.ntmps44
    go_wp2_with (go_at_call 11; (with_reducible refine (HE.out _ (by (repeat' (first | (with_reducible exact Below.refl _ _) | (with_reducible assumption) | (with_reducible refine Below.alloc ?_ ?_ _) | (with_reducible refine Below.drew ?_) | (with_reducible refine Below.draws ?_ _) | (with_reducible refine Below.setCell ?_ ?_ _) | (refine Below.then ?_ (by with_reducible assumption)) | go_size)))).mono ?_); rintro e w1 ⟨a1, c1, rfl, h1, hb1⟩; have HX1 := Lib.hid h1; clear h1; have B1 : Hid (Below w.heap.size w w1) := Lib.hid (Below.trans (by (repeat' (first | (with_reducible exact Below.refl _ _) | (with_reducible assumption) | (with_reducible refine Below.alloc ?_ ?_ _) | (with_reducible refine Below.drew ?_) | (with_reducible refine Below.draws ?_ _) | (with_reducible refine Below.setCell ?_ ?_ _) | (refine Below.then ?_ (by with_reducible assumption)) | go_size))) (hb1.mono (by simp))); have z1 : w.heap.size < w1.heap.size := Nat.lt_of_lt_of_le (by simp) hb1.size; have c1_0 := (hb1.cell (p := ⟨w.heap.size, 0, none⟩) (by simp)).trans (by simp [go_sem]; rfl); have c1_1 := (hb1.cell (p := ⟨w.heap.size, 1, none⟩) (by simp)).trans (by simp [go_sem]; rfl); have c1_2 := (hb1.cell (p := ⟨w.heap.size, 2, none⟩) (by simp)).trans (by simp [go_sem]; rfl); have c1_3 := (hb1.cell (p := ⟨w.heap.size, 3, none⟩) (by simp)).trans (by simp [go_sem]; rfl); have c1_4 := (hb1.cell (p := ⟨w.heap.size, 4, none⟩) (by simp)).trans (by simp [go_sem]; rfl); have c1_5 := (hb1.cell (p := ⟨w.heap.size, 5, none⟩) (by simp)).trans (by simp [go_sem]; rfl); clear hb1)
    go_loopw [4, 5, 9, 28] (fun v4 v5 v9 v28 wr => ∃ (i : Nat) (s : LS), i ≤ nL ∧ v9 = .int .i64 s.1 ∧ v4 = .int .i64 s.2.1 ∧ v5 = .int .i64 s.2.2 ∧ v28 = .int .i64 i ∧ lateAll R X (nL - i) i s = F ∧ Below w1.heap.size w1 wr) (fun _ _ _ v _ => nL - (intOf v).toNat)
    case atStart => exact ⟨0, _, Nat.zero_le _, rfl, rfl, rfl, rfl, HF0.out, Below.refl _ _⟩
    case round =>
      clear HF0
      obtain ⟨i, s, hi, rfl, rfl, rfl, rfl, hS, hB⟩ := hrel
      have HB := Lib.hid hB
      by_cases hin : i < nL
      · have hiL : i < R.L.length := by rw [HNL.out]; exact hin
        rw [show nL - i = (nL - (i + 1)) + 1 by omega, lateAll] at hS
        obtain ⟨xb, xoff, xa, en, xc, rfl, hxb, hxc, hxl, hxR⟩ := (HX1.out.ext hB).row hin
        have hel : (evA R i).length = en := by rw [← HXL.out i]; exact hxl
        rw [hel] at hS
        obtain ⟨S2, hS2⟩ : ∃ S2, lateRow R X i en 0 s = S2 := ⟨_, rfl⟩
        rw [hS2] at hS
        have HS := Lib.hid hS
        have HS2 : Hid (lateRow R X i (en - 0) 0 s = S2) := Lib.hid hS2
        have HEL := Lib.hid hel; have HXR := Lib.hid hxR
        have hens := hxR.small
        obtain ⟨wo, hwo⟩ : ∃ wo : World, wo = wr := ⟨_, rfl⟩
        rw [← hwo] at HB hxb hxc HXR ⊢
        clear hB hS hS2 hel hxR hwo hxl
        go_wp2
        go_loopw [4, 5, 9, 35] (fun v4 v5 v9 v35 wr => ∃ (k : Nat) (s : LS), k ≤ en ∧ v9 = .int .i64 s.1 ∧ v4 = .int .i64 s.2.1 ∧ v5 = .int .i64 s.2.2 ∧ v35 = .int .i64 k ∧ lateRow R X i (en - k) k s = S2 ∧ Below wo.heap.size wo wr) (fun _ _ _ v _ => en - (intOf v).toNat)
        case atStart => exact ⟨0, s, Nat.zero_le _, rfl, rfl, rfl, rfl, HS2.out, Below.refl _ _⟩
        case round =>
          clear HS2
          obtain ⟨k, u, hk, rfl, rfl, rfl, rfl, hS, hB⟩ := hrel
          have HB3 := Lib.hid (Below.then HB.out hB)
          have HB2 := Lib.hid hB
          by_cases hkn : k < en
          · rw [show en - k = (en - (k + 1)) + 1 by omega, lateRow] at hS
            obtain ⟨eb, eo, en', ec, vb, vo, x, y, tb, toff, d, hea, hc, hlen, g0, hta, h1, hdue, hx, hd, hebz, hvbz, htbz, hiT, hiE⟩ := (HR.out.ext (B1.out.trans (HB3.out.mono B1.out.size))).late HRN.out HV.out hiL (k := k) (by rw [HEL.out]; exact hkn)
            simp only [] at hea hta hiT hiE
            obtain rfl : en = en' := by rw [← hlen]; exact HEL.out.symm
            subst hea; subst hta
            have hXk := (HXR.out.ext hB).idx k hkn
            obtain ⟨z, zb, zo, hxa, hzb, hzc, hz⟩ := hXk
            have hxz : xAt X i k = z := by unfold xAt; rw [hz]; rfl
            have d0 := (HB3.out.cell (p := ⟨w.heap.size, 0, none⟩) z1).trans c1_0
            have d3 := (HB3.out.cell (p := ⟨w.heap.size, 3, none⟩) z1).trans c1_3
            have zz := Nat.lt_of_lt_of_le z1 HB3.out.size
            have wd : IntKind.i64.wrap (x + d) = x + d := IntWalk.i64_in _ (by omega)
            subst hxa
            unfold lateS at hS
            rw [hxz, ← hdue] at hS
            obtain ⟨D, hD⟩ : ∃ D, x + d = D := ⟨_, rfl⟩
            rw [hD] at hS wd
            obtain ⟨f, uu⟩ := u
            obtain ⟨ut, ue⟩ := uu
            simp only [] at hS ⊢
            clear hB hlen hdue hxz hz hx hd
            by_cases q1 : D < f
            · have q1' : decide (D < f) = true := by simpa using q1
              by_cases q2 : z < 0
              · have q2' : decide (z < 0) = true := by simpa using q2
                rw [if_pos ⟨q1, .inl q2⟩] at hS
                have HS3 := Lib.hid hS
                clear hS
                go_wp2_with (refine wp_region_later_lit (by kernel_rfl) (by kernel_rfl) ?_; (repeat (go_big_quiet_step (fail))); refine wpQuiet_nil ?_; intro w7 hb7)
                go_roundw
                case rel => exact ⟨k + 1, (D, (i : Int), (k : Int)), hkn, rfl, rfl, rfl, by go_num, HS3.out, Below.then HB2.out (Below.then (by (repeat' (first | (with_reducible exact Below.refl _ _) | (with_reducible assumption) | (with_reducible refine Below.alloc ?_ ?_ _) | (with_reducible refine Below.drew ?_) | (with_reducible refine Below.draws ?_ _) | (with_reducible refine Below.setCell ?_ ?_ _) | (refine Below.then ?_ (by with_reducible assumption)) | go_size))) hb7)⟩
                case measure => simp [intOf]; omega
              · have q2' : decide (z < 0) = false := by simpa using q2
                by_cases q3 : D < z
                · have q3' : decide (D < z) = true := by simpa using q3
                  rw [if_pos ⟨q1, .inr q3⟩] at hS
                  have HS3 := Lib.hid hS
                  clear hS
                  go_wp2_with (refine wp_region_later_lit (by kernel_rfl) (by kernel_rfl) ?_; (repeat (go_big_quiet_step (fail))); refine wpQuiet_nil ?_; intro w7 hb7)
                  go_roundw
                  case rel => exact ⟨k + 1, (D, (i : Int), (k : Int)), hkn, rfl, rfl, rfl, by go_num, HS3.out, Below.then HB2.out (Below.then (by (repeat' (first | (with_reducible exact Below.refl _ _) | (with_reducible assumption) | (with_reducible refine Below.alloc ?_ ?_ _) | (with_reducible refine Below.drew ?_) | (with_reducible refine Below.draws ?_ _) | (with_reducible refine Below.setCell ?_ ?_ _) | (refine Below.then ?_ (by with_reducible assumption)) | go_size))) hb7)⟩
                  case measure => simp [intOf]; omega
                · have q3' : decide (D < z) = false := by simpa using q3
                  rw [if_neg (fun q => q.2.elim q2 q3)] at hS
                  have HS3 := Lib.hid hS
                  clear hS
                  go_wp2_with (refine wp_region_later_lit (by kernel_rfl) (by kernel_rfl) ?_; (repeat (go_big_quiet_step (fail))); refine wpQuiet_nil ?_; intro w7 hb7)
                  go_roundw
                  case rel => exact ⟨k + 1, (f, ut, ue), hkn, rfl, rfl, rfl, by go_num, HS3.out, Below.then HB2.out (Below.then (by (repeat' (first | (with_reducible exact Below.refl _ _) | (with_reducible assumption) | (with_reducible refine Below.alloc ?_ ?_ _) | (with_reducible refine Below.drew ?_) | (with_reducible refine Below.draws ?_ _) | (with_reducible refine Below.setCell ?_ ?_ _) | (refine Below.then ?_ (by with_reducible assumption)) | go_size))) hb7)⟩
                  case measure => simp [intOf]; omega
            · have q1' : decide (D < f) = false := by simpa using q1
              rw [if_neg (fun q => q1 q.1)] at hS
              have HS3 := Lib.hid hS
              clear hS
              go_wp2_with (refine wp_region_later_lit (by kernel_rfl) (by kernel_rfl) ?_; (repeat (go_big_quiet_step (fail))); refine wpQuiet_nil ?_; intro w7 hb7)
              go_roundw
              case rel => exact ⟨k + 1, (f, ut, ue), hkn, rfl, rfl, rfl, by go_num, HS3.out, Below.then HB2.out (Below.then (by (repeat' (first | (with_reducible exact Below.refl _ _) | (with_reducible assumption) | (with_reducible refine Below.alloc ?_ ?_ _) | (with_reducible refine Below.drew ?_) | (with_reducible refine Below.draws ?_ _) | (with_reducible refine Below.setCell ?_ ?_ _) | (refine Below.then ?_ (by with_reducible assumption)) | go_size))) hb7)⟩
              case measure => simp [intOf]; omega
          · have hke : u = S2 := by rw [show en - k = 0 by omega] at hS; exact hS
            subst hke
            clear hS hB
            go_wp2
            go_roundw
            case rel => exact ⟨i + 1, u, hin, rfl, rfl, rfl, by go_num, HS.out, HB3.out⟩
            case measure => simp [intOf]; omega
      · have hie : s = F := by rw [show nL - i = 0 by omega] at hS; exact hS
        subst hie
        clear hS hB
        obtain ⟨f, ut, ue⟩ := s
        simp only []
        by_cases q : 0 ≤ ut
        · have q' : decide (0 ≤ ut) = true := by simpa using q
          obtain rfl : Z = (ut, ue, 15) := by rw [← HZ.out]; exact if_pos q
          go_wp2
          refine bodyPost_ret (results_tmp3 rfl _ _ _) rfl ?_
          exact ⟨rfl, B1.out.trans (HB.out.mono B1.out.size)⟩
        · have q' : decide (0 ≤ ut) = false := by simpa using q
          obtain rfl : Z = (-1, -1, 0) := by rw [← HZ.out]; exact if_neg q
          go_wp2
          refine bodyPost_ret (results_tmp3 rfl _ _ _) rfl ?_
          exact ⟨rfl, B1.out.trans (HB.out.mono B1.out.size)⟩
end Go.Proofs.YtmahagcghpoekaaGreat
