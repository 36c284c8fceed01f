/- The contract of the program's ends. The conditions: the run and the entries read as named. The contracts of Idle and Pause of the program. The conditions: the run reads as named. The contracts of Worked, of both sides, and of the reference's Idle and Pause. The conditions: the run reads as named. The contract of the reference's Ends. The conditions: the run reads as named. The contracts of Late and Meets, of both sides. The conditions: the run reads as named. The contract of Preempted of the program. The conditions: the run reads as named. Blocking in a run, and when jobs are over in a run that nothing disturbs. No condition: plain lemmas. Who works: nobody ahead is there. No condition: plain lemmas. -/
import Derived.Test.YtmahagcghpoekaaMg2
import Derived.Test.YtmahagcghpoekaaMg5
import Derived.Test.YtmahagcghpoekaaMg7
import Derived.Deep.RegionHeld3
import Derived.Deep.Cut
import Derived.OwnWalk
import Derived.BigRegion
namespace Go.Proofs.Ytmahagcghpoekaa
open Go.RowKit
set_option linter.unusedSimpArgs false
set_option linter.unusedVariables false
/-- a slice of lists of ints -/
structure RdE (w : World) (a : Option Addr) (n : Nat) (X : Nat → List Int) : Prop where
  sm : n ≤ 9223372036854775807
  at_ : ∀ k, k < n → ∃ (b off : Nat) (ea : Option Addr) (en ec : Nat), a = some ⟨b, off, none⟩ ∧ b < w.heap.size ∧ w.cell? ⟨b, off + k, none⟩ = some (.slice ea en ec) ∧ Rd w ea en 1 ((X k).map enc1)
theorem RdE.ext {w w' : World} {a : Option Addr} {n : Nat} {X : Nat → List Int} (h : RdE w a n X) (hb : Below w.heap.size w w') : RdE w' a n X :=
  ⟨h.sm, fun k hk => by
    obtain ⟨b, off, ea, en, ec, e, h1, h2, h3⟩ := h.at_ k hk
    exact ⟨b, off, ea, en, ec, e, Nat.lt_of_lt_of_le h1 hb.size, (hb.cell (p := ⟨b, off + k, none⟩) h1).trans h2, h3.ext hb⟩⟩
theorem IRows.put {B N : Nat} {w : World} {h X} (hR : IRows B w N h X) {i : Nat} (hi : i < N) {g : Nat} (hg : (h i).a = some ⟨g, 0, none⟩) (x : Nat) (v : Int) :
    IRows B (w.setCell ⟨g, x, none⟩ (.int .i64 v)) N h (updF X i ((X i).set x v)) := by
  have hs : sl (h i) = .slice (some ⟨g, 0, none⟩) (h i).n (h i).c := by unfold sl; rw [hg]
  have ho := hR.own i hi
  rw [hs] at ho
  have hgr := (ho.stored x (.int .i64 v)).2
  refine ⟨fun k hk => ?_, hR.apart⟩
  by_cases e : k = i
  · subst e; rw [updF_same, hs]; exact ownsI_set ho x v
  · rw [updF_other _ _ e]
    refine (hR.own k hk).kept hgr ?_
    have := hR.apart k i hk hi e
    rw [hs] at this
    exact this
theorem updF_ends {R : Rn} {o : List En} {e : En} (h : e.w = 5) {k x : Nat} (hk : e.k = (k : Int)) (hx : e.a = (x : Int)) : endsRow R (o ++ [e]) = updF (endsRow R o) k ((endsRow R o k).set x e.m) := by
  funext i
  rw [endsRow_over R h hk hx]
  unfold updF
  split
  · rename_i q; subst q; rfl
  · rfl
theorem same_ends {R : Rn} {o : List En} {e : En} (h : e.w ≠ 5) : endsRow R (o ++ [e]) = endsRow R o := by funext i; exact endsRow_other R h i
theorem take_one {α : Type} {l : List α} {j : Nat} {x : α} (h : l[j]? = some x) : l.take (j + 1) = l.take j ++ [x] := by rw [List.take_add_one, h]; rfl
set_option maxRecDepth 100000 in
set_option maxHeartbeats 8000000 in
theorem ends_any (H : RunH) (R : Rn) (o : List En) (a : Option Addr) (n c : Nat) (w : World) (hR : RdRun w H R) (hr : RnOk R) (ho : Rd w a n 5 (o.map encE)) (hn : n ≤ 100000000)
    (hok : ∀ e ∈ o, e.w = 5 → ∃ i x : Nat, e.k = (i : Int) ∧ e.a = (x : Int) ∧ i < R.L.length ∧ x < (evA R i).length) :
    Calls Try.prog 41 #[.agg #[.slice H.tA H.tN H.tC, .int .i64 R.fr, .int .i64 R.sl, .slice H.eA H.eN H.eC, .slice H.bA H.bN H.bC, .slice H.sA H.sN H.sC], .slice a n c] w fun e w' => ∃ a', e = .returned (.slice a' R.L.length R.L.length) ∧ RdE w' a' R.L.length (endsRow R o) ∧ Below w.heap.size w w' := by
  have htn := hR.t.length
  have hen := hR.e.len
  have hen2 := hr.ev
  have hL5 := hr.r.len
  have HR := Lib.hid hR; have HRN := Lib.hid hr; have HO := Lib.hid ho; have HOK := Lib.hid hok
  obtain ⟨nL, hnL⟩ : ∃ x, R.L.length = x := ⟨_, rfl⟩
  rw [hnL]
  have HNL := Lib.hid hnL
  have htn' : H.tN = nL := by omega
  have hEN : H.eN = nL := by omega
  have hn5 : nL ≤ 5 := by omega
  obtain ⟨fr, hfr⟩ : ∃ x, R.fr = x := ⟨_, rfl⟩
  obtain ⟨sl_, hsl⟩ : ∃ x, R.sl = x := ⟨_, rfl⟩
  rw [htn', hfr, hsl, hEN]
  have HEN := Lib.hid hEN
  obtain ⟨eA, heA⟩ : ∃ x, H.eA = x := ⟨_, rfl⟩
  rw [heA]
  have HEA := Lib.hid heA
  clear hR hr htn hnL htn' hfr hsl hen hen2 hEN ho hok heA
  have hmk2 := run_make_row' (P := Try.prog) 45 29 (.slice none 0 0) 24 Try.underlying45 (by kernel_rfl) rfl .i64 .i64 nL (by omega) (by omega)
  go_enter Try.func41, Try.ntmps41
  go_wp2
  obtain ⟨w2, hw2⟩ : ∃ x, x = (w.alloc (.cells #[.slice H.tA nL H.tC, .int .i64 fr, .int .i64 sl_, .slice eA nL H.eC, .slice H.bA H.bN H.bC, .slice H.sA H.sN H.sC] 32)).alloc (.cells (madeCells #[.slice none 0 0] nL) 29) := ⟨_, rfl⟩
  have hBk : Blk w2 (w.heap.size + 1) (madeCells #[.slice none 0 0] nL) := by rw [hw2]; exact Blk.at _ _ _ _ (by simp)
  have hBx : Blk w2 w.heap.size #[.slice H.tA nL H.tC, .int .i64 fr, .int .i64 sl_, .slice eA nL H.eC, .slice H.bA H.bN H.bC, .slice H.sA H.sN H.sC] := by rw [hw2]; exact (Blk.at _ _ _ _ rfl).old _
  have hb2 : Below w.heap.size w w2 := by rw [hw2]; (repeat' (first | (with_reducible exact Below.refl _ _) | (with_reducible assumption) | (with_reducible refine Below.alloc ?_ ?_ _) | (with_reducible refine Below.drew ?_) | (with_reducible refine Below.draws ?_ _) | (with_reducible refine Below.setCell ?_ ?_ _) | (refine Below.then ?_ (by with_reducible assumption)) | go_size))
  have hz2 : w2.heap.size = w.heap.size + 2 := by rw [hw2]; simp
  have x3 := hBx.c 3
  simp at x3
  rw [← hw2]
  have HB2 := Lib.hid hb2; have HBK := Lib.hid hBk; have HX3 := Lib.hid x3
  have hI0 : IRows w2.heap.size w2 nL (fun _ => ⟨none, 0, 0⟩) (fun _ => []) := ⟨fun i hi => World.ownsRow_nil _ _ _ _, fun i j _ _ _ => .inl rfl⟩
  have HI0 := Lib.hid hI0
  clear hw2 hBk hBx hb2 hI0 hmk2
  go_loopw [15] (fun v wr => ∃ (k : Nat) (h : Nat → Hdr), k ≤ nL ∧ v = .int .i64 k ∧ IRows w2.heap.size wr nL h (fun i => if i < k then endsRow R [] i else []) ∧ (∀ i, i < nL → wr.cell? ⟨w.heap.size + 1, i, none⟩ = some (sl (h i))) ∧ (∀ j, wr.frozen? ⟨w.heap.size + 1, j, none⟩ = false) ∧ wr.cell? ⟨w.heap.size, 3, none⟩ = some (.slice eA nL H.eC) ∧ w2.heap.size ≤ wr.heap.size ∧ Below w.heap.size w wr) (fun v _ => nL - (intOf v).toNat)
  case atStart => exact ⟨0, _, Nat.zero_le _, rfl, by simpa using HI0.out, fun i hi => by rw [HBK.out.c, made_one _ _ _ hi], HBK.out.f, HX3.out, Nat.le_refl _, HB2.out⟩
  case round =>
    clear x3
    obtain ⟨k, h, hk, rfl, hI, hW, hF, hX, hz, hB⟩ := hrel
    have HI := Lib.hid hI; have HW := Lib.hid hW; have HF := Lib.hid hF; have HB := Lib.hid hB
    by_cases hkn : k < nL
    · have hkE : k < H.eN := by rw [HEN.out]; exact hkn
      have hkL : k < R.L.length := by rw [HNL.out]; exact hkn
      have hkev : k < R.ev.length := by rw [HRN.out.ev]; exact hkL
      obtain ⟨b, off, ea, en, ec, hea, hb, hc, hRd⟩ := HR.out.e.at_ k hkE
      have hel := HRN.out.el (evAt R.ev k) (by unfold evAt; rw [List.getElem?_eq_getElem hkev]; exact List.getElem_mem hkev)
      have hen40 : en ≤ 40 := by rw [← hRd.length]; exact hel.1
      have hlen : (evA R k).length = en := hRd.length
      have HLEN := Lib.hid hlen
      have hc' := (hB.cell (p := ⟨b, off + k, none⟩) hb).trans hc
      obtain rfl : eA = some ⟨b, off, none⟩ := HEA.out.symm.trans hea
      have hWk := hW k hkn
      have hFk := hF k
      have hWz : w.heap.size + 1 < wr.heap.size := by omega
      have hWz0 : w.heap.size < wr.heap.size := by omega
      have hbz := World.block_lt_of_cell? _ _ hc'
      simp only [] at hbz
      clear hI hW hF hB hel hRd hc hea hlen
      go_wp2_with (go_at_call 67; (with_reducible refine (repeat_any _ en _ _ (by omega) (by simp [go_sem])).mono ?_); rintro e w6 ⟨g6, rfl, hown6, hb6⟩; have hb6' : Below wr.heap.size wr w6 := Below.trans (by (repeat' (first | (with_reducible exact Below.refl _ _) | (with_reducible assumption) | (with_reducible refine Below.alloc ?_ ?_ _) | (with_reducible refine Below.drew ?_) | (with_reducible refine Below.draws ?_ _) | (with_reducible refine Below.setCell ?_ ?_ _) | (refine Below.then ?_ (by with_reducible assumption)) | go_size))) (hb6.mono (by simp)); have y0 := (hb6'.cell (p := ⟨w.heap.size + 1, k, none⟩) hWz).trans hWk; have y1 := (hb6'.frozen (p := ⟨w.heap.size + 1, k, none⟩) hWz).trans hFk; have HB6 := Lib.hid hb6'; have HO6 := Lib.hid (owns_mono hown6 (show wr.heap.size ≤ _ by simp)); clear hown6 hb6 hb6')
      go_roundw
      case rel =>
        have hfr := HI.out.fresh hkn HB6.out hz (d := ⟨some ⟨g6, 0, none⟩, en, en⟩) HO6.out
        have hz6 := HB6.out.size
        refine ⟨k + 1, updF h k ⟨some ⟨g6, 0, none⟩, en, en⟩, hkn, by go_num, ?_, fun i hi => ?_, fun j => ?_, ?_, ?_, ?_⟩
        · have e : (fun i => if i < k + 1 then endsRow R [] i else []) = updF (fun i => if i < k then endsRow R [] i else []) k (List.replicate en (-1)) := by
            funext i
            unfold updF
            by_cases q : i = k
            · subst q; rw [if_pos rfl, if_pos (by omega), endsRow_nil, HLEN.out]
            · rw [if_neg q]
              show _ = (if i < k then endsRow R [] i else [])
              by_cases q2 : i < k
              · rw [if_pos q2, if_pos (by omega)]
              · rw [if_neg q2, if_neg (by omega)]
          rw [e]
          exact hfr.far (by omega) _
        · by_cases q : i = k
          · subst q
            rw [updF_same]
            exact World.cell?_setCell_same _ _ _ y0
          · rw [updF_other _ _ q]
            exact (World.cell?_setCell_other _ _ _ _ (addr_neS (.inr (fun q2 => q q2.symm)))).trans ((HB6.out.cell (p := ⟨w.heap.size + 1, i, none⟩) hWz).trans (HW.out i hi))
        · rw [World.frozen?_setCell]
          exact (HB6.out.frozen (p := ⟨w.heap.size + 1, j, none⟩) hWz).trans (HF.out j)
        · exact (World.cell?_setCell_other _ _ _ _ (addr_neS (.inl (by omega)))).trans ((HB6.out.cell (p := ⟨w.heap.size, 3, none⟩) (show w.heap.size < wr.heap.size by omega)).trans hX)
        · simp; omega
        · exact (HB.out.trans (HB6.out.mono HB.out.size)).setCell (p := ⟨w.heap.size + 1, k, none⟩) (show w.heap.size ≤ w.heap.size + 1 by omega) _
      case measure => simp [intOf]; omega
    · have hkn2 : k = nL := by omega
      subst hkn2
      have hI2 : IRows w2.heap.size wr k h (endsRow R (o.take 0)) := by
        refine ⟨fun i hi => ?_, hI.apart⟩
        have := hI.own i hi
        rw [if_pos hi] at this
        exact this
      have HI2 := Lib.hid hI2
      clear hI hI2 HI
      go_wp2
      go_loopw [32] (fun v wr => ∃ j : Nat, j ≤ n ∧ v = .int .i64 j ∧ IRows w2.heap.size wr k h (endsRow R (o.take j)) ∧ (∀ i, i < k → wr.cell? ⟨w.heap.size + 1, i, none⟩ = some (sl (h i))) ∧ w2.heap.size ≤ wr.heap.size ∧ Below w.heap.size w wr) (fun v _ => n - (intOf v).toNat)
      case atStart => exact ⟨0, Nat.zero_le _, rfl, HI2.out, HW.out, hz, HB.out⟩
      case round =>
        clear HI2 hX hW hF
        obtain ⟨j, hj, rfl, hI, hW, hz3, hB3⟩ := hrel
        have HI := Lib.hid hI; have HW3 := Lib.hid hW; have HB3 := Lib.hid hB3
        by_cases hjn : j < n
        · obtain ⟨x, b1, o1, rfl, hb1, hx, q0, q1, q2, q3, q4⟩ := (HO.out.ext HB3.out).en_at j hjn
          have HX := Lib.hid hx
          have htk := take_one hx
          obtain ⟨m1, k1, w1', a1, c1⟩ := x
          simp only [] at q0 q1 q2 q3 q4
          have hzx : w.heap.size + 1 < wr.heap.size := by omega
          by_cases h5 : w1' = 5
          · subst h5
            obtain ⟨i, xx, hik, hia, hil, hxl⟩ := HOK.out _ (List.mem_of_getElem? hx) rfl
            simp only [] at hik hia
            subst hik; subst hia
            have hin : i < k := by rw [← HNL.out]; exact hil
            have hWi := hW i hin
            have hlen := hI.len hin
            rw [endsRow_len] at hlen
            have hown := hI.own i hin
            obtain ⟨g, hga⟩ : ∃ g, (h i).a = some ⟨g, 0, none⟩ := by
              rcases hown.2 with ⟨hv, h0⟩ | ⟨g', cap', cur, hv, _⟩
              · omega
              · unfold sl at hv; simp at hv; exact ⟨g', hv.1⟩
            unfold sl at hWi
            rw [hga] at hWi
            obtain ⟨hn', hhn⟩ : ∃ x, (h i).n = x := ⟨_, rfl⟩
            rw [hhn] at hWi hlen
            have hs : sl (h i) = .slice (some ⟨g, 0, none⟩) (h i).n (h i).c := by unfold sl; rw [hga]
            rw [hs] at hown
            obtain ⟨yv, _, d1, f1, gl⟩ := ownsI_at hown xx (by omega)
            have hxn : xx < hn' := by omega
            have hgB : w2.heap.size ≤ g := (hown.lt g rfl).1
            have HGA := Lib.hid hga
            have HTK := Lib.hid htk
            clear hI hW hB3 hown hhn hs hga hx htk hlen
            go_wp2
            go_region
            all_goals
              go_wp2_with fail
              go_roundw
              case rel =>
                have hp := (HI.out.put hin HGA.out xx m1).ext (w' := ((wr.setCell ⟨g, xx, none⟩ (.int .i64 m1)).alloc (.cells #[.int .i64 m1, .int .i64 (i : Int), .int .i64 5, .int .i64 (xx : Int), .int .i64 c1] 43)).drew) (by (repeat' (first | (with_reducible exact Below.refl _ _) | (with_reducible assumption) | (with_reducible refine Below.alloc ?_ ?_ _) | (with_reducible refine Below.drew ?_) | (with_reducible refine Below.draws ?_ _) | (with_reducible refine Below.setCell ?_ ?_ _) | (refine Below.then ?_ (by with_reducible assumption)) | go_size)))
                refine ⟨j + 1, by omega, by go_num, ?_, fun i2 hi2 => ?_, ?_, ?_⟩
                · rw [HTK.out, updF_ends rfl rfl rfl]
                  exact hp
                · have e1 := (World.cell?_setCell_other wr ⟨g, xx, none⟩ ⟨w.heap.size + 1, i2, none⟩ (.int .i64 m1) (addr_neS (.inl (by omega)))).trans (HW3.out i2 hi2)
                  exact ((show Below (wr.setCell ⟨g, xx, none⟩ (.int .i64 m1)).heap.size (wr.setCell ⟨g, xx, none⟩ (.int .i64 m1)) _ by (repeat' (first | (with_reducible exact Below.refl _ _) | (with_reducible assumption) | (with_reducible refine Below.alloc ?_ ?_ _) | (with_reducible refine Below.drew ?_) | (with_reducible refine Below.draws ?_ _) | (with_reducible refine Below.setCell ?_ ?_ _) | (refine Below.then ?_ (by with_reducible assumption)) | go_size))).cell (p := ⟨w.heap.size + 1, i2, none⟩) (by simp; omega)).trans e1
                · simp; omega
                · refine Below.then (HB3.out.setCell (p := ⟨g, xx, none⟩) (show w.heap.size ≤ g by omega) (.int .i64 m1)) ?_
                  (repeat' (first | (with_reducible exact Below.refl _ _) | (with_reducible assumption) | (with_reducible refine Below.alloc ?_ ?_ _) | (with_reducible refine Below.drew ?_) | (with_reducible refine Below.draws ?_ _) | (with_reducible refine Below.setCell ?_ ?_ _) | (refine Below.then ?_ (by with_reducible assumption)) | go_size))
              case measure => simp [intOf]; omega
          · have h5' : (w1' == 5) = false := by simpa using h5
            have HTK := Lib.hid htk
            clear hI hW hB3 hx htk
            go_wp2
            go_roundw
            case rel =>
              refine ⟨j + 1, by omega, by go_num, ?_, fun i2 hi2 => ?_, ?_, ?_⟩
              · rw [HTK.out, same_ends h5]
                exact HI.out.ext (by (repeat' (first | (with_reducible exact Below.refl _ _) | (with_reducible assumption) | (with_reducible refine Below.alloc ?_ ?_ _) | (with_reducible refine Below.drew ?_) | (with_reducible refine Below.draws ?_ _) | (with_reducible refine Below.setCell ?_ ?_ _) | (refine Below.then ?_ (by with_reducible assumption)) | go_size)))
              · exact ((show Below wr.heap.size wr _ by (repeat' (first | (with_reducible exact Below.refl _ _) | (with_reducible assumption) | (with_reducible refine Below.alloc ?_ ?_ _) | (with_reducible refine Below.drew ?_) | (with_reducible refine Below.draws ?_ _) | (with_reducible refine Below.setCell ?_ ?_ _) | (refine Below.then ?_ (by with_reducible assumption)) | go_size))).cell (p := ⟨w.heap.size + 1, i2, none⟩) hzx).trans (HW3.out i2 hi2)
              · simp; omega
              · exact HB3.out.trans (by (repeat' (first | (with_reducible exact Below.refl _ _) | (with_reducible assumption) | (with_reducible refine Below.alloc ?_ ?_ _) | (with_reducible refine Below.drew ?_) | (with_reducible refine Below.draws ?_ _) | (with_reducible refine Below.setCell ?_ ?_ _) | (refine Below.then ?_ (by with_reducible assumption)) | go_size)))
            case measure => simp [intOf]; omega
        · have hjn2 : j = n := by omega
          subst hjn2
          rw [List.take_of_length_le (by rw [HO.out.length]; exact Nat.le_refl _)] at hI
          have HIF := Lib.hid hI
          clear hI hW hB3
          go_wp2
          go_ret
          refine ⟨_, rfl, ⟨by omega, fun i hi => ⟨w.heap.size + 1, 0, (h i).a, (h i).n, (h i).c, rfl, by omega, by rw [Nat.zero_add]; exact HW3.out i hi, ownsI_rd (HIF.out.own i hi)⟩⟩, HB3.out⟩
/-- what Ends gives: the rows (of so many tasks), the error -/
def OutX (w : World) (n : Nat) (X : Nat → List Int) (er : Int) (e : Ending) (w' : World) : Prop :=
  ∃ a c, e = .returned (.tuple #[.slice a n c, .int .i64 er]) ∧ RdE w' a n X ∧ Below w.heap.size w w'
theorem RdE.nil (w : World) (a : Option Addr) (X : Nat → List Int) : RdE w a 0 X := ⟨by omega, fun k hk => absurd hk (Nat.not_lt_zero k)⟩
/-- the number of tasks, the rows, the error of Ends -/
def endN (R : Rn) (t : Int) : Nat := if (runB R && inB t 0 2000) = true then R.L.length else 0
def endX (R : Rn) (t : Int) : Nat → List Int := endsRow R (plM R t.toNat).o
def endE (R : Rn) (t : Int) : Int := if (runB R && inB t 0 2000) = true then 0 else 1
theorem plM_ok5 {R : Rn} (hr : RnOk R) (k : Nat) : ∀ e ∈ (plM R k).o, e.w = 5 → ∃ i x : Nat, e.k = (i : Int) ∧ e.a = (x : Int) ∧ i < R.L.length ∧ x < (evA R i).length := by
  obtain ⟨_, _, h⟩ := plM_ei hr k
  exact h.ok
theorem plM_olen {R : Rn} (hr : RnOk R) {k : Nat} (hk : k ≤ 2000) : (plM R k).o.length ≤ 504000 := by have := plM_o hr k; omega
set_option maxRecDepth 10000 in
set_option maxHeartbeats 2000000 in
theorem Ends_any (H : RunH) (R : Rn) (t : Int) (w : World) (hR : ReadRun w H R) : Calls Try.prog 14 #[runV H R.fr R.sl, .int .i64 t] w (OutX w (endN R t) (endX R t) (endE R t)) := by
  obtain ⟨B, hB⟩ : ∃ B, (runB R && inB t 0 2000) = B := ⟨_, rfl⟩
  unfold endN endE
  rw [hB]
  have HI := Lib.hid (fun w1 (hb : Below w.heap.size w w1) => is_any H R t w1 (hR.ext hb) hB)
  cases B
  · obtain ⟨fr, hfr⟩ : ∃ x, R.fr = x := ⟨_, rfl⟩
    obtain ⟨sl_, hsl⟩ : ∃ x, R.sl = x := ⟨_, rfl⟩
    rw [hfr, hsl] at HI ⊢
    obtain ⟨tA, tN, tC, eA, eN, eC, bA, bN, bC, sA, sN, sC⟩ := H
    unfold runV at HI ⊢
    simp only [] at HI ⊢
    clear hR hB hfr hsl
    go_enter Try.func14, Try.ntmps14
    go_wp2_with (go_at_call 32; (with_reducible refine (HI.out _ (by (repeat' (first | (with_reducible exact Below.refl _ _) | (with_reducible assumption) | (with_reducible refine Below.alloc ?_ ?_ _) | (with_reducible refine Below.drew ?_) | (with_reducible refine Below.draws ?_ _) | (with_reducible refine Below.setCell ?_ ?_ _) | (refine Below.then ?_ (by with_reducible assumption)) | go_size)))).mono ?_); rintro e w1 ⟨rfl, hb1⟩; have B1 : Hid (Below w.heap.size w w1) := Lib.hid (Below.trans (by (repeat' (first | (with_reducible exact Below.refl _ _) | (with_reducible assumption) | (with_reducible refine Below.alloc ?_ ?_ _) | (with_reducible refine Below.drew ?_) | (with_reducible refine Below.draws ?_ _) | (with_reducible refine Below.setCell ?_ ?_ _) | (refine Below.then ?_ (by with_reducible assumption)) | go_size))) (hb1.mono (by simp))); have z1 : w.heap.size < w1.heap.size := Nat.lt_of_lt_of_le (by simp) hb1.size; have c1_0 := (hb1.cell (p := ⟨w.heap.size, 0, none⟩) (by simp)).trans (by simp [go_sem]; rfl); have c1_1 := (hb1.cell (p := ⟨w.heap.size, 1, none⟩) (by simp)).trans (by simp [go_sem]; rfl); have c1_2 := (hb1.cell (p := ⟨w.heap.size, 2, none⟩) (by simp)).trans (by simp [go_sem]; rfl); have c1_3 := (hb1.cell (p := ⟨w.heap.size, 3, none⟩) (by simp)).trans (by simp [go_sem]; rfl); have c1_4 := (hb1.cell (p := ⟨w.heap.size, 4, none⟩) (by simp)).trans (by simp [go_sem]; rfl); have c1_5 := (hb1.cell (p := ⟨w.heap.size, 5, none⟩) (by simp)).trans (by simp [go_sem]; rfl); clear hb1)
    go_ret2
    exact ⟨_, _, rfl, RdE.nil _ _ _, B1.out⟩
  · rw [Bool.and_eq_true, inB_iff] at hB
    obtain ⟨tn, rfl⟩ := Int.eq_ofNat_of_zero_le hB.2.1
    rw [if_pos rfl, if_pos rfl]
    unfold endX
    rw [Int.toNat_natCast]
    obtain ⟨hr, _⟩ := run_ok hB.1
    have htn : tn ≤ 2000 := by omega
    have HP := Lib.hid (fun w1 (hb : Below w.heap.size w w1) => play_any H R tn w1 (hR.ext hb).rd hr htn)
    have HEN := Lib.hid (fun (w1 : World) (a : Option Addr) (n c : Nat) (hb : Below w.heap.size w w1) (hx : Rd w1 a n 5 ((plM R tn).o.map encE)) => ends_any H R (plM R tn).o a n c w1 (hR.ext hb).rd hr hx (by have h1 := hx.length; have h2 := plM_olen hr htn; omega) (plM_ok5 hr tn))
    obtain ⟨nL, hnL⟩ : ∃ x, R.L.length = x := ⟨_, rfl⟩
    obtain ⟨fr, hfr⟩ : ∃ x, R.fr = x := ⟨_, rfl⟩
    obtain ⟨sl_, hsl⟩ : ∃ x, R.sl = x := ⟨_, rfl⟩
    rw [hnL] at HEN ⊢
    rw [hfr, hsl] at HI HP HEN ⊢
    obtain ⟨tA, tN, tC, eA, eN, eC, bA, bN, bC, sA, sN, sC⟩ := H
    unfold runV at HI ⊢
    simp only [] at HI HP HEN ⊢
    clear hR hB hfr hsl hnL hr
    go_enter Try.func14, Try.ntmps14
    go_upto_region 3 with (go_at_call 32; (with_reducible refine (HI.out _ (by (repeat' (first | (with_reducible exact Below.refl _ _) | (with_reducible assumption) | (with_reducible refine Below.alloc ?_ ?_ _) | (with_reducible refine Below.drew ?_) | (with_reducible refine Below.draws ?_ _) | (with_reducible refine Below.setCell ?_ ?_ _) | (refine Below.then ?_ (by with_reducible assumption)) | go_size)))).mono ?_); rintro e w1 ⟨rfl, hb1⟩; have B1 : Hid (Below w.heap.size w w1) := Lib.hid (Below.trans (by (repeat' (first | (with_reducible exact Below.refl _ _) | (with_reducible assumption) | (with_reducible refine Below.alloc ?_ ?_ _) | (with_reducible refine Below.drew ?_) | (with_reducible refine Below.draws ?_ _) | (with_reducible refine Below.setCell ?_ ?_ _) | (refine Below.then ?_ (by with_reducible assumption)) | go_size))) (hb1.mono (by simp))); have z1 : w.heap.size < w1.heap.size := Nat.lt_of_lt_of_le (by simp) hb1.size; have c1_0 := (hb1.cell (p := ⟨w.heap.size, 0, none⟩) (by simp)).trans (by simp [go_sem]; rfl); have c1_1 := (hb1.cell (p := ⟨w.heap.size, 1, none⟩) (by simp)).trans (by simp [go_sem]; rfl); have c1_2 := (hb1.cell (p := ⟨w.heap.size, 2, none⟩) (by simp)).trans (by simp [go_sem]; rfl); have c1_3 := (hb1.cell (p := ⟨w.heap.size, 3, none⟩) (by simp)).trans (by simp [go_sem]; rfl); have c1_4 := (hb1.cell (p := ⟨w.heap.size, 4, none⟩) (by simp)).trans (by simp [go_sem]; rfl); have c1_5 := (hb1.cell (p := ⟨w.heap.size, 5, none⟩) (by simp)).trans (by simp [go_sem]; rfl); clear hb1)
    go_region_held3 (fun w' => w'.cell? ⟨w.heap.size, 0, none⟩ = some (.slice tA tN tC) ∧ w'.cell? ⟨w.heap.size, 1, none⟩ = some (.int .i64 fr) ∧ w'.cell? ⟨w.heap.size, 2, none⟩ = some (.int .i64 sl_) ∧ w'.cell? ⟨w.heap.size, 3, none⟩ = some (.slice eA eN eC) ∧ w'.cell? ⟨w.heap.size, 4, none⟩ = some (.slice bA bN bC) ∧ w'.cell? ⟨w.heap.size, 5, none⟩ = some (.slice sA sN sC)) (first | go_keep)
      (first
        | (go_at_call 33; (with_reducible refine (HP.out _ B1.out.drew).mono ?_); rintro e w2 ⟨a2, n2, c2', rfl, h2, hb2x⟩; have HO2 := Lib.hid (Rd.of_owns encE_len (by decide) h2); have hb2 : Below w1.heap.size w1 w2 := Below.then (Below.refl w1.heap.size w1).drew hb2x; clear h2 hb2x; have B2 := Lib.hid (Below.then B1.out hb2); have z2 : w.heap.size < w2.heap.size := Nat.lt_of_lt_of_le z1 hb2.size; have c2_0 := (hb2.cell (p := ⟨w.heap.size, 0, none⟩) z1).trans c1_0; have c2_1 := (hb2.cell (p := ⟨w.heap.size, 1, none⟩) z1).trans c1_1; have c2_2 := (hb2.cell (p := ⟨w.heap.size, 2, none⟩) z1).trans c1_2; have c2_3 := (hb2.cell (p := ⟨w.heap.size, 3, none⟩) z1).trans c1_3; have c2_4 := (hb2.cell (p := ⟨w.heap.size, 4, none⟩) z1).trans c1_4; have c2_5 := (hb2.cell (p := ⟨w.heap.size, 5, none⟩) z1).trans c1_5; clear hb2 c1_0 c1_1 c1_2 c1_3 c1_4 c1_5)
        | (go_at_call 41; (with_reducible refine (HEN.out _ _ _ _ B2.out HO2.out).mono ?_); rintro e w3 ⟨a3, rfl, h3, hb3⟩; have HX3 := Lib.hid h3; clear h3; have B3 := Lib.hid (Below.then B2.out hb3); have z3 : w.heap.size < w3.heap.size := Nat.lt_of_lt_of_le z2 hb3.size; have c3_0 := (hb3.cell (p := ⟨w.heap.size, 0, none⟩) z2).trans c2_0; have c3_1 := (hb3.cell (p := ⟨w.heap.size, 1, none⟩) z2).trans c2_1; have c3_2 := (hb3.cell (p := ⟨w.heap.size, 2, none⟩) z2).trans c2_2; have c3_3 := (hb3.cell (p := ⟨w.heap.size, 3, none⟩) z2).trans c2_3; have c3_4 := (hb3.cell (p := ⟨w.heap.size, 4, none⟩) z2).trans c2_4; have c3_5 := (hb3.cell (p := ⟨w.heap.size, 5, none⟩) z2).trans c2_5; clear hb3 c2_0 c2_1 c2_2 c2_3 c2_4 c2_5))
    all_goals
      go_wp2_with fail
      go_ret2
      exact ⟨_, _, rfl, HX3.out, B3.out⟩
end Go.Proofs.Ytmahagcghpoekaa
namespace Go.Proofs.Ytmahagcghpoekaa
open Go.RowKit
set_option linter.unusedSimpArgs false
set_option linter.unusedVariables false
def idleR (R : Rn) (t : Int) : Int × Int := if (runB R && inB t 0 2000) = true then (idleN R t.toNat, 0) else (0, 1)
def pauseR (R : Rn) (t : Int) : Int × Int := if (runB R && inB t 0 2000) = true then ((pzR R t.toNat).1, 0) else (0, 1)
theorem cnt_take {p : En → Bool} {o : List En} {k : Nat} {x : En} (h : o[k]? = some x) : cntE p (o.take (k + 1)) = cntE p (o.take k) + (if p x = true then 1 else 0) := by
  rw [take_one h, cntE_app]; simp [cntE]
theorem cnt_take_bd (p : En → Bool) (o : List En) (k : Nat) : 0 ≤ cntE p (o.take k) ∧ cntE p (o.take k) ≤ o.length := by
  have := cntE_bd p (o.take k)
  rw [List.length_take] at this; omega
theorem pzF_take {o : List En} {k : Nat} {x : En} (h : o[k]? = some x) : pzF (o.take (k + 1)) = pzS (pzF (o.take k)) x := by
  rw [take_one h]; unfold pzF; rw [List.foldl_append]; rfl
/-- bounds along the entries -/
theorem pz_bd {M : Int} : ∀ (l : List En) (s : PZ), (∀ e ∈ l, 0 ≤ e.m ∧ e.m ≤ M) → (0 ≤ s.1 ∧ 0 ≤ s.2.1 ∧ -1 ≤ s.2.2 ∧ s.2.2 ≤ M) → 0 ≤ M → s.1 ≤ s.1 + l.length ∧ 0 ≤ (l.foldl pzS s).1 ∧ 0 ≤ (l.foldl pzS s).2.1 ∧ (l.foldl pzS s).2.1 ≤ s.2.1 + l.length ∧ -1 ≤ (l.foldl pzS s).2.2 ∧ (l.foldl pzS s).2.2 ≤ M
  | [], s, _, h, _ => by simp; omega
  | e :: l, s, he, h, hM => by
    have h1 := he e (by simp)
    have ih := pz_bd (M := M) l (pzS s e) (fun x hx => he x (by simp [hx])) (by
      unfold pzS
      split
      · simp only []
        split <;> omega
      · exact h) hM
    have h2 : (pzS s e).2.1 ≤ s.2.1 + 1 := by
      unfold pzS
      split
      · simp only []
        split <;> omega
      · omega
    rw [List.foldl_cons, List.length_cons]
    refine ⟨by omega, ih.2.1, ih.2.2.1, by have := ih.2.2.2.1; omega, ih.2.2.2.2⟩
set_option maxRecDepth 100000 in
set_option maxHeartbeats 4000000 in
theorem Pause_any (H : RunH) (R : Rn) (t : Int) (w : World) (hR : ReadRun w H R) : Calls Try.prog 11 #[runV H R.fr R.sl, .int .i64 t] w fun e w' => e = rII (pauseR R t).1 (pauseR R t).2 ∧ Below w.heap.size w w' := by
  obtain ⟨B, hB⟩ : ∃ B, (runB R && inB t 0 2000) = B := ⟨_, rfl⟩
  unfold pauseR
  rw [hB]
  have HI := Lib.hid (fun w1 (hb : Below w.heap.size w w1) => is_any H R t w1 (hR.ext hb) hB)
  cases B
  · obtain ⟨fr, hfr⟩ : ∃ x, R.fr = x := ⟨_, rfl⟩
    obtain ⟨sl_, hsl⟩ : ∃ x, R.sl = x := ⟨_, rfl⟩
    rw [hfr, hsl] at HI ⊢
    obtain ⟨tA, tN, tC, eA, eN, eC, bA, bN, bC, sA, sN, sC⟩ := H
    unfold runV at HI ⊢
    simp only [] at HI ⊢
    clear hR hB hfr hsl
    go_enter Try.func11, Try.ntmps11
    go_wp2_with (go_at_call 32; (with_reducible refine (HI.out _ (by (repeat' (first | (with_reducible exact Below.refl _ _) | (with_reducible assumption) | (with_reducible refine Below.alloc ?_ ?_ _) | (with_reducible refine Below.drew ?_) | (with_reducible refine Below.draws ?_ _) | (with_reducible refine Below.setCell ?_ ?_ _) | (refine Below.then ?_ (by with_reducible assumption)) | go_size)))).mono ?_); rintro e w1 ⟨rfl, hb1⟩; have B1 : Hid (Below w.heap.size w w1) := Lib.hid (Below.trans (by (repeat' (first | (with_reducible exact Below.refl _ _) | (with_reducible assumption) | (with_reducible refine Below.alloc ?_ ?_ _) | (with_reducible refine Below.drew ?_) | (with_reducible refine Below.draws ?_ _) | (with_reducible refine Below.setCell ?_ ?_ _) | (refine Below.then ?_ (by with_reducible assumption)) | go_size))) (hb1.mono (by simp))); have z1 : w.heap.size < w1.heap.size := Nat.lt_of_lt_of_le (by simp) hb1.size; have c1_0 := (hb1.cell (p := ⟨w.heap.size, 0, none⟩) (by simp)).trans (by simp [go_sem]; rfl); have c1_1 := (hb1.cell (p := ⟨w.heap.size, 1, none⟩) (by simp)).trans (by simp [go_sem]; rfl); have c1_2 := (hb1.cell (p := ⟨w.heap.size, 2, none⟩) (by simp)).trans (by simp [go_sem]; rfl); have c1_3 := (hb1.cell (p := ⟨w.heap.size, 3, none⟩) (by simp)).trans (by simp [go_sem]; rfl); have c1_4 := (hb1.cell (p := ⟨w.heap.size, 4, none⟩) (by simp)).trans (by simp [go_sem]; rfl); have c1_5 := (hb1.cell (p := ⟨w.heap.size, 5, none⟩) (by simp)).trans (by simp [go_sem]; rfl); clear hb1)
    go_ret2
    exact ⟨rfl, B1.out⟩
  · rw [Bool.and_eq_true, inB_iff] at hB
    obtain ⟨tn, rfl⟩ := Int.eq_ofNat_of_zero_le hB.2.1
    rw [if_pos rfl, Int.toNat_natCast]
    rw [← (pz_same R tn).1]
    have hr := (run_ok hB.1).1
    have htn : tn ≤ 2000 := by omega
    have hol := plM_olen hr htn
    have hom : ∀ e ∈ (plM R tn).o, 0 ≤ e.m ∧ e.m ≤ 2000 := fun e he => by obtain ⟨_, _, h⟩ := plM_ei hr tn; have := h.okm e he; omega
    have HP := Lib.hid (fun w1 (hb : Below w.heap.size w w1) => play_any H R tn w1 (hR.ext hb).rd hr (by omega))
    obtain ⟨o, ho⟩ : ∃ x, (plM R tn).o = x := ⟨_, rfl⟩
    rw [ho] at HP hol hom ⊢
    have HOM := Lib.hid hom
    obtain ⟨Z, hZ⟩ : ∃ Z, pzF o = Z := ⟨_, rfl⟩
    rw [hZ]
    have HZ := Lib.hid hZ
    obtain ⟨fr, hfr⟩ : ∃ x, R.fr = x := ⟨_, rfl⟩
    obtain ⟨sl_, hsl⟩ : ∃ x, R.sl = x := ⟨_, rfl⟩
    rw [hfr, hsl] at HI HP ⊢
    obtain ⟨tA, tN, tC, eA, eN, eC, bA, bN, bC, sA, sN, sC⟩ := H
    unfold runV at HI ⊢
    simp only [] at HI HP ⊢
    clear hR hB hfr hsl ho hZ hr hom
    go_enter Try.func11, Try.ntmps11
    go_wp2_with (first | (go_at_call 32; (with_reducible refine (HI.out _ (by (repeat' (first | (with_reducible exact Below.refl _ _) | (with_reducible assumption) | (with_reducible refine Below.alloc ?_ ?_ _) | (with_reducible refine Below.drew ?_) | (with_reducible refine Below.draws ?_ _) | (with_reducible refine Below.setCell ?_ ?_ _) | (refine Below.then ?_ (by with_reducible assumption)) | go_size)))).mono ?_); rintro e w1 ⟨rfl, hb1⟩; have B1 : Hid (Below w.heap.size w w1) := Lib.hid (Below.trans (by (repeat' (first | (with_reducible exact Below.refl _ _) | (with_reducible assumption) | (with_reducible refine Below.alloc ?_ ?_ _) | (with_reducible refine Below.drew ?_) | (with_reducible refine Below.draws ?_ _) | (with_reducible refine Below.setCell ?_ ?_ _) | (refine Below.then ?_ (by with_reducible assumption)) | go_size))) (hb1.mono (by simp))); have z1 : w.heap.size < w1.heap.size := Nat.lt_of_lt_of_le (by simp) hb1.size; have c1_0 := (hb1.cell (p := ⟨w.heap.size, 0, none⟩) (by simp)).trans (by simp [go_sem]; rfl); have c1_1 := (hb1.cell (p := ⟨w.heap.size, 1, none⟩) (by simp)).trans (by simp [go_sem]; rfl); have c1_2 := (hb1.cell (p := ⟨w.heap.size, 2, none⟩) (by simp)).trans (by simp [go_sem]; rfl); have c1_3 := (hb1.cell (p := ⟨w.heap.size, 3, none⟩) (by simp)).trans (by simp [go_sem]; rfl); have c1_4 := (hb1.cell (p := ⟨w.heap.size, 4, none⟩) (by simp)).trans (by simp [go_sem]; rfl); have c1_5 := (hb1.cell (p := ⟨w.heap.size, 5, none⟩) (by simp)).trans (by simp [go_sem]; rfl); clear hb1) | (go_at_call 33; (with_reducible refine (HP.out _ B1.out).mono ?_); rintro e w2 ⟨a2, n2, c2', rfl, h2, hb2⟩; have HO2 := Lib.hid (Rd.of_owns encE_len (by decide) h2); clear h2; have B2 := Lib.hid (Below.then B1.out hb2); have z2 : w.heap.size < w2.heap.size := Nat.lt_of_lt_of_le z1 hb2.size; have c2_0 := (hb2.cell (p := ⟨w.heap.size, 0, none⟩) z1).trans c1_0; have c2_1 := (hb2.cell (p := ⟨w.heap.size, 1, none⟩) z1).trans c1_1; have c2_2 := (hb2.cell (p := ⟨w.heap.size, 2, none⟩) z1).trans c1_2; have c2_3 := (hb2.cell (p := ⟨w.heap.size, 3, none⟩) z1).trans c1_3; have c2_4 := (hb2.cell (p := ⟨w.heap.size, 4, none⟩) z1).trans c1_4; have c2_5 := (hb2.cell (p := ⟨w.heap.size, 5, none⟩) z1).trans c1_5; clear hb2 c1_0 c1_1 c1_2 c1_3 c1_4 c1_5))
    have hn2 : n2 ≤ 504000 := by rw [← HO2.out.length]; exact hol
    go_loopw [6, 7, 8, 19] (fun v6 v7 v8 v19 wr => ∃ k : Nat, k ≤ n2 ∧ v6 = .int .i64 (pzF (o.take k)).1 ∧ v7 = .int .i64 (pzF (o.take k)).2.1 ∧ v8 = .int .i64 (pzF (o.take k)).2.2 ∧ v19 = .int .i64 k ∧ Below w2.heap.size w2 wr) (fun _ _ _ v _ => n2 - (intOf v).toNat)
    case atStart => exact ⟨0, Nat.zero_le _, rfl, rfl, rfl, rfl, Below.refl _ _⟩
    case round =>
      obtain ⟨k, hk, rfl, rfl, rfl, rfl, hB⟩ := hrel
      have HB := Lib.hid hB
      have hbd := pz_bd (M := 2000) (o.take k) (0, 0, -1) (fun e he => HOM.out e (List.mem_of_mem_take he)) (by simp) (by omega)
      rw [show List.foldl pzS (0, 0, -1) (o.take k) = pzF (o.take k) from rfl, List.length_take] at hbd
      by_cases hkn : k < n2
      · obtain ⟨x, b1, o1, rfl, hb1, hx, q0, q1, q2, q3, q4⟩ := (HO2.out.ext hB).en_at k hkn
        have htk := pzF_take hx
        have hxm := HOM.out x (List.mem_of_getElem? hx)
        obtain ⟨⟨P, Nw, La⟩, hC⟩ : ∃ C, pzF (o.take k) = C := ⟨_, rfl⟩
        rw [hC] at htk hbd ⊢
        simp only [] at hbd ⊢
        obtain ⟨m1, k1, w1', a1, c1⟩ := x
        simp only [] at q0 q1 q2 q3 q4 hxm
        have wr1 : IntKind.i64.wrap (La + 1) = La + 1 := IntWalk.i64_in _ (by omega)
        have wr2 : IntKind.i64.wrap (Nw + 1) = Nw + 1 := IntWalk.i64_in _ (by omega)
        by_cases h3 : w1' = 3
        · subst h3
          unfold pzS at htk
          rw [if_pos rfl] at htk
          simp only [] at htk
          by_cases hm : m1 = La + 1
          · rw [if_pos hm] at htk
            have hm' : (m1 != La + 1) = false := by simpa using hm
            have hmx : (if P < Nw + 1 then Nw + 1 else P) = max P (Nw + 1) := by split <;> omega
            have HMM := Lib.hid hm
            have HTK := Lib.hid htk
            obtain ⟨X, hX⟩ : ∃ X, max P (Nw + 1) = X := ⟨_, rfl⟩
            rw [hX] at hmx
            have HX := Lib.hid hX
            have HMX := Lib.hid hmx
            clear hB hx htk hC hbd hX hmx hxm
            go_wp2_with (refine wp_region_later_lit (by kernel_rfl) (by kernel_rfl) ?_; (repeat (go_big_quiet_step (fail))); refine wpQuiet_nil ?_; intro w7 hb7)
            go_roundw
            case rel => exact ⟨k + 1, hkn, by rw [HTK.out] <;> first | rfl | (simp only []; rw [HX.out, HMX.out]) | (simp [HX.out, ← HMX.out]), by rw [HTK.out], by rw [HTK.out] <;> (first | rfl | (simp only []; rw [HMM.out]) | (simp only []; rw [← HMM.out])), by go_num, Below.then HB.out (Below.then (by (repeat' (first | (with_reducible exact Below.refl _ _) | (with_reducible assumption) | (with_reducible refine Below.alloc ?_ ?_ _) | (with_reducible refine Below.drew ?_) | (with_reducible refine Below.draws ?_ _) | (with_reducible refine Below.setCell ?_ ?_ _) | (refine Below.then ?_ (by with_reducible assumption)) | go_size))) hb7)⟩
            case measure => simp [intOf]; omega
          · rw [if_neg hm] at htk
            have hm' : (m1 != La + 1) = true := by simpa using hm
            have HTK := Lib.hid htk
            clear hB hx htk hC hbd hxm
            go_wp2_with (refine wp_region_later_lit (by kernel_rfl) (by kernel_rfl) ?_; (repeat (go_big_quiet_step (fail))); refine wpQuiet_nil ?_; intro w7 hb7)
            go_roundw
            case rel => exact ⟨k + 1, hkn, by rw [HTK.out] <;> first | rfl | (simp), by rw [HTK.out] <;> first | rfl | simp, by rw [HTK.out], by go_num, Below.then HB.out (Below.then (by (repeat' (first | (with_reducible exact Below.refl _ _) | (with_reducible assumption) | (with_reducible refine Below.alloc ?_ ?_ _) | (with_reducible refine Below.drew ?_) | (with_reducible refine Below.draws ?_ _) | (with_reducible refine Below.setCell ?_ ?_ _) | (refine Below.then ?_ (by with_reducible assumption)) | go_size))) hb7)⟩
            case measure => simp [intOf]; omega
        · have h3' : (w1' != 3) = true := by simpa using h3
          unfold pzS at htk
          rw [if_neg h3] at htk
          have HTK := Lib.hid htk
          clear hB hx htk hC hbd hxm
          go_wp2_with (refine wp_region_later_lit (by kernel_rfl) (by kernel_rfl) ?_; (repeat (go_big_quiet_step (fail))); refine wpQuiet_nil ?_; intro w7 hb7)
          go_roundw
          case rel => exact ⟨k + 1, hkn, by rw [HTK.out], by rw [HTK.out], by rw [HTK.out], by go_num, Below.then HB.out (by (repeat' (first | (with_reducible exact Below.refl _ _) | (with_reducible assumption) | (with_reducible refine Below.alloc ?_ ?_ _) | (with_reducible refine Below.drew ?_) | (with_reducible refine Below.draws ?_ _) | (with_reducible refine Below.setCell ?_ ?_ _) | (refine Below.then ?_ (by with_reducible assumption)) | go_size)))⟩
          case measure => simp [intOf]; omega
      · rw [List.take_of_length_le (by rw [HO2.out.length]; omega), HZ.out]
        clear hB hbd
        go_wp2
        go_ret2
        exact ⟨rfl, B2.out.trans (HB.out.mono B2.out.size)⟩
end Go.Proofs.Ytmahagcghpoekaa
namespace Go.Proofs.Ytmahagcghpoekaa
open Go.RowKit
set_option linter.unusedSimpArgs false
set_option linter.unusedVariables false
def workedR (R : Rn) (t : Int) : List Int × Int := if (runB R && inB t 0 2000) = true then (wkRow R.L.length (plM R t.toNat).o, 0) else ([], 1)
theorem wkRow_take4 {n i : Nat} {o : List En} {k : Nat} {x : En} (h : o[k]? = some x) (h4 : x.w = 4) (hi : x.k = (i : Int)) (hn : i < n) : wkRow n (o.take (k + 1)) = (wkRow n (o.take k)).set i (cntE (isWk i) (o.take k) + 1) := by
  rw [take_one h, wkRow_work h4 hi hn]
theorem wkRow_take {n : Nat} {o : List En} {k : Nat} {x : En} (h : o[k]? = some x) (h4 : x.w ≠ 4) : wkRow n (o.take (k + 1)) = wkRow n (o.take k) := by
  rw [take_one h, wkRow_other h4]
theorem plM_ok4 {R : Rn} (hr : RnOk R) (k : Nat) : ∀ e ∈ (plM R k).o, e.w = 4 → ∃ i p x : Nat, e.k = (i : Int) ∧ e.a = (p : Int) ∧ e.b = (x : Int) ∧ i < R.L.length ∧ p < (taAt R.L i).pcs.length ∧ x < (evA R i).length := by
  obtain ⟨_, _, h⟩ := plM_ei hr k
  exact h.ok4
theorem make_own (n : Nat) (hn : n ≤ 1000) (w : World) : (w.alloc (.cells (madeCells #[.int .i64 0] n) 3)).ownsRow w.heap.size 3 1 (.slice (some ⟨w.heap.size, 0, none⟩) n n) n ((List.replicate n (0 : Int)).flatMap enc1) := by
  have e : (madeCells #[Value.int .i64 0] n).toList = (List.replicate n (0 : Int)).flatMap enc1 := by
    rw [flat_enc1, List.map_replicate]; exact toList_madeCells_one _ n
  refine ⟨by rw [← e]; simp [madeCells], .inr ⟨w.heap.size, n, madeCells #[.int .i64 0] n, rfl, Nat.le_refl _, heap_alloc_new _ _, Nat.le_refl _, by unfold maxLen; omega, by simp [madeCells], ?_⟩⟩
  rw [← e, Nat.mul_one, List.take_of_length_le (by simp [madeCells])]
end Go.Proofs.Ytmahagcghpoekaa
namespace Go.Proofs.Ytmahagcghpoekaa
open Go.RowKit
set_option linter.unusedSimpArgs false
set_option linter.unusedVariables false
theorem ERow : Elt Try.prog 45 29 1 24 := Elt.mk' (z := .slice none 0 0) Try.underlying45 (by kernel_rfl) rfl (by decide)
def hdrs (i : Nat) (h : Nat → Hdr) : List Value := (List.range i).map (fun j => sl (h j))
theorem hdrs_succ (i : Nat) (h : Nat → Hdr) (d : Hdr) : hdrs (i + 1) (updF h i d) = hdrs i h ++ [sl d] := by
  unfold hdrs
  rw [List.range_succ, List.map_append, List.map_singleton, updF_same]
  congr 1
  refine List.map_congr_left (fun j hj => ?_)
  rw [List.mem_range] at hj
  rw [updF_other _ _ (by omega)]
theorem hdrs_rd {w : World} {B n c : Nat} {a : Option Addr} {h : Nat → Hdr} {X : Nat → List Int} (ho : w.ownsRow B 29 1 (.slice a n c) n (hdrs n h)) (hn : n ≤ 1000) (hx : ∀ i, i < n → Rd w (h i).a (h i).n 1 ((X i).map enc1)) : RdE w a n X := by
  refine ⟨by omega, fun k hk => ?_⟩
  rcases ho.2 with ⟨_, h0⟩ | ⟨g, cap, cur, hv, hB, hg, _⟩
  · omega
  · simp at hv
    obtain ⟨rfl, rfl⟩ := hv
    refine ⟨g, 0, (h k).a, (h k).n, (h k).c, rfl, (Array.getElem?_eq_some_iff.1 hg).1, ?_, hx k hk⟩
    rw [Nat.zero_add, ho.cellAt k (by simpa using hk)]
    simp [hdrs, hk]
theorem endsRow_take {R : Rn} {o : List En} {i k : Nat} (h : k < (evA R i).length) : (endsRow R o i).take (k + 1) = (endsRow R o i).take k ++ [endF o i (k : Int)] := take_one (endsRow_get h)
theorem endF_take {o : List En} {n : Nat} {e : En} (h : o[n]? = some e) (i : Nat) (x : Int) : endF (o.take (n + 1)) i x = endG i x (endF (o.take n) i x) e := by rw [take_one h, endF_one]
end Go.Proofs.Ytmahagcghpoekaa
namespace Go.Proofs.Ytmahagcghpoekaa
open Go.RowKit
set_option linter.unusedSimpArgs false
set_option linter.unusedVariables false
def dueA (R : Rn) (i k : Nat) : Int := (((evA R i)[k]?).getD default).1 + (taAt R.L i).dl
def xAt (X : Nat → List Int) (i k : Nat) : Int := ((X i)[k]?).getD 0
/-- what is found late so far: the first due, the task, the event -/
abbrev LS := Int × Int × Int
def lateS (R : Rn) (X : Nat → List Int) (i k : Nat) (s : LS) : LS := if dueA R i k < s.1 ∧ (xAt X i k < 0 ∨ dueA R i k < xAt X i k) then (dueA R i k, (i : Int), (k : Int)) else s
def lateRow (R : Rn) (X : Nat → List Int) (i : Nat) : Nat → Nat → LS → LS
  | 0, _, s => s
  | f + 1, k, s => lateRow R X i f (k + 1) (lateS R X i k s)
def lateAll (R : Rn) (X : Nat → List Int) : Nat → Nat → LS → LS
  | 0, _, s => s
  | f + 1, i, s => lateAll R X f (i + 1) (lateRow R X i (evA R i).length 0 s)
def lateF (R : Rn) (t : Int) : LS := lateAll R (endX R t) R.L.length 0 (t + 1, -1, -1)
def lateR (R : Rn) (t : Int) : Int × Int × Int := if (runB R && inB t 0 2000) = true then (if 0 ≤ (lateF R t).2.1 then ((lateF R t).2.1, (lateF R t).2.2, 15) else (-1, -1, 0)) else (0, 0, 1)
def meetsR (R : Rn) (t : Int) : Bool × Int := if (runB R && inB t 0 2000) = true then (decide ((lateF R t).2.1 < 0), 0) else (false, 1)
def rIII (x y z : Int) : Ending := .returned (.tuple #[.int .i64 x, .int .i64 y, .int .i64 z])
theorem RdRun.late {w : World} {H : RunH} {R : Rn} (hR : RdRun w H R) (hr : RnOk R) (hv : ValidT R.L) {i k : Nat} (hi : i < R.L.length) (hk : k < (evA R i).length) :
    ∃ (eb eo en ec vb vo : Nat) (x y : Int) (tb toff : Nat) (d : Int), H.eA = some ⟨eb, eo, none⟩ ∧ w.cell? ⟨eb, eo + i, none⟩ = some (.slice (some ⟨vb, vo, none⟩) en ec) ∧ (evA R i).length = en ∧ w.cell? ⟨vb, vo + k * 2, none⟩ = some (.int .i64 x) ∧
    H.tA = some ⟨tb, toff, none⟩ ∧ w.cell? ⟨tb, toff + i * 6 + 1, none⟩ = some (.int .i64 d) ∧ x + d = dueA R i k ∧ (0 ≤ x ∧ x ≤ 1000000) ∧ (0 ≤ d ∧ d ≤ 10000) ∧ eb < w.heap.size ∧ vb < w.heap.size ∧ tb < w.heap.size ∧ i < H.tN ∧ i < H.eN := by
  have hkev : i < R.ev.length := by rw [hr.ev]; exact hi
  have hie : i < H.eN := by have := hR.e.len; omega
  have hit : i < H.tN := by have := hR.t.length; omega
  obtain ⟨b, off, ea, en, ec, hea, hb, hc, hRd⟩ := hR.e.at_ i hie
  have hlen : (evA R i).length = en := hRd.length
  obtain ⟨x, y, vb, vo, rfl, hvb, g0, g1, hg, _⟩ := hRd.pc_at' k (by omega)
  have hel := (hr.el (evA R i) (by unfold evA; rw [List.getElem?_eq_getElem hkev]; exact List.getElem_mem hkev)).2 (x, y) (List.mem_of_getElem? hg)
  simp only [] at hel
  obtain ⟨t, tb, toff, pa, pn, pc, hta, htb, _, h1, _, _, _, _, _, _, ht, _⟩ := hR.t.at_ i hit
  have htm : taAt R.L i = t := taAt_of ht
  have htM := List.mem_of_getElem? ht
  have d1 := hv.dl t htM
  have d2 := hv.gap t htM
  have hvz : vb < w.heap.size := hvb
  refine ⟨b, off, en, ec, vb, vo, x, y, tb, toff, t.dl, hea, hc, hlen, g0, hta, h1, ?_, hel.1, by omega, hb, hvz, htb, hit, hie⟩
  have hg' : (evA R i)[k]? = some (x, y) := hg
  unfold dueA
  rw [hg', htm]; rfl
theorem RdE.xat {w : World} {a : Option Addr} {n : Nat} {X : Nat → List Int} (h : RdE w a n X) {i k : Nat} (hi : i < n) (hk : k < (X i).length) :
    ∃ (b off xb xo en ec : Nat), a = some ⟨b, off, none⟩ ∧ b < w.heap.size ∧ w.cell? ⟨b, off + i, none⟩ = some (.slice (some ⟨xb, xo, none⟩) en ec) ∧ (X i).length = en ∧ xb < w.heap.size ∧ w.cell? ⟨xb, xo + k, none⟩ = some (.int .i64 (xAt X i k)) := by
  obtain ⟨b, off, ea, en, ec, rfl, hb, hc, hR⟩ := h.at_ i hi
  have hl := hR.length
  obtain ⟨y, xb, xo, rfl, hxb, hx, hy⟩ := hR.idx k (by omega)
  refine ⟨b, off, xb, xo, en, ec, rfl, hb, hc, hl, hxb, ?_⟩
  have : xAt X i k = y := by unfold xAt; rw [hy]; rfl
  rw [this]; exact hx
theorem RdE.row {w : World} {a : Option Addr} {n : Nat} {X : Nat → List Int} (h : RdE w a n X) {i : Nat} (hi : i < n) :
    ∃ (b off : Nat) (ea : Option Addr) (en ec : Nat), a = some ⟨b, off, none⟩ ∧ b < w.heap.size ∧ w.cell? ⟨b, off + i, none⟩ = some (.slice ea en ec) ∧ (X i).length = en ∧ Rd w ea en 1 ((X i).map enc1) := by
  obtain ⟨b, off, ea, en, ec, rfl, hb, hc, hR⟩ := h.at_ i hi
  exact ⟨b, off, ea, en, ec, rfl, hb, hc, hR.length, hR⟩
set_option maxRecDepth 100000 in
set_option maxHeartbeats 8000000 in
theorem Late_any (H : RunH) (R : Rn) (t : Int) (w : World) (hR : ReadRun w H R) : Calls Try.prog 52 #[runV H R.fr R.sl, .int .i64 t] w fun e w' => e = rIII (lateR R t).1 (lateR R t).2.1 (lateR R t).2.2 ∧ Below w.heap.size w w' := by
  have HE := Lib.hid (fun w1 (hb : Below w.heap.size w w1) => Ends_any H R t w1 (hR.ext hb))
  obtain ⟨B, hB⟩ : ∃ B, (runB R && inB t 0 2000) = B := ⟨_, rfl⟩
  unfold lateR
  unfold endE endN at HE
  rw [hB] at HE ⊢
  cases B
  · obtain ⟨fr, hfr⟩ : ∃ x, R.fr = x := ⟨_, rfl⟩
    obtain ⟨sl_, hsl⟩ : ∃ x, R.sl = x := ⟨_, rfl⟩
    rw [hfr, hsl] at HE ⊢
    obtain ⟨tA, tN, tC, eA, eN, eC, bA, bN, bC, sA, sN, sC⟩ := H
    unfold runV at HE ⊢
    simp only [] at HE ⊢
    clear hR hB hfr hsl
    go_enter Try.func52, Try.ntmps52
    go_wp2_with (go_at_call 14; (with_reducible refine (HE.out _ (by (repeat' (first | (with_reducible exact Below.refl _ _) | (with_reducible assumption) | (with_reducible refine Below.alloc ?_ ?_ _) | (with_reducible refine Below.drew ?_) | (with_reducible refine Below.draws ?_ _) | (with_reducible refine Below.setCell ?_ ?_ _) | (refine Below.then ?_ (by with_reducible assumption)) | go_size)))).mono ?_); rintro e w1 ⟨a1, c1, rfl, h1, hb1⟩; have HX1 := Lib.hid h1; clear h1; have B1 : Hid (Below w.heap.size w w1) := Lib.hid (Below.trans (by (repeat' (first | (with_reducible exact Below.refl _ _) | (with_reducible assumption) | (with_reducible refine Below.alloc ?_ ?_ _) | (with_reducible refine Below.drew ?_) | (with_reducible refine Below.draws ?_ _) | (with_reducible refine Below.setCell ?_ ?_ _) | (refine Below.then ?_ (by with_reducible assumption)) | go_size))) (hb1.mono (by simp))); have z1 : w.heap.size < w1.heap.size := Nat.lt_of_lt_of_le (by simp) hb1.size; have c1_0 := (hb1.cell (p := ⟨w.heap.size, 0, none⟩) (by simp)).trans (by simp [go_sem]; rfl); have c1_1 := (hb1.cell (p := ⟨w.heap.size, 1, none⟩) (by simp)).trans (by simp [go_sem]; rfl); have c1_2 := (hb1.cell (p := ⟨w.heap.size, 2, none⟩) (by simp)).trans (by simp [go_sem]; rfl); have c1_3 := (hb1.cell (p := ⟨w.heap.size, 3, none⟩) (by simp)).trans (by simp [go_sem]; rfl); have c1_4 := (hb1.cell (p := ⟨w.heap.size, 4, none⟩) (by simp)).trans (by simp [go_sem]; rfl); have c1_5 := (hb1.cell (p := ⟨w.heap.size, 5, none⟩) (by simp)).trans (by simp [go_sem]; rfl); clear hb1)
    refine bodyPost_ret (results_tmp3 rfl _ _ _) rfl ?_
    exact ⟨rfl, B1.out⟩
  · rw [if_pos rfl, if_pos rfl] at HE
    rw [if_pos rfl]
    rw [Bool.and_eq_true, inB_iff] at hB
    obtain ⟨hr, hvl, _⟩ := run_ok hB.1
    have hv := valid_of hvl
    have hL5 := hr.r.len
    obtain ⟨X, hX⟩ : ∃ X, endX R t = X := ⟨_, rfl⟩
    have hXl : ∀ i, (X i).length = (evA R i).length := fun i => by rw [← hX]; exact endsRow_len _ _ _
    rw [hX] at HE
    obtain ⟨F, hF⟩ : ∃ F, lateF R t = F := ⟨_, rfl⟩
    rw [hF]
    obtain ⟨Z, hZ⟩ : ∃ Z : Int × Int × Int, (if 0 ≤ F.2.1 then (F.2.1, F.2.2, 15) else (-1, -1, 0)) = Z := ⟨_, rfl⟩
    rw [hZ]
    have HZ := Lib.hid hZ
    clear hZ
    unfold lateF at hF
    rw [hX] at hF
    have HR := Lib.hid hR.rd; have HRN := Lib.hid hr; have HV := Lib.hid hv; have HXL := Lib.hid hXl
    obtain ⟨nL, hnL⟩ : ∃ x, R.L.length = x := ⟨_, rfl⟩
    have HNL := Lib.hid hnL
    rw [hnL] at hF HE
    have HF0 : Hid (lateAll R X (nL - 0) 0 (t + 1, -1, -1) = F) := Lib.hid hF
    obtain ⟨fr, hfr⟩ : ∃ x, R.fr = x := ⟨_, rfl⟩
    obtain ⟨sl_, hsl⟩ : ∃ x, R.sl = x := ⟨_, rfl⟩
    rw [hfr, hsl] at HE ⊢
    obtain ⟨tA, tN, tC, eA, eN, eC, bA, bN, bC, sA, sN, sC⟩ := H
    unfold runV at HE ⊢
    simp only [] at HE HR ⊢
    have wt : IntKind.i64.wrap (t + 1) = t + 1 := IntWalk.i64_in _ (by omega)
    have ht := hB.2
    clear hR hB hfr hsl hnL hr hv hvl hF hX hXl
    go_enter Try.func52, Try.ntmps52
    go_wp2_with (go_at_call 14; (with_reducible refine (HE.out _ (by (repeat' (first | (with_reducible exact Below.refl _ _) | (with_reducible assumption) | (with_reducible refine Below.alloc ?_ ?_ _) | (with_reducible refine Below.drew ?_) | (with_reducible refine Below.draws ?_ _) | (with_reducible refine Below.setCell ?_ ?_ _) | (refine Below.then ?_ (by with_reducible assumption)) | go_size)))).mono ?_); rintro e w1 ⟨a1, c1, rfl, h1, hb1⟩; have HX1 := Lib.hid h1; clear h1; have B1 : Hid (Below w.heap.size w w1) := Lib.hid (Below.trans (by (repeat' (first | (with_reducible exact Below.refl _ _) | (with_reducible assumption) | (with_reducible refine Below.alloc ?_ ?_ _) | (with_reducible refine Below.drew ?_) | (with_reducible refine Below.draws ?_ _) | (with_reducible refine Below.setCell ?_ ?_ _) | (refine Below.then ?_ (by with_reducible assumption)) | go_size))) (hb1.mono (by simp))); have z1 : w.heap.size < w1.heap.size := Nat.lt_of_lt_of_le (by simp) hb1.size; have c1_0 := (hb1.cell (p := ⟨w.heap.size, 0, none⟩) (by simp)).trans (by simp [go_sem]; rfl); have c1_1 := (hb1.cell (p := ⟨w.heap.size, 1, none⟩) (by simp)).trans (by simp [go_sem]; rfl); have c1_2 := (hb1.cell (p := ⟨w.heap.size, 2, none⟩) (by simp)).trans (by simp [go_sem]; rfl); have c1_3 := (hb1.cell (p := ⟨w.heap.size, 3, none⟩) (by simp)).trans (by simp [go_sem]; rfl); have c1_4 := (hb1.cell (p := ⟨w.heap.size, 4, none⟩) (by simp)).trans (by simp [go_sem]; rfl); have c1_5 := (hb1.cell (p := ⟨w.heap.size, 5, none⟩) (by simp)).trans (by simp [go_sem]; rfl); clear hb1)
    go_loopw [4, 5, 9, 28] (fun v4 v5 v9 v28 wr => ∃ (i : Nat) (s : LS), i ≤ nL ∧ v9 = .int .i64 s.1 ∧ v4 = .int .i64 s.2.1 ∧ v5 = .int .i64 s.2.2 ∧ v28 = .int .i64 i ∧ lateAll R X (nL - i) i s = F ∧ Below w1.heap.size w1 wr) (fun _ _ _ v _ => nL - (intOf v).toNat)
    case atStart => exact ⟨0, _, Nat.zero_le _, rfl, rfl, rfl, rfl, HF0.out, Below.refl _ _⟩
    case round =>
      clear HF0
      obtain ⟨i, s, hi, rfl, rfl, rfl, rfl, hS, hB⟩ := hrel
      have HB := Lib.hid hB
      by_cases hin : i < nL
      · have hiL : i < R.L.length := by rw [HNL.out]; exact hin
        rw [show nL - i = (nL - (i + 1)) + 1 by omega, lateAll] at hS
        obtain ⟨xb, xoff, xa, en, xc, rfl, hxb, hxc, hxl, hxR⟩ := (HX1.out.ext hB).row hin
        have hel : (evA R i).length = en := by rw [← HXL.out i]; exact hxl
        rw [hel] at hS
        obtain ⟨S2, hS2⟩ : ∃ S2, lateRow R X i en 0 s = S2 := ⟨_, rfl⟩
        rw [hS2] at hS
        have HS := Lib.hid hS
        have HS2 : Hid (lateRow R X i (en - 0) 0 s = S2) := Lib.hid hS2
        have HEL := Lib.hid hel; have HXR := Lib.hid hxR
        have hens := hxR.small
        obtain ⟨wo, hwo⟩ : ∃ wo : World, wo = wr := ⟨_, rfl⟩
        rw [← hwo] at HB hxb hxc HXR ⊢
        clear hB hS hS2 hel hxR hwo hxl
        go_wp2
        go_loopw [4, 5, 9, 35] (fun v4 v5 v9 v35 wr => ∃ (k : Nat) (s : LS), k ≤ en ∧ v9 = .int .i64 s.1 ∧ v4 = .int .i64 s.2.1 ∧ v5 = .int .i64 s.2.2 ∧ v35 = .int .i64 k ∧ lateRow R X i (en - k) k s = S2 ∧ Below wo.heap.size wo wr) (fun _ _ _ v _ => en - (intOf v).toNat)
        case atStart => exact ⟨0, s, Nat.zero_le _, rfl, rfl, rfl, rfl, HS2.out, Below.refl _ _⟩
        case round =>
          clear HS2
          obtain ⟨k, u, hk, rfl, rfl, rfl, rfl, hS, hB⟩ := hrel
          have HB3 := Lib.hid (Below.then HB.out hB)
          have HB2 := Lib.hid hB
          by_cases hkn : k < en
          · rw [show en - k = (en - (k + 1)) + 1 by omega, lateRow] at hS
            obtain ⟨eb, eo, en', ec, vb, vo, x, y, tb, toff, d, hea, hc, hlen, g0, hta, h1, hdue, hx, hd, hebz, hvbz, htbz, hiT, hiE⟩ := (HR.out.ext (B1.out.trans (HB3.out.mono B1.out.size))).late HRN.out HV.out hiL (k := k) (by rw [HEL.out]; exact hkn)
            simp only [] at hea hta hiT hiE
            obtain rfl : en = en' := by rw [← hlen]; exact HEL.out.symm
            subst hea; subst hta
            have hXk := (HXR.out.ext hB).idx k hkn
            obtain ⟨z, zb, zo, hxa, hzb, hzc, hz⟩ := hXk
            have hxz : xAt X i k = z := by unfold xAt; rw [hz]; rfl
            have d0 := (HB3.out.cell (p := ⟨w.heap.size, 0, none⟩) z1).trans c1_0
            have d3 := (HB3.out.cell (p := ⟨w.heap.size, 3, none⟩) z1).trans c1_3
            have zz := Nat.lt_of_lt_of_le z1 HB3.out.size
            have wd : IntKind.i64.wrap (x + d) = x + d := IntWalk.i64_in _ (by omega)
            subst hxa
            unfold lateS at hS
            rw [hxz, ← hdue] at hS
            obtain ⟨D, hD⟩ : ∃ D, x + d = D := ⟨_, rfl⟩
            rw [hD] at hS wd
            obtain ⟨f, uu⟩ := u
            obtain ⟨ut, ue⟩ := uu
            simp only [] at hS ⊢
            clear hB hlen hdue hxz hz hx hd
            by_cases q1 : D < f
            · have q1' : decide (D < f) = true := by simpa using q1
              by_cases q2 : z < 0
              · have q2' : decide (z < 0) = true := by simpa using q2
                rw [if_pos ⟨q1, .inl q2⟩] at hS
                have HS3 := Lib.hid hS
                clear hS
                go_wp2_with (refine wp_region_later_lit (by kernel_rfl) (by kernel_rfl) ?_; (repeat (go_big_quiet_step (fail))); refine wpQuiet_nil ?_; intro w7 hb7)
                go_roundw
                case rel => exact ⟨k + 1, (D, (i : Int), (k : Int)), hkn, rfl, rfl, rfl, by go_num, HS3.out, Below.then HB2.out (Below.then (by (repeat' (first | (with_reducible exact Below.refl _ _) | (with_reducible assumption) | (with_reducible refine Below.alloc ?_ ?_ _) | (with_reducible refine Below.drew ?_) | (with_reducible refine Below.draws ?_ _) | (with_reducible refine Below.setCell ?_ ?_ _) | (refine Below.then ?_ (by with_reducible assumption)) | go_size))) hb7)⟩
                case measure => simp [intOf]; omega
              · have q2' : decide (z < 0) = false := by simpa using q2
                by_cases q3 : D < z
                · have q3' : decide (D < z) = true := by simpa using q3
                  rw [if_pos ⟨q1, .inr q3⟩] at hS
                  have HS3 := Lib.hid hS
                  clear hS
                  go_wp2_with (refine wp_region_later_lit (by kernel_rfl) (by kernel_rfl) ?_; (repeat (go_big_quiet_step (fail))); refine wpQuiet_nil ?_; intro w7 hb7)
                  go_roundw
                  case rel => exact ⟨k + 1, (D, (i : Int), (k : Int)), hkn, rfl, rfl, rfl, by go_num, HS3.out, Below.then HB2.out (Below.then (by (repeat' (first | (with_reducible exact Below.refl _ _) | (with_reducible assumption) | (with_reducible refine Below.alloc ?_ ?_ _) | (with_reducible refine Below.drew ?_) | (with_reducible refine Below.draws ?_ _) | (with_reducible refine Below.setCell ?_ ?_ _) | (refine Below.then ?_ (by with_reducible assumption)) | go_size))) hb7)⟩
                  case measure => simp [intOf]; omega
                · have q3' : decide (D < z) = false := by simpa using q3
                  rw [if_neg (fun q => q.2.elim q2 q3)] at hS
                  have HS3 := Lib.hid hS
                  clear hS
                  go_wp2_with (refine wp_region_later_lit (by kernel_rfl) (by kernel_rfl) ?_; (repeat (go_big_quiet_step (fail))); refine wpQuiet_nil ?_; intro w7 hb7)
                  go_roundw
                  case rel => exact ⟨k + 1, (f, ut, ue), hkn, rfl, rfl, rfl, by go_num, HS3.out, Below.then HB2.out (Below.then (by (repeat' (first | (with_reducible exact Below.refl _ _) | (with_reducible assumption) | (with_reducible refine Below.alloc ?_ ?_ _) | (with_reducible refine Below.drew ?_) | (with_reducible refine Below.draws ?_ _) | (with_reducible refine Below.setCell ?_ ?_ _) | (refine Below.then ?_ (by with_reducible assumption)) | go_size))) hb7)⟩
                  case measure => simp [intOf]; omega
            · have q1' : decide (D < f) = false := by simpa using q1
              rw [if_neg (fun q => q1 q.1)] at hS
              have HS3 := Lib.hid hS
              clear hS
              go_wp2_with (refine wp_region_later_lit (by kernel_rfl) (by kernel_rfl) ?_; (repeat (go_big_quiet_step (fail))); refine wpQuiet_nil ?_; intro w7 hb7)
              go_roundw
              case rel => exact ⟨k + 1, (f, ut, ue), hkn, rfl, rfl, rfl, by go_num, HS3.out, Below.then HB2.out (Below.then (by (repeat' (first | (with_reducible exact Below.refl _ _) | (with_reducible assumption) | (with_reducible refine Below.alloc ?_ ?_ _) | (with_reducible refine Below.drew ?_) | (with_reducible refine Below.draws ?_ _) | (with_reducible refine Below.setCell ?_ ?_ _) | (refine Below.then ?_ (by with_reducible assumption)) | go_size))) hb7)⟩
              case measure => simp [intOf]; omega
          · have hke : u = S2 := by rw [show en - k = 0 by omega] at hS; exact hS
            subst hke
            clear hS hB
            go_wp2
            go_roundw
            case rel => exact ⟨i + 1, u, hin, rfl, rfl, rfl, by go_num, HS.out, HB3.out⟩
            case measure => simp [intOf]; omega
      · have hie : s = F := by rw [show nL - i = 0 by omega] at hS; exact hS
        subst hie
        clear hS hB
        obtain ⟨f, ut, ue⟩ := s
        simp only []
        by_cases q : 0 ≤ ut
        · have q' : decide (0 ≤ ut) = true := by simpa using q
          obtain rfl : Z = (ut, ue, 15) := by rw [← HZ.out]; exact if_pos q
          go_wp2
          refine bodyPost_ret (results_tmp3 rfl _ _ _) rfl ?_
          exact ⟨rfl, B1.out.trans (HB.out.mono B1.out.size)⟩
        · have q' : decide (0 ≤ ut) = false := by simpa using q
          obtain rfl : Z = (-1, -1, 0) := by rw [← HZ.out]; exact if_neg q
          go_wp2
          refine bodyPost_ret (results_tmp3 rfl _ _ _) rfl ?_
          exact ⟨rfl, B1.out.trans (HB.out.mono B1.out.size)⟩
end Go.Proofs.Ytmahagcghpoekaa
namespace Go.Proofs.Ytmahagcghpoekaa
open Go.RowKit
set_option linter.unusedSimpArgs false
set_option linter.unusedVariables false
def preR (R : Rn) (t : Int) : Int × Int := if (runB R && inB t 0 2000) = true then ((preF (endX R t) (plM R t.toNat).o).1, 0) else (0, 1)
theorem preF_take {X : Nat → List Int} {o : List En} {k : Nat} {x : En} (h : o[k]? = some x) : preF X (o.take (k + 1)) = preS X (preF X (o.take k)) x := by
  rw [take_one h]; unfold preF; rw [List.foldl_append]; rfl
theorem preF_bd (X : Nat → List Int) (o : List En) (k : Nat) : 0 ≤ (preF X (o.take k)).1 ∧ (preF X (o.take k)).1 ≤ o.length := by
  have := preS_bd X (o.take k) (0, ⟨0, -1, 0, 0, 0⟩)
  rw [show List.foldl (preS X) (0, ⟨0, -1, 0, 0, 0⟩) (o.take k) = preF X (o.take k) from rfl, List.length_take] at this
  simp only [] at this
  omega
/-- the last entry of work is one, or none yet -/
def LastOk (n : Nat) (X : Nat → List Int) (e : En) : Prop := e.k < 0 ∨ ∃ i x : Nat, e.k = (i : Int) ∧ e.b = (x : Int) ∧ i < n ∧ x < (X i).length
/-- a block of five cells laid anew -/
def set5 (w : World) (L : Nat) (e : En) : World := ((((w.setCell ⟨L, 0, none⟩ (.int .i64 e.m)).setCell ⟨L, 1, none⟩ (.int .i64 e.k)).setCell ⟨L, 2, none⟩ (.int .i64 e.w)).setCell ⟨L, 3, none⟩ (.int .i64 e.a)).setCell ⟨L, 4, none⟩ (.int .i64 e.b)
structure Blk5 (w : World) (L : Nat) (e : En) : Prop where
  cm : w.cell? ⟨L, 0, none⟩ = some (.int .i64 e.m)
  ck : w.cell? ⟨L, 1, none⟩ = some (.int .i64 e.k)
  cw : w.cell? ⟨L, 2, none⟩ = some (.int .i64 e.w)
  ca : w.cell? ⟨L, 3, none⟩ = some (.int .i64 e.a)
  cb : w.cell? ⟨L, 4, none⟩ = some (.int .i64 e.b)
  f : ∀ j, w.frozen? ⟨L, j, none⟩ = false
  z : L < w.heap.size
theorem Blk5.ext {w w' : World} {L : Nat} {e : En} (h : Blk5 w L e) (hb : Below w.heap.size w w') : Blk5 w' L e :=
  ⟨(hb.cell (p := ⟨L, 0, none⟩) h.z).trans h.cm, (hb.cell (p := ⟨L, 1, none⟩) h.z).trans h.ck, (hb.cell (p := ⟨L, 2, none⟩) h.z).trans h.cw, (hb.cell (p := ⟨L, 3, none⟩) h.z).trans h.ca, (hb.cell (p := ⟨L, 4, none⟩) h.z).trans h.cb, fun j => (hb.frozen (p := ⟨L, j, none⟩) h.z).trans (h.f j), Nat.lt_of_lt_of_le h.z hb.size⟩
theorem Blk5.set {w : World} {L : Nat} {e x : En} (h : Blk5 w L e) : Blk5 (set5 w L x) L x := by
  have ne : ∀ i j : Nat, i ≠ j → (⟨L, i, none⟩ : Addr) ≠ ⟨L, j, none⟩ := fun i j hij => addr_neS (.inr hij)
  unfold set5
  have s1 : (w.setCell ⟨L, 0, none⟩ (.int .i64 x.m)).cell? ⟨L, 1, none⟩ = some (.int .i64 e.k) := (World.cell?_setCell_other _ _ _ _ (ne 0 1 (by decide))).trans h.ck
  have s2 : ((w.setCell ⟨L, 0, none⟩ (.int .i64 x.m)).setCell ⟨L, 1, none⟩ (.int .i64 x.k)).cell? ⟨L, 2, none⟩ = some (.int .i64 e.w) := (World.cell?_setCell_other _ _ _ _ (ne 1 2 (by decide))).trans ((World.cell?_setCell_other _ _ _ _ (ne 0 2 (by decide))).trans h.cw)
  have s3 : (((w.setCell ⟨L, 0, none⟩ (.int .i64 x.m)).setCell ⟨L, 1, none⟩ (.int .i64 x.k)).setCell ⟨L, 2, none⟩ (.int .i64 x.w)).cell? ⟨L, 3, none⟩ = some (.int .i64 e.a) := (World.cell?_setCell_other _ _ _ _ (ne 2 3 (by decide))).trans ((World.cell?_setCell_other _ _ _ _ (ne 1 3 (by decide))).trans ((World.cell?_setCell_other _ _ _ _ (ne 0 3 (by decide))).trans h.ca))
  have s4 : ((((w.setCell ⟨L, 0, none⟩ (.int .i64 x.m)).setCell ⟨L, 1, none⟩ (.int .i64 x.k)).setCell ⟨L, 2, none⟩ (.int .i64 x.w)).setCell ⟨L, 3, none⟩ (.int .i64 x.a)).cell? ⟨L, 4, none⟩ = some (.int .i64 e.b) := (World.cell?_setCell_other _ _ _ _ (ne 3 4 (by decide))).trans ((World.cell?_setCell_other _ _ _ _ (ne 2 4 (by decide))).trans ((World.cell?_setCell_other _ _ _ _ (ne 1 4 (by decide))).trans ((World.cell?_setCell_other _ _ _ _ (ne 0 4 (by decide))).trans h.cb)))
  refine ⟨?_, ?_, ?_, ?_, World.cell?_setCell_same _ _ _ s4, fun j => by simp only [World.frozen?_setCell]; exact h.f j, by simpa using h.z⟩
  · exact (World.cell?_setCell_other _ _ _ _ (ne 4 0 (by decide))).trans ((World.cell?_setCell_other _ _ _ _ (ne 3 0 (by decide))).trans ((World.cell?_setCell_other _ _ _ _ (ne 2 0 (by decide))).trans ((World.cell?_setCell_other _ _ _ _ (ne 1 0 (by decide))).trans (World.cell?_setCell_same _ _ _ h.cm))))
  · exact (World.cell?_setCell_other _ _ _ _ (ne 4 1 (by decide))).trans ((World.cell?_setCell_other _ _ _ _ (ne 3 1 (by decide))).trans ((World.cell?_setCell_other _ _ _ _ (ne 2 1 (by decide))).trans (World.cell?_setCell_same _ _ _ s1)))
  · exact (World.cell?_setCell_other _ _ _ _ (ne 4 2 (by decide))).trans ((World.cell?_setCell_other _ _ _ _ (ne 3 2 (by decide))).trans (World.cell?_setCell_same _ _ _ s2))
  · exact (World.cell?_setCell_other _ _ _ _ (ne 4 3 (by decide))).trans (World.cell?_setCell_same _ _ _ s3)
theorem set5_below {w0 w : World} {B L : Nat} {x : En} (h : Below B w0 w) (hL : B ≤ L) : Below B w0 (set5 w L x) :=
  ((((h.setCell (p := ⟨L, 0, none⟩) hL _).setCell (p := ⟨L, 1, none⟩) hL _).setCell (p := ⟨L, 2, none⟩) hL _).setCell (p := ⟨L, 3, none⟩) hL _).setCell (p := ⟨L, 4, none⟩) hL _
end Go.Proofs.Ytmahagcghpoekaa
namespace Go.Proofs.Ytmahagcghpoekaa
open Go.RowKit
set_option linter.unusedSimpArgs false
set_option linter.unusedVariables false
/-- sums -/
def sumL (f : Int → Int) : List Int → Int
  | [] => 0
  | k :: ks => f k + sumL f ks
theorem demL_sum {L : List Ta} {w : Int} : ∀ (ks : List Int) (n : Int), demL L w ks n = n + sumL (fun k => demT (taAt L k) w) ks
  | [], n => by simp [demL, sumL]
  | k :: ks, n => by
    have e : demL L w (k :: ks) n = demL L w ks (n + demT (taAt L k) w) := rfl
    rw [e, demL_sum ks, sumL]; omega
theorem sumL_le {f g : Int → Int} : ∀ (ks : List Int), (∀ k ∈ ks, f k ≤ g k) → sumL f ks ≤ sumL g ks
  | [], _ => Int.le_refl _
  | k :: ks, h => by
    have h1 := h k (by simp)
    have h2 := sumL_le ks (fun j hj => h j (by simp [hj]))
    rw [sumL, sumL]; omega
theorem sumL_add {f g : Int → Int} : ∀ (ks : List Int), sumL (fun k => f k + g k) ks = sumL f ks + sumL g ks
  | [] => rfl
  | k :: ks => by rw [sumL, sumL, sumL, sumL_add ks]; omega
theorem sumL_eq {f g : Int → Int} : ∀ (ks : List Int), (∀ k ∈ ks, f k = g k) → sumL f ks = sumL g ks
  | [], _ => rfl
  | k :: ks, h => by rw [sumL, sumL, h k (by simp), sumL_eq ks (fun j hj => h j (by simp [hj]))]
theorem sumL_app {f : Int → Int} : ∀ (ks js : List Int), sumL f (ks ++ js) = sumL f ks + sumL f js
  | [], js => by simp [sumL]
  | k :: ks, js => by rw [List.cons_append, sumL, sumL, sumL_app ks js]; omega
theorem sumL_upd {f g : Int → Int} {y d : Int} : ∀ (ks : List Int), ks.Nodup → y ∈ ks → g y = f y + d → (∀ k ∈ ks, k ≠ y → g k = f k) → sumL g ks = sumL f ks + d
  | [], _, h, _, _ => by simp at h
  | k :: ks, hn, hy, hg, hk => by
    rw [List.nodup_cons] at hn
    rw [sumL, sumL]
    by_cases e : k = y
    · subst e
      rw [hg, sumL_eq ks (fun j hj => hk j (by simp [hj]) (fun q => hn.1 (q ▸ hj)))]; omega
    · have hy' : y ∈ ks := by
        rcases List.mem_cons.1 hy with q | q
        · exact absurd q.symm e
        · exact q
      rw [hk k (by simp) e, sumL_upd ks hn.2 hy' hg (fun j hj hne => hk j (by simp [hj]) hne)]; omega
theorem sumL_zero {f : Int → Int} : ∀ (ks : List Int), (∀ k ∈ ks, 0 ≤ f k) → 0 ≤ sumL f ks ∧ (sumL f ks ≤ 0 → ∀ k ∈ ks, f k ≤ 0)
  | [], _ => ⟨Int.le_refl _, fun _ k hk => by simp at hk⟩
  | k :: ks, h => by
    have h1 := h k (by simp)
    obtain ⟨h2, h3⟩ := sumL_zero ks (fun j hj => h j (by simp [hj]))
    rw [sumL]
    refine ⟨by omega, fun h4 j hj => ?_⟩
    rcases List.mem_cons.1 hj with rfl | hj
    · omega
    · exact h3 (by omega) j hj
/-- the pieces that block -/
theorem blkP_has {L : List Ta} {t j : Int} : ∀ (ps : List P2) (k m : Nat) (p : P2), ps[m]? = some p → 0 ≤ p.2 → aheadB L t (ceilG L p.2) = false → (j, ((k + m : Nat) : Int)) ∈ blkP L t j k ps
  | [], _, _, _, h, _, _ => by simp at h
  | q :: ps, k, 0, p, h, h1, h2 => by
    simp at h; subst h
    rw [blkP, if_pos ⟨h1, h2⟩]; simp
  | q :: ps, k, m + 1, p, h, h1, h2 => by
    have := blkP_has (j := j) ps (k + 1) m p (by simpa using h) h1 h2
    rw [show k + 1 + m = k + (m + 1) by omega] at this
    rw [blkP]
    split
    · exact List.mem_cons_of_mem _ this
    · exact this
theorem blkFrom_has {L : List Ta} {t : Int} {y : Nat} {b : P2} (ha : aheadB L t y = true) (hb : b ∈ blkP L t y 0 (taAt L y).pcs) : ∀ (f j : Nat), j ≤ y → y < j + f → b ∈ blkFrom L t f j
  | 0, j, h1, h2 => by omega
  | f + 1, j, h1, h2 => by
    rw [blkFrom, List.mem_append]
    by_cases e : j = y
    · subst e; left; rw [if_pos ha]; exact hb
    · exact .inr (blkFrom_has ha hb f (j + 1) (by omega) (by omega))
theorem foldmax_ge {L : List Ta} {b : P2} : ∀ (bs : List P2) (m : Int), m ≤ bs.foldl (fun m b => max m (ticksAt L b)) m ∧ (b ∈ bs → ticksAt L b ≤ bs.foldl (fun m b => max m (ticksAt L b)) m)
  | [], m => ⟨Int.le_refl _, fun h => by simp at h⟩
  | c :: bs, m => by
    obtain ⟨h1, h2⟩ := foldmax_ge (L := L) (b := b) bs (max m (ticksAt L c))
    simp only [List.foldl_cons]
    refine ⟨by omega, fun h => ?_⟩
    rcases List.mem_cons.1 h with rfl | h
    · omega
    · exact h2 h
theorem blockN_ge {L : List Ta} {t : Int} {y p : Nat} (hy : y < L.length) (hp : p < (taAt L y).pcs.length) (ha : Ahead L t y) (hl : 0 ≤ lkA L y p) (hc : ¬ Ahead L t (ceilG L (lkA L y p))) : tkA L y p ≤ blockN L t := by
  have e : (taAt L y).pcs[p]? = some ((taAt L y).pcs[p]) := List.getElem?_eq_getElem hp
  have e2 : pcA L y p = (taAt L y).pcs[p] := by unfold pcA; rw [e]; rfl
  have h1 : ((y : Int), ((0 + p : Nat) : Int)) ∈ blkP L t y 0 (taAt L y).pcs := blkP_has _ 0 p _ e (by rw [← e2]; exact hl) (by rw [← e2]; exact aheadB_no.2 hc)
  have h2 := blkFrom_has (aheadB_iff.2 ha) h1 L.length 0 (Nat.zero_le _) (by omega)
  have h3 := (foldmax_ge (L := L) (b := ((y : Int), ((0 + p : Nat) : Int))) (blkFrom L t L.length 0) 0).2 h2
  have e3 : ticksAt L ((y : Int), ((0 + p : Nat) : Int)) = tkA L y p := by
    unfold ticksAt tkA pcA; simp
  rw [e3] at h3
  exact h3
/-- a job of a task behind i that is within a piece that blocks i -/
structure IsBk (L : List Ta) (s : Ms) (i y : Nat) : Prop where
  lt : y < L.length
  bh : cnt L i < cnt L y
  ins : insB L s y = true
  to_ : cnt L (toI L s y) ≤ cnt L i
section
variable {R : Rn} {s s' : Ms} {i y : Nat}
theorem IsBk.ticks (h : IsBk R.L s i y) (hm : MOk R s) (hi : i < R.L.length) : tkA R.L y (s.ja y).p ≤ blockN R.L i := by
  obtain ⟨h0, h1⟩ := insB_iff.1 h.ins
  have ht := (hm.to_ h.lt).1
  have e : toI R.L s y = ceilG R.L (lkA R.L y (s.ja y).p) := by unfold toI; rw [h.ins]; rfl
  refine blockN_ge h.lt (hm.pc y h.lt) ((cnt_ahead (by omega) (by omega) (by omega) (by have := h.lt; omega)).1 h.bh) h1 (fun q => ?_)
  rw [← e] at q
  have := (cnt_ahead (by omega) (by omega) ht.1 ht.2).2 q
  have := h.to_
  omega
theorem IsBk.one {z : Nat} (h : IsBk R.L s i y) (k : IsBk R.L s i z) (hm : MOk R s) : y = z := by
  by_cases e : y = z
  · exact e
  · have h1 := h.to_; have h2 := k.to_; have h3 := h.bh; have h4 := k.bh
    rcases hm.ce y z h.lt k.lt e h.ins k.ins with q | q <;> omega
theorem IsBk.of (h : IsBk R.L s' i y) (e : s'.ja y = s.ja y) : IsBk R.L s i y := ⟨h.lt, h.bh, by rw [← insB_eq e]; exact h.ins, by rw [← toI_eq e]; exact h.to_⟩
theorem IsBk.of2 (h : IsBk R.L s' i y) (e1 : (s'.ja y).p = (s.ja y).p) (e2 : (s'.ja y).t = (s.ja y).t) : IsBk R.L s i y := by
  have e : insB R.L s' y = insB R.L s y := by unfold insB; rw [e1, e2]
  have e3 : toI R.L s' y = toI R.L s y := by unfold toI; rw [e, e1]
  exact ⟨h.lt, h.bh, by rw [← e]; exact h.ins, by rw [← e3]; exact h.to_⟩
/-- while somebody not behind i is there, who works behind i blocks it -/
theorem Chosen.blk (h : Chosen R s y) (hm : MOk R s) {x : Nat} (hx : x < R.L.length) (hq : s.qa x ≠ []) (hc : cnt R.L x ≤ cnt R.L i) (hy : cnt R.L i < cnt R.L y) : IsBk R.L s i y := by
  have hk := h.le x hx hq
  have hto := (hm.to_ hx).2
  unfold keyI at hk
  have ho : ownI R.L s x ≤ 1 := by unfold ownI; split <;> omega
  have h1 : cnt R.L (toI R.L s y) ≤ cnt R.L i := by omega
  refine ⟨h.lt, hy, ?_, h1⟩
  cases hc : insB R.L s y
  · rw [toI_no hc] at h1; omega
  · rfl
theorem wkA_other {t : Int} (hm : MOk R s) (hy : y < R.L.length) {k : Nat} (hk : k ≠ y) : (wkA R t y s).ja k = s.ja k ∧ (wkA R t y s).qa k = s.qa k := by
  have hl : y < s.j.length := by rw [hm.jl]; exact hy
  have hql : y < s.q.length := by rw [hm.ql]; exact hy
  rw [wkA_cases]
  have h1 : (wk1 R t y s).ja k = s.ja k := by unfold wk1; rw [ja_set hl, if_neg hk]
  split
  · rw [fin_ja (by unfold wk1; simpa using hl), if_neg hk, fin_qa (by unfold wk1; exact hql), if_neg hk]
    exact ⟨h1, rfl⟩
  · split
    · exact ⟨by unfold wk2; rw [ja_set hl, if_neg hk], rfl⟩
    · exact ⟨h1, rfl⟩
theorem wkA_self {t : Int} (hm : MOk R s) (hy : y < R.L.length) :
    ((jbN R.L y (s.ja y)).p = (taAt R.L y).pcs.length ∧ (wkA R t y s).ja y = Jb.zero ∧ (wkA R t y s).qa y = (s.qa y).tail) ∨
    ((jbN R.L y (s.ja y)).p < (taAt R.L y).pcs.length ∧ (wkA R t y s).qa y = s.qa y ∧ ((wkA R t y s).ja y).p = (jbN R.L y (s.ja y)).p ∧ ((wkA R t y s).ja y).t = (jbN R.L y (s.ja y)).t ∧ ((wkA R t y s).ja y).d = (s.ja y).d + 1 ∧ (((wkA R t y s).ja y).s = (s.ja y).s ∨ (((s.ja y).d + 1 : Nat) : Int) = (R.bu[y]?).getD 0)) := by
  have hl : y < s.j.length := by rw [hm.jl]; exact hy
  have hql : y < s.q.length := by rw [hm.ql]; exact hy
  have hle : (jbN R.L y (s.ja y)).p ≤ (taAt R.L y).pcs.length := by
    have hpi := hm.pc y hy
    unfold jbN; split <;> simp only [] <;> omega
  have hs : (jbN R.L y (s.ja y)).s = (s.ja y).s := by unfold jbN; split <;> rfl
  rw [wkA_cases]
  split
  · rename_i e
    left
    rw [fin_ja (by unfold wk1; simpa using hl), if_pos rfl, fin_qa (by unfold wk1; exact hql), if_pos rfl]
    exact ⟨e, rfl, rfl⟩
  · rename_i e
    right
    refine ⟨by omega, ?_⟩
    split
    · rename_i e2
      refine ⟨rfl, ?_⟩
      unfold wk2
      rw [ja_set hl, if_pos rfl]
      rw [jbN_d] at e2
      exact ⟨rfl, rfl, jbN_d _ _ _, .inr e2⟩
    · refine ⟨rfl, ?_⟩
      unfold wk1
      rw [ja_set hl, if_pos rfl]
      exact ⟨rfl, rfl, jbN_d _ _ _, .inl hs⟩
/-- the budget of blocking -/
structure BkOk (L : List Ta) (s : Ms) (i : Nat) (b : Int) : Prop where
  pos : 0 ≤ b
  le : ∀ y, IsBk L s i y → tkA L y (s.ja y).p - (s.ja y).t ≤ b
theorem BkOk.start (hm : MOk R s) (hr : RnOk R) (hi : i < R.L.length) : BkOk R.L s i (blockN R.L i) :=
  ⟨(blockN_bd hr.r i).1, fun y h => by have := h.ticks hm hi; omega⟩
theorem BkOk.of {b : Int} (h : BkOk R.L s i b) (e : ∀ y, y < R.L.length → ((s'.ja y).p = (s.ja y).p ∧ (s'.ja y).t = (s.ja y).t) ∨ s'.ja y = Jb.zero) : BkOk R.L s' i b :=
  ⟨h.pos, fun y hy => by
    rcases e y hy.lt with ⟨e1, e2⟩ | e1
    · have := h.le y (hy.of2 e1 e2)
      rw [e1, e2]; exact this
    · have := hy.ins
      rw [ins_zero e1] at this; cases this⟩
/-- a tick of work, not behind i -/
theorem BkOk.fore {b : Int} {t : Int} (h : BkOk R.L s i b) (hm : MOk R s) (hy : y < R.L.length) (hc : cnt R.L y ≤ cnt R.L i) : BkOk R.L (wkA R t y s) i b :=
  ⟨h.pos, fun z hz => by
    have hne : z ≠ y := fun e => by have := hz.bh; rw [e] at this; omega
    have e := (wkA_other (t := t) hm hy hne).1
    have := h.le z (hz.of e)
    rw [e]; exact this⟩
/-- a tick of work behind i -/
theorem BkOk.back {b : Int} {t : Int} (h : BkOk R.L s i b) (hm : MOk R s) (hb : IsBk R.L s i y) : BkOk R.L (wkA R t y s) i (b - 1) := by
  have hy := hb.lt
  have h1 := h.le y hb
  have h2 := hm.tk y hy
  refine ⟨by omega, fun z hz => ?_⟩
  by_cases e : z = y
  · subst e
    rcases wkA_self (t := t) hm hy with ⟨_, e1, _⟩ | ⟨_, _, e1, e2, _⟩
    · have := hz.ins
      rw [ins_zero e1] at this; cases this
    · rw [e1, e2]
      have h3 := (insB_iff.1 hz.ins).1
      rw [e2] at h3
      unfold jbN at h3 ⊢
      split
      · rename_i q
        rw [if_pos q] at h3
        exact absurd h3 (Nat.lt_irrefl 0)
      · show tkA R.L z (s.ja z).p - (((s.ja z).t + 1 : Nat) : Int) ≤ b - 1
        omega
  · have e1 := (wkA_other (t := t) hm hy e).1
    exact absurd ((hz.of e1).one hb hm) e
end
/-- arrivals leave what has been done, or end jobs -/
theorem arr_ja {R : Rn} (hr : RnOk R) {t : Int} {s : Ms} (hm : MOk R s) (k : Nat) : (((arrA R t s).ja k).p = (s.ja k).p ∧ ((arrA R t s).ja k).t = (s.ja k).t) ∨ (arrA R t s).ja k = Jb.zero := by
  have hsig : ∀ (gs : List P2) {s : Ms}, MOk R s → (∀ g ∈ gs, 0 ≤ g.2 ∧ g.2 < R.L.length) → ((sigA t gs s).ja k).p = (s.ja k).p ∧ ((sigA t gs s).ja k).t = (s.ja k).t := by
    intro gs
    induction gs with
    | nil => exact fun _ _ => ⟨rfl, rfl⟩
    | cons g gs ih =>
      intro s hm hg
      obtain ⟨h1, h2⟩ := ih (hm.sigS t (hg g (by simp))) (fun x hx => hg x (by simp [hx]))
      rw [sigA, h1, h2]
      unfold sigS; split
      · unfold sig1
        have := hg g (by simp)
        rw [ja_set (by rw [hm.jl]; omega)]
        split
        · rename_i e; subst e; exact ⟨rfl, rfl⟩
        · exact ⟨rfl, rfl⟩
      · exact ⟨rfl, rfl⟩
  have hend : ∀ (f i : Nat) {s : Ms}, MOk R s → i + f = R.L.length → (endA R.L t f i s).ja k = s.ja k ∨ (endA R.L t f i s).ja k = Jb.zero := by
    intro f
    induction f with
    | zero => exact fun i s _ _ => .inl rfl
    | succ f ih =>
      intro i s hm e
      rw [endA]
      rcases ih (i + 1) (hm.endS hr t (by omega : i < R.L.length)) (by omega) with h | h
      · rw [h]
        unfold endS; split
        · rw [fin_ja (by rw [hm.jl]; omega)]
          split
          · exact .inr rfl
          · exact .inl rfl
        · exact .inl rfl
      · exact .inr h
  unfold arrA
  rcases hend R.L.length 0 (MOk.sigA t R.sg (hm.relA hr t) hr.sg) (by omega) with h | h
  · left
    rw [h]
    obtain ⟨h1, h2⟩ := hsig R.sg (hm.relA hr t) hr.sg
    rw [h1, h2, relA_ja hr hm]
    exact ⟨rfl, rfl⟩
  · exact .inr h
end Go.Proofs.Ytmahagcghpoekaa
namespace Go.Proofs.Ytmahagcghpoekaa
open Go.RowKit
set_option linter.unusedSimpArgs false
set_option linter.unusedVariables false
/-- the task whose rank a piece has -/
def raisA (L : List Ta) (y p : Nat) : Int := if 0 ≤ lkA L y p then ceilG L (lkA L y p) else y
/-- task x is ahead of the work of piece p of task y -/
def AheadW (L : List Ta) (x y p : Nat) : Prop := x < L.length ∧ cnt L x < cnt L y ∧ cnt L x < cnt L (raisA L y p)
structure RkI (R : Rn) (s : Ms) : Prop where
  h : ∀ e ∈ s.o, e.w = 4 → ∀ y p : Nat, e.k = (y : Int) → e.a = (p : Int) → ∀ x k : Nat, AheadW R.L x y p → k < (evA R x).length → relT (evA R x) k ≤ e.m → 0 ≤ endF s.o x k ∧ endF s.o x k ≤ e.m
theorem RkI.of {R : Rn} {s s' : Ms} (h : RkI R s) {l : List En} (ho : s'.o = s.o ++ l) (h5 : ∀ e ∈ l, e.w ≠ 5 ∧ e.w ≠ 4) : RkI R s' := by
  have he : ∀ i x, endF s'.o i x = endF s.o i x := fun i x => by rw [ho]; exact endF_app _ _ _ _ (fun e q r => (h5 e q).1 r.1)
  refine ⟨fun e q w4 y p hy hp x k ha hk hr => ?_⟩
  rw [he]
  rw [ho, List.mem_append] at q
  rcases q with q | q
  · exact h.h e q w4 y p hy hp x k ha hk hr
  · exact absurd w4 (h5 e q).2
theorem RkI.fin {R : Rn} {T : Int} {s : Ms} {at_ : List Nat} (h : RkI R s) (hE : EI R T s at_) {i a : Nat} {how : Int} (hi : i < R.L.length) (ha : at_[i]? = some a) (hx : (ordE (evA R i))[a]? = some (s.hd i)) : RkI R (fin1 T i how s) := by
  have ho : (fin1 T i how s).o = s.o ++ [⟨T, i, 5, s.hd i, how⟩] := rfl
  refine ⟨fun e q w4 y p hy hp x k hA hk hr => ?_⟩
  rw [ho, List.mem_append] at q
  rcases q with q | q
  · have h0 := h.h e q w4 y p hy hp x k hA hk hr
    have e1 : endF (fin1 T i how s).o x k = endF s.o x k := by
      rw [ho, endF_one]
      unfold endG
      rw [if_neg]
      rintro ⟨_, h1, h2⟩
      simp only [] at h1 h2
      have : i = x := by omega
      subst this
      have := hE.new i a a _ ha hx (Nat.le_refl _)
      rw [h2] at this
      omega
    rw [e1]; exact h0
  · simp at q; subst q; simp at w4
theorem ahead_idle {R : Rn} {s : Ms} {y : Nat} (hm : MOk R s) (hch : Chosen R s y) {x : Nat} (hA : AheadW R.L x y (s.ja y).p) : s.qa x = [] := by
  obtain ⟨hx, h1, h2⟩ := hA
  by_cases hq : s.qa x = []
  · exact hq
  · exfalso
    have hk := hch.le x hx hq
    have hto := (hm.to_ hx).2
    unfold keyI at hk
    have ho : ownI R.L s x ≤ 1 := by unfold ownI; split <;> omega
    have hle : cnt R.L (toI R.L s y) ≤ cnt R.L x := by omega
    cases hc : insB R.L s y
    · rw [toI_no hc] at hle; omega
    · have hl := (insB_iff.1 hc).2
      have e : toI R.L s y = raisA R.L y (s.ja y).p := by
        unfold toI raisA
        rw [hc, if_pos hl]; rfl
      rw [e] at hle; omega
theorem idle_ends {R : Rn} {t T : Int} {s : Ms} {at_ : List Nat} (hq : QR R t s at_) (hE : EI R T s at_) {x k : Nat} (hx : x < R.L.length) (h0 : s.qa x = []) (hk : k < (evA R x).length) (hr : relT (evA R x) k ≤ t) : 0 ≤ endF s.o x k ∧ endF s.o x k ≤ T := by
  have hil : x < at_.length := by rw [hq.len]; exact hx
  have ha := List.getElem?_eq_getElem hil
  obtain ⟨j, hj⟩ := List.getElem?_of_mem (ordE_mem (l := evA R x).2 ⟨show (0 : Int) ≤ (k : Int) by omega, by omega⟩)
  obtain ⟨g1, g2⟩ := hq.q x _ ha
  rw [h0] at g1
  have h2 := congrArg List.length g1
  rw [List.length_drop] at h2
  simp only [List.length_nil] at h2
  have hlt := ((outE_facts (evA R x) t).2 j _ hj).1 hr
  exact hE.old x _ j _ ha hj (by omega)
theorem RkI.work {R : Rn} {t : Int} {s : Ms} {at_ : List Nat} {i a : Nat} (h : RkI R s) (hE : EI R t s at_) (hm : MOk R s) (hq : QR R t s at_) (hch : Chosen R s i) (ha : at_[i]? = some a) : RkI R (wk1 R t i s) := by
  have ho : (wk1 R t i s).o = s.o ++ [⟨t, i, 4, (s.ja i).p, s.hd i⟩] := rfl
  refine ⟨fun e q w4 y p hy hp x k hA hk hr => ?_⟩
  have e1 : endF (wk1 R t i s).o x k = endF s.o x k := by rw [ho]; exact endF_app _ _ _ _ (fun e q r => by simp at q; subst q; simp at r)
  rw [e1]
  rw [ho, List.mem_append] at q
  rcases q with q | q
  · exact h.h e q w4 y p hy hp x k hA hk hr
  · simp at q; subst q
    simp only [] at hy hp hr ⊢
    obtain rfl : i = y := by omega
    obtain rfl : (s.ja i).p = p := by omega
    exact idle_ends hq hE hA.1 (ahead_idle hm hch hA) hk hr
theorem rk_steps {R : Rn} (hr : RnOk R) : Steps R (fun t s at_ => EI R t s at_ ∧ RkI R s) (fun t s at_ => EI R (t + 1) s at_ ∧ RkI R s) := by
  have hE := ends_steps hr
  refine ⟨?_, ?_, ?_, ?_, ?_, ?_, ?_, ?_⟩
  · intro t s at_ hm hq hp
    obtain ⟨l, h1, h2⟩ := relA_newE t R.ev 0 s
    exact ⟨hE.rel t s at_ hm hq hp.1, hp.2.of h1 (fun e q => by rw [(h2 e q).2]; decide)⟩
  · intro t s at_ i hm hq hi hn hp
    exact ⟨hE.sig t s at_ i hm hq hi hn hp.1, hp.2.of (l := [⟨t, i, 2, 0, 0⟩]) rfl (fun e q => by simp at q; subst q; simp)⟩
  · intro t s at_ i a hm hq hi hn ha hs hin hp
    exact ⟨hE.fin t s at_ i a hm hq hi hn ha hs hin hp.1, hp.2.fin hp.1 hi ha (hq.event ha hn)⟩
  · intro t s at_ hm hq hs hg hp
    exact ⟨hE.gc t s at_ hm hq hs hg hp.1, hp.2.of (l := [⟨t, -1, 3, 0, 0⟩]) rfl (fun e q => by simp at q; subst q; simp)⟩
  · intro t s at_ hm hq hs hg hn hp
    exact ⟨hE.idle t s at_ hm hq hs hg hn hp.1, hp.2⟩
  · intro t s at_ i a hm hq hs hg hch ha hfin hp
    refine ⟨hE.w0 t s at_ i a hm hq hs hg hch ha hfin hp.1, ?_⟩
    have h1 := hp.1.work hm hq hch ha
    exact (hp.2.work hp.1 hm hq hch ha).fin (s := wk1 R t i s) h1 hch.lt ha (hq.event ha hch.rd)
  · intro t s at_ i a hm hq hs hg hch ha hpl hbu hp
    exact ⟨hE.w1 t s at_ i a hm hq hs hg hch ha hpl hbu hp.1, hp.2.work hp.1 hm hq hch ha⟩
  · intro t s at_ i a hm hq hs hg hch ha hpl hbu hp
    refine ⟨hE.w2 t s at_ i a hm hq hs hg hch ha hpl hbu hp.1, ?_⟩
    exact (hp.2.work hp.1 hm hq hch ha).of (s' := wk2 R t i s) (l := [⟨t + 1, i, 6, s.hd i, 0⟩]) rfl (fun e q => by simp at q; subst q; simp)
theorem plM_rk {R : Rn} (hr : RnOk R) (k : Nat) : RkI R (plM R k) := by
  obtain ⟨at_, _, h1, h2⟩ := (rk_steps hr).run hr ⟨EI.zero hr, ⟨fun e q => by simp [ms0] at q⟩⟩ k
  exact h2
/-- those ahead of both, as the law takes them from the ranks -/
theorem ranks_before {L : List Ta} {i : Nat} {x : Int} (hx : (rankL L)[i]? = some x) {y r : Int} (hy0 : 0 ≤ y ∧ y < L.length) (hr0 : 0 ≤ r ∧ r < L.length) (h : ∀ j, j ≤ i → (rankL L)[j]? ≠ some r ∧ (rankL L)[j]? ≠ some y) : cnt L x < cnt L y ∧ cnt L x < cnt L r := by
  have e := rank_cnt hx
  have ey := rank_at hy0.1 hy0.2
  have er := rank_at hr0.1 hr0.2
  constructor
  · rcases Nat.lt_or_ge (cnt L x) (cnt L y) with q | q
    · exact q
    · exact absurd ey (h _ (by omega)).2
  · rcases Nat.lt_or_ge (cnt L x) (cnt L r) with q | q
    · exact q
    · exact absurd er (h _ (by omega)).1
end Go.Proofs.Ytmahagcghpoekaa
