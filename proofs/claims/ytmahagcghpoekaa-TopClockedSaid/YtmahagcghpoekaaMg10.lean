/- The contract of runB, and of awake26B. The conditions: the tasks and the lists read as named; the tasks are valid. The contract of awake26B. No condition. When jobs are over in a run that nothing disturbs. No condition: plain lemmas. Responses in a run that nothing disturbs. No condition: plain lemmas. The contracts of demand of response (a closure) and of its reference. The conditions: the tasks read as named and are valid. The contracts of blocking and demand of the reference. The conditions: the tasks read as named and are valid. The contracts of window, response, meets, accepted, right of response and window, meets, accepted, ready of its reference. The conditions: the tasks read as named and are valid, the supply too. The contracts of response, meets, accepted, right of response and of meets, accepted, ready of its reference. The conditions: the tasks read as named; valid where named. The contracts of Accept, Window, Slice, Cost, Demand of response and of its reference. The conditions: the tasks read as named. The contracts of Cost, of both sides. The conditions: the tasks read as named. The contracts of Allowed of both sides. The conditions: the run reads as named. -/
import Derived.Test.YtmahagcghpoekaaMg9
import Derived.Test.YtmahagcghpoekaaMg7
import Derived.Deep.Cut
import Derived.Laws.StructEq
import Derived.Test.YtmahagcghpoekaaMg8
import Derived.Test.YtmahagcghpoekaaMg2
import Derived.Test.YtmahagcghpoekaaMg6
import Derived.Test.YtmahagcghpoekaaMg4
namespace Go.Proofs.Ytmahagcghpoekaa
open Go.RowKit
set_option linter.unusedSimpArgs false
set_option linter.unusedVariables false
theorem range_map_succ {α : Type} (f : Nat → α) (k : Nat) : (List.range (k + 1)).map f = (List.range k).map f ++ [f k] := by rw [List.range_succ, List.map_append]; rfl
set_option maxRecDepth 100000 in
set_option maxHeartbeats 8000000 in
theorem runB_any (a : Option Addr) (n c : Nat) (L : List Ta) (F S : Int) (la : Option Addr) (ln lc : Nat) (late : List (List P2)) (w : World) (hL : RdL w a n L) (hv : ValidT L) (hE : EvL w la ln late) :
    Calls Try.prog 9 #[.slice a n c, .agg #[.int .i64 F, .int .i64 S], .slice la ln lc] w fun e w' => ∃ H : RunH, e = .returned (runV H F S) ∧ H.tA = a ∧ H.tN = n ∧ H.tC = c ∧ ReadRun w' H (topR L F S late) ∧ Below w.heap.size w w' := by
  have hll := hL.length
  have hn5 := hv.r.len
  rw [hll] at hn5
  have hle := hE.evs.len
  have hles := hE.evs.sm
  have HL := Lib.hid hL; have HVT := Lib.hid hv; have HE := Lib.hid hE.evs; have HLL := Lib.hid hll; have HLE := Lib.hid hle
  have eEv := EEv
  have e1 := E1
  clear hL hv hE hll hle
  go_enter Try.func9, Try.ntmps9
  go_upto_region 2 with fail
  obtain ⟨w3, hw3⟩ : ∃ x, x = (((w.alloc (.cells #[.int .i64 F, .int .i64 S] 24)).alloc (.cells #[.slice none 0 0, .int .i64 0, .int .i64 0, .slice none 0 0, .slice none 0 0, .slice none 0 0] 32)).alloc (.cells #[.slice a n c, .int .i64 F, .int .i64 S, .slice none 0 0, .slice none 0 0, .slice none 0 0] 32)) := ⟨_, rfl⟩
  rw [← hw3]
  have hb3 : Below w.heap.size w w3 := by rw [hw3]; (repeat' (first | (with_reducible exact Below.refl _ _) | (with_reducible assumption) | (with_reducible refine Below.alloc ?_ ?_ _) | (with_reducible refine Below.drew ?_) | (with_reducible refine Below.draws ?_ _) | (with_reducible refine Below.setCell ?_ ?_ _) | (refine Below.then ?_ (by with_reducible assumption)) | go_size))
  have hq3 : Blk w3 (w.heap.size + 2) #[.slice a n c, .int .i64 F, .int .i64 S, .slice none 0 0, .slice none 0 0, .slice none 0 0] := by rw [hw3]; exact Blk.at _ _ _ _ (by simp)
  have hr3 : ResB w3 (w.heap.size + 1) := by rw [hw3]; exact (Blk.at _ _ _ _ (by simp)).old _
  have hz3 : w.heap.size + 3 = w3.heap.size := by rw [hw3]; simp
  have HM0 : Hid (RunM w w3 (w.heap.size + 2) (w.heap.size + 3) a n c F S 0 [] none 0 none 0) := Lib.hid ⟨hq3.c 0, hq3.c 1, hq3.c 2, hq3.c 3, hq3.c 4, hq3.c 5, hq3.f, World.ownsRow_nil _ _ _ _, by simp, World.ownsRow_nil _ _ _ _, by omega, hb3⟩
  have HR0 := Lib.hid hr3
  clear hw3 hb3 hq3 hr3 hz3
  go_wp2
  go_loopw [8] (fun v wr => ∃ (k : Nat) (g : List EvV) (ea : Option Addr) (ec : Nat) (ba : Option Addr) (bc : Nat), k ≤ n ∧ v = .int .i64 k ∧ RunM w wr (w.heap.size + 2) (w.heap.size + 3) a n c F S k g ea ec ba bc ∧ g.map EvV.es = (List.range k).map (tev L late) ∧ ResB wr (w.heap.size + 1)) (fun v _ => n - (intOf v).toNat)
  case atStart => exact ⟨0, [], none, 0, none, 0, Nat.zero_le _, rfl, HM0.out, rfl, HR0.out⟩
  case round =>
    clear HM0 HR0
    obtain ⟨k, g, ea, ec, ba, bc, hk, rfl, hM, hg, hR⟩ := hrel
    have HM := Lib.hid hM; have HGM := Lib.hid hg; have HRS := Lib.hid hR
    by_cases hkn : k < n
    · obtain ⟨t, b, off, pa, pn, pc, rfl, hb, _, _, t2, t3, t4, _, _, _, htk, _⟩ := (HL.out.ext hM.lb).at_ k hkn
      have hta : taAt L k = t := taAt_of htk
      have htm := List.mem_of_getElem? htk
      have v1 := HVT.out.first t htm
      have v2 := HVT.out.gap t htm
      have v3 := HVT.out.jit t htm
      have hz := hM.sz
      by_cases hkl : k < ln
      · obtain ⟨lb, loff, ra, rn, rc, rfl, hlb, hlc, hRd⟩ := (HE.out.ext hM.lb).at_ k hkl
        have hes : evs t.gap t.jit 12 t.first (evAt late k) = tev L late k := by unfold tev; rw [if_pos (by rw [HLE.out]; exact hkl), hta]
        obtain ⟨es, hes2⟩ : ∃ es, tev L late k = es := ⟨_, rfl⟩
        rw [hes2] at hes
        have HES := Lib.hid hes2
        have HEV : Hid (∀ wz, Below wr.heap.size wr wz → Calls Try.prog 31 #[.agg #[.int .i64 t.first, .int .i64 t.gap, .int .i64 t.jit], .slice ra rn rc] wz fun e w' => ∃ a' n' c', e = .returned (.slice a' n' c') ∧ w'.ownsRow wz.heap.size 26 2 (.slice a' n' c') n' (es.flatMap enc2) ∧ Below wz.heap.size wz w') := Lib.hid (fun wz hz => by
          have := eventsB_any t.first t.gap t.jit (by omega) (by omega) (by omega) ra rn rc (evAt late k) wz (hRd.ext hz)
          rw [hes] at this; exact this)
        have hbz := World.block_lt_of_cell? _ _ t2
        simp only [] at hbz
        have M3 := hM.c3; have M4 := hM.c4; have F3 := hM.f 3; have F4 := hM.f 4
        have HC := Lib.hid (And.intro M3 (And.intro M4 (And.intro F3 F4)))
        have HT := Lib.hid (And.intro t2 (And.intro t3 (And.intro t4 hlc)))
        clear hM hg hR hRd htk hta htm hes hes2 M3 M4 F3 F4
        go_upto_region 7 with fail
        go_region_held3 (fun w' => w'.cell? ⟨b, off + k * 6 + 2, none⟩ = some (.int .i64 t.first) ∧ w'.cell? ⟨b, off + k * 6 + 3, none⟩ = some (.int .i64 t.gap) ∧ w'.cell? ⟨b, off + k * 6 + 4, none⟩ = some (.int .i64 t.jit) ∧ w'.cell? ⟨lb, loff + k, none⟩ = some (.slice ra rn rc)) (first | go_keep)
          (first
            | (go_at_call 31; (with_reducible refine (HEV.out _ (by (repeat' (first | (with_reducible exact Below.refl _ _) | (with_reducible assumption) | (with_reducible refine Below.alloc ?_ ?_ _) | (with_reducible refine Below.drew ?_) | (with_reducible refine Below.draws ?_ _) | (with_reducible refine Below.setCell ?_ ?_ _) | (refine Below.then ?_ (by with_reducible assumption)) | go_size)))).mono ?_); rintro e wx ⟨va, vn, vc, rfl, hown, hbx0⟩; have hbx : Below wr.heap.size wr wx := Below.then (show Below wr.heap.size wr _ by (repeat' (first | (with_reducible exact Below.refl _ _) | (with_reducible assumption) | (with_reducible refine Below.alloc ?_ ?_ _) | (with_reducible refine Below.drew ?_) | (with_reducible refine Below.draws ?_ _) | (with_reducible refine Below.setCell ?_ ?_ _) | (refine Below.then ?_ (by with_reducible assumption)) | go_size))) hbx0; have HWX := Lib.hid hbx; have HV := Lib.hid (owns_mono hown (show w.heap.size + 3 ≤ _ by simp; omega)); have r1 := (hbx.cell (p := ⟨b, off + k * 6 + 2, none⟩) hb).trans HT.out.1; have r2 := (hbx.cell (p := ⟨b, off + k * 6 + 3, none⟩) hb).trans HT.out.2.1; have r3 := (hbx.cell (p := ⟨b, off + k * 6 + 4, none⟩) hb).trans HT.out.2.2.1; have r4 := (hbx.cell (p := ⟨lb, loff + k, none⟩) hlb).trans HT.out.2.2.2; clear hown hbx0 hbx))
        have hzq : w.heap.size + 2 < wr.heap.size := by omega
        have x3 := (HWX.out.cell (p := ⟨w.heap.size + 2, 3, none⟩) hzq).trans HC.out.1
        have x4 := (HWX.out.cell (p := ⟨w.heap.size + 2, 4, none⟩) hzq).trans HC.out.2.1
        have xf3 := (HWX.out.frozen (p := ⟨w.heap.size + 2, 3, none⟩) hzq).trans HC.out.2.2.1
        have xf4 := (HWX.out.frozen (p := ⟨w.heap.size + 2, 4, none⟩) hzq).trans HC.out.2.2.2
        have HEX := Lib.hid (owns_ext HM.out.ev HWX.out)
        have HBX := Lib.hid (owns_ext HM.out.bu HWX.out)
        have hzx := HWX.out.size
        clear r1 r2 r3 r4 t2 t3 t4 hlc
        go_wp2_with (first | (at_builtin; refine wpList_pushM (N := W2.heap.size) (B := w.heap.size + 3) (v := .slice ba k bc) (xs := (List.replicate k (0 : Int)).flatMap enc1) (by simp) rfl _ _ _ rfl e1 rfl HBU2.out rfl rfl (by intro u hu; simp at hu; rcases hu with rfl; rfl) (by omega) (by decide) (by simp; omega) ?_; intro ba' bc' W3 hown3 hg3; have hb3 : Below (w.heap.size + 3) (W2.setCell ⟨w.heap.size + 2, 3, none⟩ (.slice ea' (k + 1) ec')) W3 := ((Below.refl (w.heap.size + 3) _).alloc (by simp; omega) _).trans (grown_below (HBU2.out.alloc _) hg3 (by rw [World.size_alloc]; simp; omega)); have hz3 := hb3.size; have v4 := (hb3.cell (p := ⟨w.heap.size + 2, 4, none⟩) (by simp)).trans ((World.cell?_setCell_other W2 ⟨w.heap.size + 2, 3, none⟩ ⟨w.heap.size + 2, 4, none⟩ (.slice ea' (k + 1) ec') (addr_neS (.inr (by decide)))).trans y4); have vf4 := (hb3.frozen (p := ⟨w.heap.size + 2, 4, none⟩) (by simp)).trans ((World.frozen?_setCell W2 ⟨w.heap.size + 2, 3, none⟩ ⟨w.heap.size + 2, 4, none⟩ _).trans yf4); have vz : w.heap.size + 2 < W3.heap.size := (by simp at hz3; omega); have HO3 := Lib.hid hown3; have HG3 := Lib.hid hg3; clear hown3 hg3 hb3) | (at_builtin; refine wpList_pushM (N := wx.heap.size) (B := w.heap.size + 3) (v := .slice ea k ec) (xs := g.flatMap encV) (by simp) rfl _ _ _ rfl eEv rfl HEX.out rfl rfl (by intro u hu; simp at hu; rcases hu with rfl; rfl) (by omega) (by decide) (by omega) ?_; intro ea' ec' W2 hown2 hg2; have hb2 : Below (w.heap.size + 3) wx W2 := ((Below.refl (w.heap.size + 3) wx).alloc (by omega) _).trans (grown_below (HEX.out.alloc _) hg2 (by rw [World.size_alloc]; omega)); have hz2 := hb2.size; have y3 := (hb2.cell (p := ⟨w.heap.size + 2, 3, none⟩) (by simp)).trans x3; have y4 := (hb2.cell (p := ⟨w.heap.size + 2, 4, none⟩) (by simp)).trans x4; have yf3 := (hb2.frozen (p := ⟨w.heap.size + 2, 3, none⟩) (by simp)).trans xf3; have yf4 := (hb2.frozen (p := ⟨w.heap.size + 2, 4, none⟩) (by simp)).trans xf4; have yz : w.heap.size + 2 < W2.heap.size := (by omega); have HO2 := Lib.hid hown2; have HG2 := Lib.hid hg2; have HBU2 := Lib.hid (owns_far (owns_kept (HBX.out.alloc _) (HEX.out.alloc _) (by decide) hg2) (show w.heap.size + 2 < w.heap.size + 3 by omega) (j := 3) (.slice ea' (k + 1) ec')); clear hown2 hg2 hb2)); go_roundw; (case rel => exact ⟨k + 1, g ++ [⟨va, vn, vc, es⟩], ea', ec', ba', bc', hkn, by go_num, HM.out.push (by omega) (by omega) HWX.out HV.out HO2.out HG2.out HO3.out HG3.out, by rw [List.map_append, range_map_succ, HGM.out, ← HES.out]; rfl, HRS.out.push (by omega) HM.out.sz (by omega) HWX.out HEX.out HG2.out HBU2.out HG3.out⟩); (case measure => (simp [intOf]; omega))
      · have hes2 : tev L late k = [] := by unfold tev; rw [if_neg (by rw [HLE.out]; exact hkl)]
        have HES : Hid (tev L late k = []) := Lib.hid hes2
        obtain ⟨wx, hwx⟩ : ∃ wx : World, wx = wr := ⟨_, rfl⟩
        have HWX : Hid (Below wr.heap.size wr wx) := Lib.hid (by rw [hwx]; exact Below.refl _ _)
        have HV : Hid (wx.ownsRow (w.heap.size + 3) 26 2 (.slice none 0 0) 0 (([] : List P2).flatMap enc2)) := Lib.hid (World.ownsRow_nil _ _ _ _)
        have x3 := hM.c3; have x4 := hM.c4; have xf3 := hM.f 3; have xf4 := hM.f 4
        have HEX := Lib.hid (owns_ext HM.out.ev HWX.out)
        have HBX := Lib.hid (owns_ext HM.out.bu HWX.out)
        have hzx := HWX.out.size
        rw [← hwx] at x3 x4 xf3 xf4 ⊢
        clear hM hg hR htk hta htm hes2 t2 t3 t4 hb hwx
        have kl1 : decide (k < ln) = false := by simpa using hkl
        go_wp2_with (first | (at_builtin; refine wpList_pushM (N := W2.heap.size) (B := w.heap.size + 3) (v := .slice ba k bc) (xs := (List.replicate k (0 : Int)).flatMap enc1) (by simp) rfl _ _ _ rfl e1 rfl HBU2.out rfl rfl (by intro u hu; simp at hu; rcases hu with rfl; rfl) (by omega) (by decide) (by simp; omega) ?_; intro ba' bc' W3 hown3 hg3; have hb3 : Below (w.heap.size + 3) (W2.setCell ⟨w.heap.size + 2, 3, none⟩ (.slice ea' (k + 1) ec')) W3 := ((Below.refl (w.heap.size + 3) _).alloc (by simp; omega) _).trans (grown_below (HBU2.out.alloc _) hg3 (by rw [World.size_alloc]; simp; omega)); have hz3 := hb3.size; have v4 := (hb3.cell (p := ⟨w.heap.size + 2, 4, none⟩) (by simp)).trans ((World.cell?_setCell_other W2 ⟨w.heap.size + 2, 3, none⟩ ⟨w.heap.size + 2, 4, none⟩ (.slice ea' (k + 1) ec') (addr_neS (.inr (by decide)))).trans y4); have vf4 := (hb3.frozen (p := ⟨w.heap.size + 2, 4, none⟩) (by simp)).trans ((World.frozen?_setCell W2 ⟨w.heap.size + 2, 3, none⟩ ⟨w.heap.size + 2, 4, none⟩ _).trans yf4); have vz : w.heap.size + 2 < W3.heap.size := (by simp at hz3; omega); have HO3 := Lib.hid hown3; have HG3 := Lib.hid hg3; clear hown3 hg3 hb3) | (at_builtin; refine wpList_pushM (N := wx.heap.size) (B := w.heap.size + 3) (v := .slice ea k ec) (xs := g.flatMap encV) (by simp) rfl _ _ _ rfl eEv rfl HEX.out rfl rfl (by intro u hu; simp at hu; rcases hu with rfl; rfl) (by omega) (by decide) (by omega) ?_; intro ea' ec' W2 hown2 hg2; have hb2 : Below (w.heap.size + 3) wx W2 := ((Below.refl (w.heap.size + 3) wx).alloc (by omega) _).trans (grown_below (HEX.out.alloc _) hg2 (by rw [World.size_alloc]; omega)); have hz2 := hb2.size; have y3 := (hb2.cell (p := ⟨w.heap.size + 2, 3, none⟩) (by simp)).trans x3; have y4 := (hb2.cell (p := ⟨w.heap.size + 2, 4, none⟩) (by simp)).trans x4; have yf3 := (hb2.frozen (p := ⟨w.heap.size + 2, 3, none⟩) (by simp)).trans xf3; have yf4 := (hb2.frozen (p := ⟨w.heap.size + 2, 4, none⟩) (by simp)).trans xf4; have yz : w.heap.size + 2 < W2.heap.size := (by omega); have HO2 := Lib.hid hown2; have HG2 := Lib.hid hg2; have HBU2 := Lib.hid (owns_far (owns_kept (HBX.out.alloc _) (HEX.out.alloc _) (by decide) hg2) (show w.heap.size + 2 < w.heap.size + 3 by omega) (j := 3) (.slice ea' (k + 1) ec')); clear hown2 hg2 hb2)); go_roundw; (case rel => exact ⟨k + 1, g ++ [⟨none, 0, 0, []⟩], ea', ec', ba', bc', hkn, by go_num, HM.out.push (by omega) (by omega) HWX.out HV.out HO2.out HG2.out HO3.out HG3.out, by rw [List.map_append, range_map_succ, HGM.out, ← HES.out]; rfl, HRS.out.push (by omega) HM.out.sz (by omega) HWX.out HEX.out HG2.out HBU2.out HG3.out⟩); (case measure => (simp [intOf]; omega))
    · have hkn2 : k = n := by omega
      subst hkn2
      have c0 := hM.c0; have c1 := hM.c1; have c2 := hM.c2; have c3 := hM.c3; have c4 := hM.c4; have c5 := hM.c5
      have r0 := hR.c 0; have r1 := hR.c 1; have r2 := hR.c 2; have r3 := hR.c 3; have r4 := hR.c 4; have r5 := hR.c 5
      simp at r0 r1 r2 r3 r4 r5
      have f0 := hR.f 0; have f1 := hR.f 1; have f2 := hR.f 2; have f3 := hR.f 3; have f4 := hR.f 4; have f5 := hR.f 5
      have hz := hM.sz
      have hzZ : w.heap.size + 1 < wr.heap.size := by omega
      have hzQ : w.heap.size + 2 < wr.heap.size := by omega
      clear hM hg hR
      go_wp2
      obtain ⟨W6, hW6⟩ : ∃ x, x = ((((((wr.setCell ⟨w.heap.size + 1, 0, none⟩ (.slice a k c)).setCell ⟨w.heap.size + 1, 1, none⟩ (.int .i64 F)).setCell ⟨w.heap.size + 1, 2, none⟩ (.int .i64 S)).setCell ⟨w.heap.size + 1, 3, none⟩ (.slice ea k ec)).setCell ⟨w.heap.size + 1, 4, none⟩ (.slice ba k bc)).setCell ⟨w.heap.size + 1, 5, none⟩ (.slice none 0 0)) := ⟨_, rfl⟩
      have x0 : W6.cell? ⟨w.heap.size + 1, 0, none⟩ = some (.slice a k c) := by rw [hW6]; simp [go_sem, r0]
      have x1 : W6.cell? ⟨w.heap.size + 1, 1, none⟩ = some (.int .i64 F) := by rw [hW6]; simp [go_sem, r1]
      have x2 : W6.cell? ⟨w.heap.size + 1, 2, none⟩ = some (.int .i64 S) := by rw [hW6]; simp [go_sem, r2]
      have x3 : W6.cell? ⟨w.heap.size + 1, 3, none⟩ = some (.slice ea k ec) := by rw [hW6]; simp [go_sem, r3]
      have x4 : W6.cell? ⟨w.heap.size + 1, 4, none⟩ = some (.slice ba k bc) := by rw [hW6]; simp [go_sem, r4]
      have x5 : W6.cell? ⟨w.heap.size + 1, 5, none⟩ = some (.slice none 0 0) := by rw [hW6]; simp [go_sem, r5]
      have far : ∀ {e q m : Nat} {v : Value} {xs : List Value}, wr.ownsRow (w.heap.size + 3) e q v m xs → W6.ownsRow (w.heap.size + 3) e q v m xs := fun h => by
        rw [hW6]
        exact owns_far (owns_far (owns_far (owns_far (owns_far (owns_far h (by omega) _) (by omega) _) (by omega) _) (by omega) _) (by omega) _) (by omega) _
      have hb6 : Below w.heap.size w W6 := by
        rw [hW6]
        exact (((((HM.out.lb.setCell (p := ⟨w.heap.size + 1, 0, none⟩) (by simp) _).setCell (p := ⟨w.heap.size + 1, 1, none⟩) (by simp) _).setCell (p := ⟨w.heap.size + 1, 2, none⟩) (by simp) _).setCell (p := ⟨w.heap.size + 1, 3, none⟩) (by simp) _).setCell (p := ⟨w.heap.size + 1, 4, none⟩) (by simp) _).setCell (p := ⟨w.heap.size + 1, 5, none⟩) (by simp) _
      have hEV := far HM.out.ev
      have hRO : ∀ v ∈ g, W6.ownsRow (w.heap.size + 3) 26 2 (.slice v.a v.n v.c) v.n (v.es.flatMap enc2) := fun v hv => far (HM.out.rows v hv)
      have hBU := far HM.out.bu
      rw [← hW6]
      clear hW6 far
      refine bodyPost_ret (by simp [results, Try.results9, go_sem, x0, x1, x2, x3, x4, x5]; rfl) rfl ?_
      refine ⟨⟨a, k, c, ea, k, ec, ba, k, bc, none, 0, 0⟩, rfl, rfl, rfl, rfl, ⟨HL.out.ext hb6, ⟨g, Rd.of_owns encV_len (by decide) hEV, fun v hv => Rd.of_owns enc2_len (by decide) (hRO v hv), ?_⟩, ?_, Rd.nil _ _ _⟩, hb6⟩
      · show g.map EvV.es = topEv L late
        unfold topEv
        rw [HGM.out, HLL.out]
      · show Rd W6 ba k 1 ((List.replicate L.length (0 : Int)).map enc1)
        rw [HLL.out]
        exact ownsI_rd hBU
end Go.Proofs.Ytmahagcghpoekaa
namespace Go.Proofs.Ytmahagcghpoekaa
open Go.RowKit
set_option linter.unusedSimpArgs false
set_option linter.unusedVariables false
def awR : Rn := ⟨[⟨0, 10, 0, 10, 0, [(2, -1)]⟩], 4, 1, [[(0, 0)]], [0], []⟩
set_option maxRecDepth 100000 in
theorem aw_sim : simR awR 3 = (saneE, 0) := by decide
def awW (w : World) : World := ((((((w.alloc (.cells #[.int .i64 2, .int .i64 (-1)] 79)).alloc (.cells #[.int .i64 0, .int .i64 10, .int .i64 0, .int .i64 10, .int .i64 0, .slice (some ⟨w.heap.size, 0, none⟩) 1 1] 72)).alloc (.cells #[.int .i64 0, .int .i64 10, .int .i64 0, .int .i64 10, .int .i64 0, .slice (some ⟨w.heap.size, 0, none⟩) 1 1] 72)).alloc (.cells #[.int .i64 0, .int .i64 0] 26)).alloc (.cells #[.slice (some ⟨w.heap.size + 3, 0, none⟩) 1 1] 30)).alloc (.cells #[.int .i64 0] 3))
def awH (w : World) : RunH := ⟨some ⟨w.heap.size + 2, 0, none⟩, 1, 1, some ⟨w.heap.size + 4, 0, none⟩, 1, 1, some ⟨w.heap.size + 5, 0, none⟩, 1, 1, none, 0, 0⟩
theorem awW_rd (w : World) : ReadRun (awW w) (awH w) awR := by
  have hz : w.heap.size + 6 = (awW w).heap.size := by simp [awW]
  refine ⟨⟨[⟨0, 10, 0, 10, 0, some ⟨w.heap.size, 0, none⟩, 1, 1, [(2, -1)]⟩], ⟨rd_one _ rfl (by omega) (fun j hj => ?_), fun t ht => ?_⟩, rfl⟩, ⟨[⟨some ⟨w.heap.size + 3, 0, none⟩, 1, 1, [(0, 0)]⟩], rd_one _ rfl (by omega) (fun j hj => ?_), fun v hv => ?_, rfl⟩, rd_one _ rfl (by omega) (fun j hj => ?_), Rd.nil _ _ _⟩
  · match j, hj with
    | 0, _ => simp [awW, encTa, go_sem]
    | 1, _ => simp [awW, encTa, go_sem]
    | 2, _ => simp [awW, encTa, go_sem]
    | 3, _ => simp [awW, encTa, go_sem]
    | 4, _ => simp [awW, encTa, go_sem]
    | 5, _ => simp [awW, encTa, go_sem]
  · simp at ht
    subst ht
    refine ⟨rd_one _ rfl (by omega) (fun j hj => ?_), fun h => by simp at h⟩
    match j, hj with
    | 0, _ => simp [awW, enc2, go_sem]
    | 1, _ => simp [awW, enc2, go_sem]
  · match j, hj with
    | 0, _ => simp [awW, encV, go_sem]
  · simp at hv
    subst hv
    refine rd_one _ rfl (by first | omega | (simp only []; omega)) (fun j hj => ?_)
    match j, hj with
    | 0, _ => simp [awW, enc2, go_sem]
    | 1, _ => simp [awW, enc2, go_sem]
  · match j, hj with
    | 0, _ => simp [awW, enc1, go_sem]
theorem aw_cells {w : World} {B : Nat} {a : Option Addr} {n c : Nat} (h : w.ownsRow B 43 5 (.slice a n c) n (saneE.flatMap encE)) : ∃ g, a = some ⟨g, 0, none⟩ ∧ n = 5 ∧
    w.cell? ⟨g, 0, none⟩ = some (.int .i64 0) ∧ w.cell? ⟨g, 1, none⟩ = some (.int .i64 0) ∧ w.cell? ⟨g, 2, none⟩ = some (.int .i64 1) ∧ w.cell? ⟨g, 3, none⟩ = some (.int .i64 0) ∧ w.cell? ⟨g, 4, none⟩ = some (.int .i64 0) ∧
    w.cell? ⟨g, 20, none⟩ = some (.int .i64 3) ∧ w.cell? ⟨g, 21, none⟩ = some (.int .i64 0) ∧ w.cell? ⟨g, 22, none⟩ = some (.int .i64 5) ∧ w.cell? ⟨g, 23, none⟩ = some (.int .i64 0) ∧ w.cell? ⟨g, 24, none⟩ = some (.int .i64 0) := by
  have hn : n = 5 := by have := (Rd.of_owns encE_len (by decide) h).length; simpa [saneE] using this.symm
  subst hn
  rcases h.2 with ⟨_, h8⟩ | ⟨g, cap, cur, hv, _⟩
  · omega
  · simp at hv
    obtain ⟨rfl, _⟩ := hv
    refine ⟨g, rfl, rfl, ?_, ?_, ?_, ?_, ?_, ?_, ?_, ?_, ?_, ?_⟩ <;> (rw [h.cellAt _ (by decide)]; rfl)
theorem eqEn (a b c d f : Int) (w : World) : (Op.equalIn 10000 43 (.agg #[.int .i64 a, .int .i64 b, .int .i64 c, .int .i64 d, .int .i64 f]) (.agg #[.int .i64 a, .int .i64 b, .int .i64 c, .int .i64 d, .int .i64 f])).run Try.prog w = .ok true w := by
  have hS : Try.prog.underlying 43 = some (.struct (Try.prog.fieldsOf 43)) := by kernel_rfl
  have hp : Try.prog.stoodInHeld 43 = false := by kernel_rfl
  have u3 := Try.underlying3
  have a3 := Try.isAgg3
  have z3 := Try.sizeOf3
  rw [show (10000 : Nat) = 9999 + 1 from rfl, run_equalIn_agg w 9999 43 _ _ hS hp]
  simp only [Program.fieldsOf, Try.underlying43]
  go_simp
set_option maxRecDepth 100000 in
set_option maxHeartbeats 4000000 in
theorem awake_any (w : World) : Calls Try.prog 8 #[] w fun e w' => e = .returned (.bool true) ∧ Below w.heap.size w w' := by
  have hW := awW_rd w
  have hBW : Below w.heap.size w (awW w) := by unfold awW; (repeat' (first | (with_reducible exact Below.refl _ _) | (with_reducible assumption) | (with_reducible refine Below.alloc ?_ ?_ _) | (with_reducible refine Below.drew ?_) | (with_reducible refine Below.draws ?_ _) | (with_reducible refine Below.setCell ?_ ?_ _) | (refine Below.then ?_ (by with_reducible assumption)) | go_size))
  have hS := Sim_is hW aw_sim
  have hq := eqEn 0 0 1 0 0
  have hq2 := eqEn 3 0 5 0 0
  obtain ⟨W6, hW6⟩ : ∃ x, x = awW w := ⟨_, rfl⟩
  rw [← hW6] at hS hBW
  unfold runV awH at hS
  simp only [awR] at hS
  have hW6' := hW6
  unfold awW at hW6'
  have HS := Lib.hid hS; have HB := Lib.hid hBW
  clear hW hS hBW
  go_enter Try.func8, Try.ntmps8
  go_wp2_with (go_at_call 10; rw [← hW6']; (with_reducible refine HS.out.mono ?_); rintro e w1 ⟨a1, n1, c1, rfl, h1, hb1⟩; obtain ⟨g, rfl, rfl, k0, k1, k2, k3, k4, k20, k21, k22, k23, k24⟩ := aw_cells h1; have B1 := Lib.hid (Below.then HB.out hb1); clear h1 hb1)
  go_ret
  exact ⟨rfl, B1.out⟩
end Go.Proofs.Ytmahagcghpoekaa
namespace Go.Proofs.Ytmahagcghpoekaa
open Go.RowKit
set_option linter.unusedSimpArgs false
set_option linter.unusedVariables false
/-- events as far apart as the pattern says -/
def sparse (g j : Int) : Int → List P2 → Bool
  | _, [] => true
  | least, x :: xs => if x.1 < least ∨ j < x.2 then false else sparse g j (x.1 + g) xs
def cN (from_ til : Int) : List P2 → Int
  | [] => 0
  | x :: xs => (if from_ ≤ x.1 + x.2 ∧ x.1 + x.2 < til then 1 else 0) + cN from_ til xs
theorem cN_nonneg (from_ til : Int) : ∀ xs : List P2, 0 ≤ cN from_ til xs
  | [] => by simp [cN]
  | x :: xs => by have := cN_nonneg from_ til xs; rw [cN]; split <;> omega
theorem cN_bound {g j from_ til : Int} (hg : 1 ≤ g) : ∀ (xs : List P2) (l : Int), (∀ e ∈ xs, 0 ≤ e.2) → sparse g j l xs = true → 1 ≤ cN from_ til xs →
    l + (cN from_ til xs - 1) * g ≤ til - 1 ∧ from_ - j + (cN from_ til xs - 1) * g ≤ til - 1
  | [], _, _, _, h => by simp [cN] at h
  | x :: xs, l, hf, ha, h => by
    have b3 := hf x (by simp)
    unfold sparse at ha
    split at ha
    · simp at ha
    · rename_i h1
      have ih := cN_bound (from_ := from_) (til := til) hg xs (x.1 + g) (fun e he => hf e (by simp [he])) ha
      have hn := cN_nonneg from_ til xs
      rw [cN] at h ⊢
      by_cases hc : from_ ≤ x.1 + x.2 ∧ x.1 + x.2 < til
      · rw [if_pos hc] at h ⊢
        by_cases h0 : cN from_ til xs = 0
        · rw [h0]; constructor <;> simp <;> omega
        · have := ih (by omega)
          have e : (1 + cN from_ til xs - 1) * g = g + (cN from_ til xs - 1) * g := by
            rw [Int.sub_mul, Int.sub_mul, Int.add_mul]; omega
          rw [e]; omega
      · rw [if_neg hc] at h ⊢
        have := ih (by omega)
        simp only [Int.zero_add]
        omega
theorem cN_most {g j from_ win : Int} (hg : 1 ≤ g) (hj : 0 ≤ j) (hw : 0 ≤ win) (xs : List P2) (l : Int) (hf : ∀ e ∈ xs, 0 ≤ e.2) (ha : sparse g j l xs = true) : cN from_ (from_ + win) xs ≤ mostN g j win := by
  have hn := cN_nonneg from_ (from_ + win) xs
  by_cases h0 : cN from_ (from_ + win) xs = 0
  · rw [h0]; unfold mostN; split
    · omega
    · have := Int.ediv_nonneg (show 0 ≤ win - 1 + j by omega) (show 0 ≤ g by omega); omega
  · have hb := cN_bound hg xs l hf ha (show 1 ≤ cN from_ (from_ + win) xs by omega)
    by_cases hz : win = 0
    · exfalso
      subst hz
      have : ∀ ys : List P2, cN from_ (from_ + 0) ys = 0 := by
        intro ys
        induction ys with
        | nil => rfl
        | cons y ys ih => rw [cN, ih, if_neg (by omega)]; rfl
      exact h0 (this xs)
    · rw [mostN, if_neg hz]
      have := (Int.le_ediv_iff_mul_le (show 0 < g by omega)).2 (show (cN from_ (from_ + win) xs - 1) * g ≤ win - 1 + j by omega)
      omega
def cP (l : List P2) (t : Int) : Nat := l.countP (fun e => decide (e.1 + e.2 ≤ t))
theorem cN_cP {from_ til : Int} (h : from_ ≤ til) : ∀ l : List P2, cN from_ til l = (cP l (til - 1) : Int) - (cP l (from_ - 1) : Int)
  | [] => by simp [cN, cP]
  | x :: xs => by
    have ih := cN_cP h xs
    unfold cP at ih ⊢
    rw [cN, List.countP_cons, List.countP_cons, ih]
    by_cases h1 : x.1 + x.2 ≤ til - 1
    · by_cases h2 : x.1 + x.2 ≤ from_ - 1
      · rw [if_neg (by omega), if_pos (by simpa using h1), if_pos (by simpa using h2)]; omega
      · rw [if_pos (by omega), if_pos (by simpa using h1), if_neg (by simpa using h2)]; omega
    · rw [if_neg (by omega), if_neg (by simpa using h1), if_neg (by simp; omega)]; omega
theorem range_count (p : P2 → Bool) : ∀ l : List P2, (List.range l.length).countP (fun k => p ((l[k]?).getD default)) = l.countP p
  | [] => rfl
  | x :: xs => by
    rw [List.length_cons, List.range_succ_eq_map, List.countP_cons, List.countP_map, List.countP_cons, ← range_count p xs]
    congr 1
theorem outE_cP (l : List P2) (t : Int) : (outE l t).length = cP l t := by
  unfold outE
  rw [((ordE_perm l).filter _).length_eq, ← List.countP_eq_length_filter]
  unfold idxs cP
  rw [List.countP_map, ← range_count]
  congr 1
/-- the ticks of a job -/
theorem costP_app : ∀ (a b : List P2), costP (a ++ b) = costP a + costP b
  | [], b => by simp [costP]
  | x :: a, b => by rw [List.cons_append, costP, costP, costP_app a b]; omega
theorem costP_take {ps : List P2} {p : Nat} (h : p < ps.length) : costP (ps.take (p + 1)) = costP (ps.take p) + ((ps[p]?).getD default).1 := by
  rw [List.take_add_one, costP_app, List.getElem?_eq_getElem h]
  simp [costP]
theorem costP_split {ps : List P2} {p : Nat} (h : p < ps.length) : costP ps = costP (ps.take p) + ((ps[p]?).getD default).1 + costP (ps.drop (p + 1)) := by
  have h1 := costP_app (ps.take p) (ps.drop p)
  rw [List.take_append_drop] at h1
  have h2 := costP_drop (List.getElem?_eq_getElem h)
  rw [h1, h2, List.getElem?_eq_getElem h]
  simp; omega
/-- nobody has been told til end; the ticks done are those of the pieces -/
structure Qt (R : Rn) (s : Ms) : Prop where
  s_ : ∀ i, i < R.L.length → (s.ja i).s = false
  d : ∀ i, i < R.L.length → ((s.ja i).d : Int) = costP ((taAt R.L i).pcs.take (s.ja i).p) + (s.ja i).t
/-- a run that nothing disturbs -/
structure Fair (R : Rn) : Prop where
  sg : R.sg = []
  bu : ∀ i, i < R.L.length → (R.bu[i]?).getD 0 = 0 ∨ costT (taAt R.L i) ≤ (R.bu[i]?).getD 0
  ev : ∀ i, i < R.L.length → sparse (taAt R.L i).gap (taAt R.L i).jit (taAt R.L i).first (evA R i) = true
section
variable {R : Rn} {s : Ms}
theorem Qt.lt (h : Qt R s) (hm : MOk R s) (hr : RnOk R) {i : Nat} (hi : i < R.L.length) : ((s.ja i).d : Int) < costT (taAt R.L i) := by
  have h1 := h.d i hi
  have hp := hm.pc i hi
  have h2 := hm.tk i hi
  have h3 := costP_split hp
  have h4 := costP_bd ((taAt R.L i).pcs.drop ((s.ja i).p + 1)) (fun p q => (hr.r.piece _ (ta_mem hi) p (List.mem_of_mem_drop q)).1)
  unfold tkA pcA at h2
  unfold costT
  omega
theorem endA_quiet (t : Int) : ∀ (f i : Nat) (s : Ms), (∀ k, k < i + f → (s.ja k).s = false) → endA R.L t f i s = s
  | 0, _, _, _ => rfl
  | f + 1, i, s, h => by
    rw [endA]
    have e : endS R.L t i s = s := by
      unfold endS
      rw [if_neg]
      rintro ⟨_, h2, _⟩
      rw [h i (by omega)] at h2; cases h2
    rw [e]
    exact endA_quiet t f (i + 1) s (fun k hk => h k (by omega))
theorem arr_quiet (hr : RnOk R) (hm : MOk R s) (hf : Fair R) (h : Qt R s) (t : Int) : arrA R t s = relA t 0 R.ev s := by
  unfold arrA
  rw [hf.sg, sigA]
  exact endA_quiet t _ _ _ (fun k hk => by rw [relA_ja hr hm]; exact h.s_ k (by omega))
theorem Qt.rel (hr : RnOk R) (hm : MOk R s) (h : Qt R s) (t : Int) : Qt R (relA t 0 R.ev s) :=
  ⟨fun i hi => by rw [relA_ja hr hm]; exact h.s_ i hi, fun i hi => by rw [relA_ja hr hm]; exact h.d i hi⟩
/-- what a tick of work leaves of the job's ticks -/
theorem Qt.next (h : Qt R s) (hm : MOk R s) {y : Nat} (hy : y < R.L.length) : ((s.ja y).d : Int) + 1 = costP ((taAt R.L y).pcs.take (jbN R.L y (s.ja y)).p) + (jbN R.L y (s.ja y)).t := by
  have h1 := h.d y hy
  have hp := hm.pc y hy
  unfold jbN
  split
  · rename_i e
    have := costP_take hp
    unfold tkA pcA at e
    show _ = costP ((taAt R.L y).pcs.take ((s.ja y).p + 1)) + ((0 : Nat) : Int)
    omega
  · show _ = costP ((taAt R.L y).pcs.take (s.ja y).p) + (((s.ja y).t + 1 : Nat) : Int)
    omega
theorem jbN_tk (hm : MOk R s) (hr : RnOk R) {y : Nat} (hy : y < R.L.length) (hp : (jbN R.L y (s.ja y)).p < (taAt R.L y).pcs.length) : ((jbN R.L y (s.ja y)).t : Int) < tkA R.L y (jbN R.L y (s.ja y)).p := by
  have h2 := hm.tk y hy
  have h5 := (pc_lim hr.r hy hp).1.1
  unfold jbN at h5 hp ⊢
  split
  · rename_i hx
    rw [if_pos hx] at h5
    show ((0 : Nat) : Int) < _
    simp only [] at h5
    exact Int.lt_of_lt_of_le (by omega) h5
  · rename_i hx
    show (((s.ja y).t + 1 : Nat) : Int) < tkA R.L y (s.ja y).p
    omega
theorem Qt.work (h : Qt R s) (hr : RnOk R) (hm : MOk R s) (hf : Fair R) {y : Nat} (hy : y < R.L.length) (t : Int) : Qt R (wkA R t y s) := by
  have hnx := h.next hm hy
  have key : (wkA R t y s).ja y = Jb.zero ∨ ((((wkA R t y s).ja y).s = false) ∧ (((wkA R t y s).ja y).d : Int) = costP ((taAt R.L y).pcs.take ((wkA R t y s).ja y).p) + ((wkA R t y s).ja y).t) := by
    rcases wkA_self (t := t) hm hy with ⟨_, e, _⟩ | ⟨hp, _, e1, e2, e3, e4⟩
    · exact .inl e
    · right
      rw [e1, e2, e3]
      refine ⟨?_, by omega⟩
      rcases e4 with e4 | e4
      · rw [e4]; exact h.s_ y hy
      · exfalso
        have h2 := jbN_tk hm hr hy hp
        have h3 := costP_split hp
        have h4 := costP_bd ((taAt R.L y).pcs.drop ((jbN R.L y (s.ja y)).p + 1)) (fun p q => (hr.r.piece _ (ta_mem hy) p (List.mem_of_mem_drop q)).1)
        unfold tkA pcA at h2
        have hb := hf.bu y hy
        unfold costT at hb
        rw [← e4] at hb
        omega
  refine ⟨fun i hi => ?_, fun i hi => ?_⟩
  · by_cases e : i = y
    · subst e
      rcases key with k | k
      · rw [k]; rfl
      · exact k.1
    · rw [(wkA_other (t := t) hm hy e).1]; exact h.s_ i hi
  · by_cases e : i = y
    · subst e
      rcases key with k | k
      · rw [k]; show ((0 : Nat) : Int) = costP ((taAt R.L i).pcs.take 0) + ((0 : Nat) : Int); simp [costP]
      · exact k.2
    · rw [(wkA_other (t := t) hm hy e).1]; exact h.d i hi
theorem Qt.tick (h : Qt R s) (hr : RnOk R) (hm : MOk R s) (hf : Fair R) (t : Int) : Qt R (tckB R t s) := by
  unfold tckB
  split
  · exact ⟨h.s_, h.d⟩
  · split
    · rename_i hc
      exact h.work hr hm hf (chosen_of hm hc).lt t
    · exact h
theorem ms0_ja (n i : Nat) : (ms0 n).ja i = Jb.zero := by
  unfold Ms.ja ms0; simp only [List.getElem?_replicate]; split <;> rfl
theorem ms0_qa (n i : Nat) : (ms0 n).qa i = [] := by
  unfold Ms.qa ms0; simp only [List.getElem?_replicate]; split <;> rfl
theorem plM_qt (hr : RnOk R) (hf : Fair R) : ∀ k, Qt R (plM R k)
  | 0 => ⟨fun i _ => by show ((ms0 R.L.length).ja i).s = false; rw [ms0_ja]; rfl, fun i _ => by
    show (((ms0 R.L.length).ja i).d : Int) = costP ((taAt R.L i).pcs.take ((ms0 R.L.length).ja i).p) + ((ms0 R.L.length).ja i).t
    rw [ms0_ja]; show ((0 : Nat) : Int) = costP ((taAt R.L i).pcs.take 0) + ((0 : Nat) : Int); simp [costP]⟩
  | k + 1 => by
    have h := plM_qt hr hf k
    have hm := plM_ok hr k
    rw [plM, tckA, arr_quiet hr hm hf h]
    exact (h.rel hr hm _).tick hr (hm.relA hr _) hf _
/-- the work that is left of a task -/
def leftI (L : List Ta) (s : Ms) (k : Int) : Int := ((s.qa k.toNat).length : Int) * costT (taAt L k) - ((s.ja k.toNat).d : Int)
def rcA (R : Rn) (k t : Int) : Int := ((outE (evA R k.toNat) t).length : Int)
/-- nothing is there of i and those ahead -/
def Idle (R : Rn) (i : Nat) (s : Ms) : Prop := ∀ x, x < R.L.length → cnt R.L x ≤ cnt R.L i → s.qa x = []
def accL (L : List Ta) (i : Nat) : List Int := aheadL L i ++ [(i : Int)]
theorem accL_mem {L : List Ta} {i : Nat} (hi : i < L.length) {x : Nat} : (x : Int) ∈ accL L i ↔ x < L.length ∧ cnt L x ≤ cnt L i := by
  unfold accL
  rw [List.mem_append, aheadL_mem, aheadB_iff]
  constructor
  · rintro (⟨⟨_, h1⟩, h2⟩ | h)
    · exact ⟨by omega, Nat.le_of_lt ((cnt_ahead (by omega) h1 (by omega) (by omega)).2 h2)⟩
    · have e : x = i := by simp at h; omega
      subst e; exact ⟨hi, Nat.le_refl _⟩
  · rintro ⟨h1, h2⟩
    by_cases e : x = i
    · right; simp [e]
    · left
      refine ⟨⟨by omega, by omega⟩, (cnt_ahead (by omega) (by omega) (by omega) (by omega)).1 ?_⟩
      rcases Nat.lt_or_ge (cnt L x) (cnt L i) with h | h
      · exact h
      · have := cnt_inj (L := L) (x := (x : Int)) (y := (i : Int)) (by omega) (by omega) (by omega) (by omega) (by omega)
        omega
theorem accL_int {L : List Ta} {i : Nat} (hi : i < L.length) {k : Int} (h : k ∈ accL L i) : ∃ x : Nat, k = (x : Int) ∧ x < L.length ∧ cnt L x ≤ cnt L i := by
  have h0 : 0 ≤ k := by
    unfold accL at h
    rw [List.mem_append, aheadL_mem] at h
    rcases h with h | h
    · omega
    · simp at h; omega
  obtain ⟨x, rfl⟩ := Int.eq_ofNat_of_zero_le h0
  exact ⟨x, rfl, (accL_mem hi).1 h⟩
theorem accL_nodup {L : List Ta} {i : Nat} : (accL L i).Nodup := by
  unfold accL
  rw [List.nodup_append]
  refine ⟨(idxs_nodup _).filter _, by simp, ?_⟩
  intro a ha b hb e
  subst e
  simp at hb
  subst hb
  have := (aheadL_mem.1 ha).2
  exact ahead_irr _ (aheadB_iff.1 this)
theorem leftI_rel (hr : RnOk R) (hm : MOk R s) (t : Int) (x : Nat) : leftI R.L (relA t 0 R.ev s) (x : Int) = leftI R.L s (x : Int) + (rcA R x t - rcA R x (t - 1)) * costT (taAt R.L x) := by
  obtain ⟨_, _, h3⟩ := relA_spec t R.ev 0 s (by rw [hm.ql, hr.ev]; omega)
  unfold leftI rcA
  rw [Int.toNat_natCast, h3 x, if_pos (Nat.zero_le _), Nat.sub_zero, relA_ja hr hm, outE_step (evA R x) t]
  unfold evA
  rw [List.length_append, List.length_append]
  simp only [Int.natCast_add, Int.add_mul, Int.sub_mul]
  omega
theorem leftI_other {t : Int} (hm : MOk R s) {y x : Nat} (hy : y < R.L.length) (h : x ≠ y) : leftI R.L (wkA R t y s) (x : Int) = leftI R.L s (x : Int) := by
  obtain ⟨h1, h2⟩ := wkA_other (t := t) hm hy h
  unfold leftI
  rw [Int.toNat_natCast, h1, h2]
theorem leftI_self {t : Int} (hm : MOk R s) (h : Qt R s) {y : Nat} (hy : y < R.L.length) (hq : s.qa y ≠ []) : leftI R.L (wkA R t y s) (y : Int) = leftI R.L s (y : Int) + (-1) := by
  have hnx := h.next hm hy
  unfold leftI
  rw [Int.toNat_natCast]
  rcases wkA_self (t := t) hm hy with ⟨e0, e1, e2⟩ | ⟨hp, e1, _, _, e3, _⟩
  · rw [e1, e2, List.length_tail]
    have hl : 1 ≤ (s.qa y).length := by
      rcases Nat.eq_zero_or_pos (s.qa y).length with q | q
      · exact absurd (List.eq_nil_of_length_eq_zero q) hq
      · exact q
    have ht : (jbN R.L y (s.ja y)).t = 0 := by
      have hp := hm.pc y hy
      unfold jbN at e0 ⊢
      split
      · rfl
      · rename_i q
        rw [if_neg q] at e0
        simp only [] at e0
        omega
    rw [e0, List.take_length, ht] at hnx
    have e4 : costP (taAt R.L y).pcs = costT (taAt R.L y) := rfl
    rw [e4] at hnx
    have e5 : (((s.qa y).length - 1 : Nat) : Int) = ((s.qa y).length : Int) - 1 := by omega
    rw [e5, Int.sub_mul]
    show _ - ((0 : Nat) : Int) = _
    omega
  · rw [e1, e3]; omega
theorem leftI_pos (hr : RnOk R) (hm : MOk R s) (h : Qt R s) {x : Nat} (hx : x < R.L.length) : 0 ≤ leftI R.L s (x : Int) ∧ (leftI R.L s (x : Int) ≤ 0 → s.qa x = []) := by
  have h1 := h.lt hm hr hx
  unfold leftI
  rw [Int.toNat_natCast]
  rcases Nat.eq_zero_or_pos (s.qa x).length with q | q
  · have hq := List.eq_nil_of_length_eq_zero q
    have := hm.rd x hx hq
    rw [this, q]
    exact ⟨by simp [Jb.zero], fun _ => hq⟩
  · have h2 := Int.mul_le_mul_of_nonneg_right (show (1 : Int) ≤ ((s.qa x).length : Int) by omega) (show 0 ≤ costT (taAt R.L x) by omega)
    rw [Int.one_mul] at h2
    exact ⟨by omega, fun h => by omega⟩
theorem diffS_mod {F S w : Int} (hF : 0 < F) (t : Nat) : diffS F S w t = diffS F S w ((t : Int) % F).toNat := by
  have h0 := Int.emod_nonneg (t : Int) (show F ≠ 0 by omega)
  have e := Int.emod_add_mul_ediv (t : Int) F
  unfold diffS
  rw [Int.toNat_of_nonneg h0]
  have e1 : (t : Int) = (t : Int) % F + ((t : Int) / F) * F := by rw [Int.mul_comm]; omega
  have h1 := aheadS_period (S := S) hF ((t : Int) % F + w) ((t : Int) / F)
  have h2 := aheadS_period (S := S) hF ((t : Int) % F) ((t : Int) / F)
  have e2 : (t : Int) % F + w + (t : Int) / F * F = (t : Int) + w := by omega
  rw [e2] at h1
  rw [← e1] at h2
  omega
end
end Go.Proofs.Ytmahagcghpoekaa
namespace Go.Proofs.Ytmahagcghpoekaa
open Go.RowKit
set_option linter.unusedSimpArgs false
set_option linter.unusedVariables false
theorem sumL_zeros : ∀ ks : List Int, sumL (fun _ => 0) ks = 0
  | [] => rfl
  | k :: ks => by rw [sumL, sumL_zeros ks]; rfl
section
variable {R : Rn} {i : Nat}
theorem idle_left {s : Ms} (hm : MOk R s) (h0 : Idle R i s) (hi : i < R.L.length) : sumL (leftI R.L s) (accL R.L i) = 0 := by
  rw [sumL_eq (g := fun _ => 0) _ (fun k hk => ?_), sumL_zeros]
  obtain ⟨x, rfl, hx, hc⟩ := accL_int hi hk
  have hq := h0 x hx hc
  have hj := hm.rd x hx hq
  unfold leftI
  rw [Int.toNat_natCast, hq, hj]
  simp [Jb.zero]
theorem idle_tick {t : Int} {s : Ms} (hm : MOk R s) (h0 : Idle R i s) : Idle R i (tckB R t s) := by
  intro x hx hc
  have hq := h0 x hx hc
  unfold tckB
  split
  · exact hq
  · split
    · rename_i hcm
      have hch := chosen_of hm hcm
      have hne : x ≠ (chM R.L s).toNat := fun e => hch.rd (by rw [← e]; exact hq)
      rw [(wkA_other (t := t) hm hch.lt hne).2]; exact hq
    · exact hq
/-- what a tick does with what is left, while somebody not behind i is there -/
theorem cyc_tick (hr : RnOk R) (hs : 0 ≤ R.sl ∧ R.sl < R.fr) (hi : i < R.L.length) {t : Nat} {s : Ms} (hm : MOk R s) (hq : Qt R s) {x : Nat} (hx : x < R.L.length) (hxq : s.qa x ≠ []) (hxc : cnt R.L x ≤ cnt R.L i) {b : Int} (hb : BkOk R.L s i b) :
    ∃ b', BkOk R.L (tckB R t s) i b' ∧ sumL (leftI R.L (tckB R t s)) (accL R.L i) + b' + aheadS R.fr R.sl ((t : Int) + 1) = sumL (leftI R.L s) (accL R.L i) + b + aheadS R.fr R.sl t := by
  have hst := aheadS_step hs.1 hs.2 t
  unfold tckB
  by_cases hg : (t : Int) % R.fr < R.sl
  · rw [if_pos hg]
    rw [if_neg (by omega)] at hst
    refine ⟨b, hb.of (fun y _ => .inl ⟨rfl, rfl⟩), ?_⟩
    have : sumL (leftI R.L (s.wr ⟨(t : Int), -1, 3, 0, 0⟩)) (accL R.L i) = sumL (leftI R.L s) (accL R.L i) := sumL_eq _ (fun k _ => rfl)
    rw [this, hst]; omega
  · rw [if_neg hg]
    rw [if_pos (by omega)] at hst
    obtain ⟨h1, h2, h3, h4⟩ := chM_spec R.L s
    have hc := (h3 x hx hxq).1
    rw [if_pos hc]
    have hch := chosen_of hm hc
    obtain ⟨y, hy⟩ : ∃ y, (chM R.L s).toNat = y := ⟨_, rfl⟩
    rw [hy] at hch ⊢
    by_cases hya : cnt R.L y ≤ cnt R.L i
    · refine ⟨b, hb.fore hm hch.lt hya, ?_⟩
      have hmem : (y : Int) ∈ accL R.L i := (accL_mem hi).2 ⟨hch.lt, hya⟩
      have := sumL_upd (f := leftI R.L s) (g := leftI R.L (wkA R t y s)) (y := (y : Int)) (d := -1) _ accL_nodup hmem (leftI_self hm hq hch.lt hch.rd) (fun k hk hne => by
        obtain ⟨z, rfl, _, _⟩ := accL_int hi hk
        exact leftI_other hm hch.lt (by omega))
      rw [this, hst]; omega
    · have hbk := hch.blk hm hx hxq hxc (by omega)
      refine ⟨b - 1, hb.back hm hbk, ?_⟩
      have : sumL (leftI R.L (wkA R t y s)) (accL R.L i) = sumL (leftI R.L s) (accL R.L i) := sumL_eq _ (fun k hk => by
        obtain ⟨z, rfl, _, hz⟩ := accL_int hi hk
        exact leftI_other hm hch.lt (fun e => hya (by rw [← e]; exact hz)))
      rw [this, hst]; omega
theorem cyc (hr : RnOk R) (hf : Fair R) (hs : 0 ≤ R.sl ∧ R.sl < R.fr) (hi : i < R.L.length) {t0 : Nat} (h0 : Idle R i (plM R t0)) : ∀ m : Nat, (∀ u, t0 < u → u ≤ t0 + m → ¬ Idle R i (plM R u)) →
    ∃ b, BkOk R.L (plM R (t0 + m)) i b ∧ sumL (leftI R.L (plM R (t0 + m))) (accL R.L i) + b + (aheadS R.fr R.sl ((t0 : Int) + m) - aheadS R.fr R.sl t0) = blockN R.L i + sumL (fun k => (rcA R k ((t0 : Int) + m - 1) - rcA R k ((t0 : Int) - 1)) * costT (taAt R.L k)) (accL R.L i)
  | 0, _ => by
    refine ⟨blockN R.L i, BkOk.start (plM_ok hr _) hr hi, ?_⟩
    rw [Nat.add_zero, idle_left (plM_ok hr _) h0 hi, sumL_eq (f := fun k => (rcA R k ((t0 : Int) + (0 : Nat) - 1) - rcA R k ((t0 : Int) - 1)) * costT (taAt R.L k)) (g := fun _ => 0) _ (fun k _ => by simp), sumL_zeros]
    simp
  | m + 1, hno => by
    obtain ⟨b, h1, h2⟩ := cyc hr hf hs hi h0 m (fun u a c => hno u a (by omega))
    have hm := plM_ok hr (t0 + m)
    have hq := plM_qt hr hf (t0 + m)
    have ha := arr_quiet hr hm hf hq ((t0 + m : Nat) : Int)
    have hm1 := hm.relA hr ((t0 + m : Nat) : Int)
    have hq1 := hq.rel hr hm ((t0 + m : Nat) : Int)
    have hpl : plM R (t0 + (m + 1)) = tckB R ((t0 + m : Nat) : Int) (relA ((t0 + m : Nat) : Int) 0 R.ev (plM R (t0 + m))) := by
      rw [show t0 + (m + 1) = t0 + m + 1 by omega, plM, tckA, ha]
    have hn := hno (t0 + (m + 1)) (by omega) (by omega)
    rw [hpl] at hn ⊢
    obtain ⟨s1, hs1⟩ : ∃ s1, relA ((t0 + m : Nat) : Int) 0 R.ev (plM R (t0 + m)) = s1 := ⟨_, rfl⟩
    have hb1 : BkOk R.L s1 i b := by rw [← hs1]; exact h1.of (fun y _ => .inl (by rw [relA_ja hr hm]; exact ⟨rfl, rfl⟩))
    have hleft : sumL (leftI R.L s1) (accL R.L i) = sumL (leftI R.L (plM R (t0 + m))) (accL R.L i) + sumL (fun k => (rcA R k ((t0 + m : Nat) : Int) - rcA R k (((t0 + m : Nat) : Int) - 1)) * costT (taAt R.L k)) (accL R.L i) := by
      rw [← sumL_add]
      refine sumL_eq _ (fun k hk => ?_)
      obtain ⟨x, rfl, _, _⟩ := accL_int hi hk
      rw [← hs1]; exact leftI_rel hr hm _ x
    rw [hs1] at hm1 hq1 hn ⊢
    have hex : ∃ x, x < R.L.length ∧ cnt R.L x ≤ cnt R.L i ∧ s1.qa x ≠ [] := by
      apply Classical.byContradiction
      intro hne
      exact hn (idle_tick hm1 (fun x hx hc => Classical.byContradiction fun q => hne ⟨x, hx, hc, q⟩))
    obtain ⟨x, hx, hc, hxq⟩ := hex
    obtain ⟨b', h3, h4⟩ := cyc_tick hr hs hi (t := t0 + m) hm1 hq1 hx hxq hc hb1
    refine ⟨b', h3, ?_⟩
    have hsum : sumL (fun k => (rcA R k ((t0 : Int) + ((m + 1 : Nat) : Int) - 1) - rcA R k ((t0 : Int) - 1)) * costT (taAt R.L k)) (accL R.L i) = sumL (fun k => (rcA R k ((t0 + m : Nat) : Int) - rcA R k (((t0 + m : Nat) : Int) - 1)) * costT (taAt R.L k)) (accL R.L i) + sumL (fun k => (rcA R k ((t0 : Int) + m - 1) - rcA R k ((t0 : Int) - 1)) * costT (taAt R.L k)) (accL R.L i) := by
      rw [← sumL_add]
      refine sumL_eq _ (fun k _ => ?_)
      rw [show (t0 : Int) + ((m + 1 : Nat) : Int) - 1 = ((t0 + m : Nat) : Int) by omega, show (t0 : Int) + m - 1 = ((t0 + m : Nat) : Int) - 1 by omega, ← Int.add_mul]
      congr 1; omega
    rw [hsum]
    rw [show (t0 : Int) + ((m + 1 : Nat) : Int) = ((t0 + m : Nat) : Int) + 1 by omega]
    rw [show (t0 : Int) + (m : Int) = ((t0 + m : Nat) : Int) by omega] at h2
    rw [show (t0 : Int) + (m : Int) - 1 = ((t0 + m : Nat) : Int) - 1 by omega]
    omega
theorem rc_le (hr : RnOk R) (hf : Fair R) (hv : ValidT R.L) {x : Nat} (hx : x < R.L.length) (t0 W : Nat) : rcA R x ((t0 : Int) + W - 1) - rcA R x ((t0 : Int) - 1) ≤ mostN (taAt R.L x).gap (taAt R.L x).jit W := by
  have hev : x < R.ev.length := by rw [hr.ev]; exact hx
  have hel := (hr.el (evA R x) (by unfold evA; rw [List.getElem?_eq_getElem hev]; exact List.getElem_mem hev)).2
  have hm := ta_mem hx
  have h1 := cN_most (from_ := (t0 : Int)) (win := (W : Int)) (hv.gap _ hm).1 (hv.jit _ hm).1 (by omega) (evA R x) _ (fun e he => (hel e he).2.1) (hf.ev x hx)
  rw [cN_cP (by omega)] at h1
  unfold rcA
  rw [Int.toNat_natCast, outE_cP, outE_cP]
  exact h1
/-- from a moment without work of i and those ahead, there is another one within the window -/
theorem idle_next (hr : RnOk R) (hf : Fair R) (hv : ValidT R.L) (hs : 0 ≤ R.sl ∧ R.sl < R.fr) (hi : i < R.L.length) {W : Nat} (hW : 1 ≤ W) (hd : demN R.L i W ≤ leastN R.fr R.sl W) (hj : (taAt R.L i).jit + W ≤ (taAt R.L i).gap) {t0 : Nat} (h0 : Idle R i (plM R t0)) :
    ∃ u, t0 < u ∧ u ≤ t0 + W ∧ Idle R i (plM R u) := by
  apply Classical.byContradiction
  intro hne
  have hno : ∀ u, t0 < u → u ≤ t0 + W → ¬ Idle R i (plM R u) := fun u h1 h2 h3 => hne ⟨u, h1, h2, h3⟩
  obtain ⟨b, h1, h2⟩ := cyc hr hf hs hi h0 W hno
  have hb := h1.pos
  have hF : 0 < R.fr := by omega
  have hr0 := Int.emod_nonneg (t0 : Int) (show R.fr ≠ 0 by omega)
  have hr1 := Int.emod_lt_of_pos (t0 : Int) hF
  have hsup : leastN R.fr R.sl W ≤ aheadS R.fr R.sl ((t0 : Int) + W) - aheadS R.fr R.sl t0 := by
    have h3 := (isLeast hs.1 hs.2 W).le ((t0 : Int) % R.fr).toNat (by omega)
    rw [← diffS_mod hF] at h3
    exact h3
  have hown : mostN (taAt R.L i).gap (taAt R.L i).jit W = 1 := by
    have hm := ta_mem hi
    have g1 := (hv.gap _ hm).1
    have g2 := (hv.jit _ hm).1
    unfold mostN
    rw [if_neg (by omega), Int.ediv_eq_zero_of_lt (by omega) (by omega)]
    rfl
  have hcost : ∀ x, x < R.L.length → 0 ≤ costT (taAt R.L x) := fun x hx => by have := (costT_bd hr.r (ta_mem hx)).1; omega
  have hdem : sumL (fun k => (rcA R k ((t0 : Int) + W - 1) - rcA R k ((t0 : Int) - 1)) * costT (taAt R.L k)) (accL R.L i) + blockN R.L i ≤ demN R.L i W := by
    have hle := sumL_le (f := fun k => (rcA R k ((t0 : Int) + W - 1) - rcA R k ((t0 : Int) - 1)) * costT (taAt R.L k)) (g := fun k => demT (taAt R.L k) W) (accL R.L i) (fun k hk => by
      obtain ⟨x, rfl, hx, _⟩ := accL_int hi hk
      exact Int.mul_le_mul_of_nonneg_right (rc_le hr hf hv hx t0 W) (hcost x hx))
    have e : sumL (fun k => demT (taAt R.L k) W) (accL R.L i) = sumL (fun k => demT (taAt R.L k) W) (aheadL R.L i) + costT (taAt R.L i) := by
      unfold accL
      rw [sumL_app]
      have : demT (taAt R.L (i : Int)) W = costT (taAt R.L i) := by unfold demT; rw [hown, Int.one_mul]
      simp only [sumL, this]; omega
    unfold demN
    rw [demL_sum]
    unfold ownN
    omega
  have hpos : ∀ k ∈ accL R.L i, 0 ≤ leftI R.L (plM R (t0 + W)) k := fun k hk => by
    obtain ⟨x, rfl, hx, _⟩ := accL_int hi hk
    exact (leftI_pos hr (plM_ok hr _) (plM_qt hr hf _) hx).1
  have hz := (sumL_zero _ hpos).2 (by omega)
  refine hno (t0 + W) (by omega) (Nat.le_refl _) (fun x hx hc => ?_)
  exact (leftI_pos hr (plM_ok hr _) (plM_qt hr hf _) hx).2 (hz _ ((accL_mem hi).2 ⟨hx, hc⟩))
theorem idle_after (hr : RnOk R) (hf : Fair R) (hv : ValidT R.L) (hs : 0 ≤ R.sl ∧ R.sl < R.fr) (hi : i < R.L.length) {W : Nat} (hW : 1 ≤ W) (hd : demN R.L i W ≤ leastN R.fr R.sl W) (hj : (taAt R.L i).jit + W ≤ (taAt R.L i).gap) (r : Nat) : ∃ u, r < u ∧ u ≤ r + W ∧ Idle R i (plM R u) := by
  have key : ∀ (d t0 : Nat), r - t0 ≤ d → t0 ≤ r → Idle R i (plM R t0) → ∃ u, r < u ∧ u ≤ r + W ∧ Idle R i (plM R u) := by
    intro d
    induction d with
    | zero =>
      intro t0 h1 h2 h0
      obtain ⟨u, g1, g2, g3⟩ := idle_next hr hf hv hs hi hW hd hj h0
      exact ⟨u, by omega, by omega, g3⟩
    | succ d ih =>
      intro t0 h1 h2 h0
      obtain ⟨u, g1, g2, g3⟩ := idle_next hr hf hv hs hi hW hd hj h0
      by_cases hu : r < u
      · exact ⟨u, hu, by omega, g3⟩
      · exact ih u (by omega) (by omega) g3
  exact key r 0 (by omega) (Nat.zero_le _) (fun x _ _ => by show (ms0 R.L.length).qa x = []; exact ms0_qa _ _)
end
end Go.Proofs.Ytmahagcghpoekaa
namespace Go.Proofs.Ytmahagcghpoekaa
open Go.RowKit
set_option linter.unusedSimpArgs false
set_option linter.unusedVariables false
/-- the place of x -/
theorem indexR_any (a : Option Addr) (n c p : Nat) (xs : List Int) (x : Int) (w : World) (hR : Rd w a n 1 (xs.map enc1)) (hx : xs[p]? = some x) (hn : xs.Nodup) :
    Calls Try.prog 47 #[.slice a n c, .int .i64 x] w fun e w' => e = .returned (.int .i64 (p : Nat)) ∧ w = w' := by
  have hs := hR.small
  have hpl := (List.getElem?_eq_some_iff.1 hx).1
  rw [hR.length] at hpl
  have HR := Lib.hid hR
  have HU : Hid (∀ k y, xs[k]? = some y → y = x → k = p) := Lib.hid (fun k y hk e => by
    obtain ⟨h1, e1⟩ := List.getElem?_eq_some_iff.1 hk
    obtain ⟨h2, e2⟩ := List.getElem?_eq_some_iff.1 hx
    exact (List.getElem_inj hn).1 (by rw [e1, e2, e]))
  have HX := Lib.hid hx
  clear hR hn hx
  go_enter Try.func47, Try.ntmps47
  go_wp2
  go_loop [8] (fun i => ∃ k : Nat, k ≤ p ∧ i = .int .i64 k) (fun i => n - (intOf i).toNat)
  case atStart => exact ⟨0, Nat.zero_le _, rfl⟩
  case round =>
    obtain ⟨k, hk, rfl⟩ := hrel
    have hlt : k < n := by omega
    obtain ⟨y, b, off, rfl, hb, hc, hy⟩ := HR.out.idx k hlt
    by_cases hxy : y = x
    · obtain rfl := HU.out k y hy hxy
      subst hxy
      clear hy
      go_wp2
      go_ret
      exact ⟨rfl, rfl⟩
    · have hxy' : (x == y) = false := by simpa using fun q => hxy (q.symm)
      have hkp : k ≠ p := by
        rintro rfl
        rw [HX.out] at hy
        exact hxy (by simpa using hy.symm)
      clear hy
      go_wp2
      go_round
      case rel => exact ⟨k + 1, by omega, by go_num⟩
      case measure => simp [intOf]; omega
theorem bcost_is {t : Ta} {pa : Option Addr} {pn pc : Nat} {x : Int} {w : World} (hp : Rd w pa pn 2 (t.pcs.map enc2)) (hv : ∀ q ∈ t.pcs, 1 ≤ q.1 ∧ q.1 ≤ 200) (hn : pn ≤ 8) (h : costT t = x) :
    Calls Try.prog 113 #[.agg #[.int .i64 t.pri, .int .i64 t.dl, .int .i64 t.first, .int .i64 t.gap, .int .i64 t.jit, .slice pa pn pc]] w fun e w' => e = .returned (.int .i64 x) ∧ Below w.heap.size w w' := by
  subst h; exact cost_any _ _ _ _ _ pa pn pc t.pcs w hp hv hn
theorem Blocking_is {a : Option Addr} {n c : Nat} {L : List Ta} {t x e : Int} {w : World} (hL : RdL w a n L) (h : blkgR L t = (x, e)) :
    Calls Try.prog 16 #[.slice a n c, .int .i64 t] w fun en w' => en = rII x e ∧ Below w.heap.size w w' := by
  have := Blocking_any a n c L t w hL
  rw [h] at this; exact this
/-- what the closure of demand has captured -/
structure DemC (L : List Ta) (q : Nat) (a : Option Addr) (n c o h b : Nat) (w : World) : Prop where
  own : w.cell? ⟨o, 0, none⟩ = some (.int .i64 (ownN L q))
  box : w.cell? ⟨b, 0, none⟩ = some (.slice a n c)
  ho : o < w.heap.size
  hb : b < w.heap.size
  hh : h < w.heap.size
  ahead : ∃ (a2 : Option Addr) (c2 : Nat), w.cell? ⟨h, 0, none⟩ = some (.slice a2 (cnt L q) c2) ∧ Rd w a2 (cnt L q) 1 (((rankL L).take (cnt L q)).map enc1)
  rd : RdL w a n L
theorem DemC.ext {L : List Ta} {q : Nat} {a : Option Addr} {n c o h b : Nat} {w w' : World} (hc : DemC L q a n c o h b w) (hb : Below w.heap.size w w') : DemC L q a n c o h b w' := by
  obtain ⟨a2, c2, h1, h2⟩ := hc.ahead
  exact ⟨(hb.cell (p := ⟨o, 0, none⟩) hc.ho).trans hc.own, (hb.cell (p := ⟨b, 0, none⟩) hc.hb).trans hc.box, Nat.lt_of_lt_of_le hc.ho hb.size, Nat.lt_of_lt_of_le hc.hb hb.size, Nat.lt_of_lt_of_le hc.hh hb.size,
    ⟨a2, c2, (hb.cell (p := ⟨h, 0, none⟩) hc.hh).trans h1, h2.ext hb⟩, hc.rd.ext hb⟩
theorem owns_capR {w : World} {B e k n c : Nat} {a : Option Addr} {xs : List Value} (h : w.ownsRow B e k (.slice a n c) n xs) : n ≤ c := by
  rcases h.2 with ⟨hv, h8⟩ | ⟨g, cap, cur, hv, _, _, hle, _⟩
  · omega
  · simp at hv
    obtain ⟨_, rfl⟩ := hv
    omega
/-- a task's cells, in every later world -/
theorem RdL.cells {w : World} {a : Option Addr} {n : Nat} {L : List Ta} (h : RdL w a n L) (k : Nat) (hk : k < n) : ∃ (t : Ta) (b off : Nat) (pa : Option Addr) (pn pc : Nat), a = some ⟨b, off, none⟩ ∧ b < w.heap.size ∧ L[k]? = some t ∧ t.pcs.length = pn ∧ Hid (∀ wx : World, Below w.heap.size w wx →
    wx.cell? ⟨b, off + k * 6, none⟩ = some (.int .i64 t.pri) ∧ wx.cell? ⟨b, off + k * 6 + 1, none⟩ = some (.int .i64 t.dl) ∧ wx.cell? ⟨b, off + k * 6 + 2, none⟩ = some (.int .i64 t.first) ∧ wx.cell? ⟨b, off + k * 6 + 3, none⟩ = some (.int .i64 t.gap) ∧
    wx.cell? ⟨b, off + k * 6 + 4, none⟩ = some (.int .i64 t.jit) ∧ wx.cell? ⟨b, off + k * 6 + 5, none⟩ = some (.slice pa pn pc) ∧ b < wx.heap.size ∧ Rd wx pa pn 2 (t.pcs.map enc2)) := by
  obtain ⟨t, b, off, pa, pn, pc, rfl, hb, c0, c1, c2, c3, c4, c5, hp, _, hg, _⟩ := h.at_ k hk
  exact ⟨t, b, off, pa, pn, pc, rfl, hb, hg, hp.length, fun wx h => ⟨(h.cell (p := ⟨b, off + k * 6, none⟩) hb).trans c0, (h.cell (p := ⟨b, off + k * 6 + 1, none⟩) hb).trans c1, (h.cell (p := ⟨b, off + k * 6 + 2, none⟩) hb).trans c2, (h.cell (p := ⟨b, off + k * 6 + 3, none⟩) hb).trans c3, (h.cell (p := ⟨b, off + k * 6 + 4, none⟩) hb).trans c4, (h.cell (p := ⟨b, off + k * 6 + 5, none⟩) hb).trans c5, Nat.lt_of_lt_of_le hb h.size, hp.ext h⟩⟩
theorem Rd.take1 {w : World} {a : Option Addr} {n k : Nat} {xs : List Int} (h : Rd w a n 1 (xs.map enc1)) (hk : k ≤ n) : Rd w a k 1 ((xs.take k).map enc1) := by
  have hl := h.length
  refine ⟨by simp; omega, Nat.le_trans hk h.small, fun h0 => ?_⟩
  obtain ⟨b, off, rfl, hb, hc⟩ := h.at_ (by omega)
  refine ⟨b, off, rfl, hb, fun i hi j hj => ?_⟩
  have hi' : i < xs.length := by simp at hi; omega
  have := hc i (by simpa using hi') j hj
  rw [this]
  simp
set_option maxRecDepth 10000 in
set_option maxHeartbeats 2000000 in
theorem demand_any (a : Option Addr) (n c q : Nat) (L : List Ta) (w : World) (hL : RdL w a n L) (hv : ValidT L) (hq : q < n) :
    Calls Try.prog 102 #[.slice a n c, .int .i64 (q : Nat)] w fun e w' => ∃ o h b, e = .returned (.func (.func 114) #[] #[.pointer (some ⟨o, 0, none⟩), .pointer (some ⟨h, 0, none⟩), .pointer (some ⟨b, 0, none⟩)]) ∧ DemC L q a n c o h b w' ∧ Below w.heap.size w w' := by
  have hll := hL.length
  have hs := hL.small
  have hn5 := hv.r.len
  rw [hll] at hn5
  obtain ⟨u, b, off, pa, pn, pc, rfl, hb, hg, hpl, HK⟩ := hL.cells q hq
  have hpn := hv.r.pcs u (List.mem_of_getElem? hg)
  rw [hpl] at hpn
  have HPV : Hid (∀ p ∈ u.pcs, 1 ≤ p.1 ∧ p.1 ≤ 200) := Lib.hid (fun p hp => (hv.r.piece u (List.mem_of_getElem? hg) p hp).1)
  have HRK : Hid (ranksR L = (rankL L, 0)) := Lib.hid (by rw [ranksR, hv.rb]; rfl)
  have HBK : Hid (blkgR L q = (blockN L q, 0)) := Lib.hid (by rw [blkgR, isTk_iff.2 ⟨hv.rb, by omega, by omega⟩]; rfl)
  have HPL : Hid ((rankL L)[cnt L q]? = some (q : Int)) := Lib.hid (rank_at (by omega) (by omega))
  have hcq : cnt L q < n := by have := cnt_lt (L := L) (x := q) (by omega) (by omega); omega
  have HND := Lib.hid (rank_nodup L)
  have HRL : Hid ((rankL L).length = n) := Lib.hid (by rw [rank_len, hll])
  have hbk := blockN_bd hv.r q
  have hct := costT_bd hv.r (List.mem_of_getElem? hg)
  have HOW : Hid (ownN L q = costT u + blockN L q) := Lib.hid (by rw [ownN, taAt_of hg])
  have HV := Lib.hid hv
  have HR := Lib.hid hL
  obtain ⟨bn, hbn⟩ : ∃ x, blockN L q = x := ⟨_, rfl⟩
  obtain ⟨cq, hcqe⟩ : ∃ x, cnt L q = x := ⟨_, rfl⟩
  obtain ⟨ct, hcte⟩ : ∃ x, costT u = x := ⟨_, rfl⟩
  obtain ⟨rk, hrke⟩ : ∃ x, rankL L = x := ⟨_, rfl⟩
  have HCT := Lib.hid hcte
  have HCQ := Lib.hid hcqe
  have HRE := Lib.hid hrke
  rw [hbn] at HBK hbk HOW
  rw [hcqe] at HPL hcq
  rw [hcte] at hct HOW
  rw [hrke] at HRK HPL HND HRL
  clear hL hv hll hg hbn hcqe hcte hrke hb hpl
  go_enter Try.func102, Try.ntmps102
  go_wp2_with (first
    | (go_at_call 15; (with_reducible refine (Ranks_is (HR.out.ext (by (repeat' (first | (with_reducible exact Below.refl _ _) | (with_reducible assumption) | (with_reducible refine Below.alloc ?_ ?_ _) | (with_reducible refine Below.drew ?_) | (with_reducible refine Below.draws ?_ _) | (with_reducible refine Below.setCell ?_ ?_ _) | (refine Below.then ?_ (by with_reducible assumption)) | go_size)))) HRK.out).mono ?_); rintro e w1 ⟨a1, n1, c1, rfl, ho1, hb1⟩; have R1 := Lib.hid (ownsI_rd ho1); have hca1 := owns_capR ho1; have hn1 : rk.length = n1 := (ownsI_rd ho1).length; have x0 := (hb1.cell (p := ⟨w.heap.size, 0, none⟩) (by simp)).trans (show _ = some (.slice (some ⟨b, off, none⟩) n c) by simp [go_sem]); have hz1 := hb1.size; have W1 : Hid (Below w.heap.size w w1) := Lib.hid (Below.then (Below.alloc (Below.refl _ _) (Nat.le_refl _) _) hb1); clear ho1 hb1; simp only [World.size_alloc] at hz1)
    | (go_at_call 16; (with_reducible refine (Blocking_is (HR.out.ext (by repeat (first | (with_reducible exact Below.refl _ _) | (refine Below.then ?_ (Hid.out (by with_reducible assumption)))))) HBK.out).mono ?_); rintro e w2 ⟨rfl, hb2⟩; have x1 := (hb2.cell (p := ⟨w.heap.size, 0, none⟩) (by simp only []; omega)).trans x0; have B2 := Lib.hid hb2; have hz2 := hb2.size; have hs3 : w.heap.size < w2.heap.size := (by omega); have hcc : cq ≤ c1 := (by have := HRL.out; omega); obtain ⟨k0, k1, k2, k3, k4, k5, hbw2, hpp⟩ := HK.out w2 (Below.then W1.out hb2); have HPP := Lib.hid hpp; clear hb2 hpp)
    | (go_at_call 47; (with_reducible refine (indexR_any _ _ _ _ _ _ _ (R1.out.ext B2.out) HPL.out HND.out).mono ?_); rintro e w3 ⟨rfl, rfl⟩)
    | (go_at_call 113; (with_reducible refine (bcost_is (HPP.out.ext (Below.alloc (Below.refl _ _) (Nat.le_refl _) _)) HPV.out hpn.2 HCT.out).mono ?_); rintro e w4 ⟨rfl, hb4⟩; have B4 := Lib.hid hb4; have y9 := (hb4.cell (p := ⟨w2.heap.size, 0, none⟩) (by simp)).trans (show _ = some (.slice a1 cq c1) by simp [go_sem]); have y0 := (hb4.cell (p := ⟨w.heap.size, 0, none⟩) (by simp; omega)).trans (show _ = some (.slice (some ⟨b, off, none⟩) n c) by simp [go_sem, *]); have hz4 := hb4.size; simp only [World.size_alloc] at hz4; clear hb4))
  go_ret
  have hW : Below w.heap.size w w4 := Below.then (Below.alloc (Below.then W1.out B2.out) (by omega) _) B4.out
  have hX : Below w4.heap.size w4 (w4.alloc (.cells #[.int .i64 (ct + bn)] 3)) := Below.alloc (Below.refl _ _) (Nat.le_refl _) _
  refine ⟨_, _, _, rfl, ⟨by rw [HOW.out]; simp [go_sem], (hX.cell (p := ⟨w.heap.size, 0, none⟩) (by simp only []; omega)).trans y0, by simp, by simp; omega, by simp; omega, ⟨a1, c1, ?_, ?_⟩, HR.out.ext (hW.trans (hX.mono (by omega)))⟩, hW.trans (hX.mono (by omega))⟩
  · rw [HCQ.out]; exact (hX.cell (p := ⟨w2.heap.size, 0, none⟩) (by simp only []; omega)).trans y9
  · rw [HCQ.out, HRE.out]
    have hB : Below w1.heap.size w1 w4 := Below.then (Below.alloc B2.out B2.out.size _) B4.out
    exact ((R1.out.ext hB).ext hX).take1 (by have := HRL.out; omega)
theorem most_is {f g j v x : Int} {w : World} (hv : vpat f g j = true) (h0 : 0 ≤ v ∧ v ≤ 1000000) (h : mostN g j v = x) : Calls Try.prog 115 #[.agg #[.int .i64 f, .int .i64 g, .int .i64 j], .int .i64 v] w fun e w' => e = rII x 0 ∧ Below w.heap.size w w' := by
  have := most_any f g j v w
  rw [show mostR f g j v = (x, 0) by rw [mostR, hv, inB_iff.2 h0, h]; rfl] at this
  exact this
theorem demL_cons {L : List Ta} {w : Int} {k : Int} {ks : List Int} {n : Int} : demL L w (k :: ks) n = demL L w ks (n + demT (taAt L k) w) := rfl
set_option maxRecDepth 10000 in
set_option maxHeartbeats 2000000 in
theorem demf_any (a : Option Addr) (n c q o h b : Nat) (L : List Ta) (v : Int) (w : World) (hv : ValidT L) (hq : q < n) (hc : DemC L q a n c o h b w) (h0 : 0 ≤ v ∧ v ≤ 1000000) :
    Calls Try.prog 114 #[.int .i64 v, .pointer (some ⟨o, 0, none⟩), .pointer (some ⟨h, 0, none⟩), .pointer (some ⟨b, 0, none⟩)] w fun e w' => e = .returned (.int .i64 (demN L q v)) ∧ Below w.heap.size w w' := by
  have hll := hc.rd.length
  have hn5 := hv.r.len
  have hs := hc.rd.small
  rw [hll] at hn5
  have hown := ownN_bd hv.r (i := q) (by omega) (by omega)
  obtain ⟨R, hR⟩ : ∃ R, demN L q v = R := ⟨_, rfl⟩
  have hcl := cnt_lt (L := L) (x := q) (by omega) (by omega)
  obtain ⟨a2, c2, hh0, hrd⟩ := hc.ahead
  obtain ⟨ks, hks⟩ : ∃ ks, (rankL L).take (cnt L q) = ks := ⟨_, rfl⟩
  obtain ⟨m, hm⟩ : ∃ m, cnt L q = m := ⟨_, rfl⟩
  obtain ⟨ow, how⟩ : ∃ x, ownN L q = x := ⟨_, rfl⟩
  have HA : Hid (demL L v (ks.drop 0) ow = R) := Lib.hid (by rw [← hR, ← hks, ← how]; exact demN_take (by omega) (by omega))
  have hown2 := hc.own
  rw [how] at hown hown2
  rw [hks, hm] at hrd
  rw [hm] at hh0
  have HKM : Hid (∀ k ∈ ks, 0 ≤ k ∧ k < n) := Lib.hid (fun k hk => by
    rw [← hks] at hk
    have := rank_mem.1 (List.mem_of_mem_take hk)
    rw [hll] at this; exact this)
  have HBD : Hid (∀ (j : Nat) (x : Int), x ≤ demL L v (ks.drop j) x ∧ demL L v (ks.drop j) x ≤ x + 8080008000) := Lib.hid (fun j x => by
    have h1 := demL_bd hv h0 (ks.drop j) x (fun k hk => by
      have := List.mem_of_mem_drop hk
      rw [← hks] at this
      exact rank_mem.1 (List.mem_of_mem_take this))
    have h2 : (ks.drop j).length ≤ 5 := by
      rw [List.length_drop, ← hks, List.length_take, rank_len, hll]; omega
    have h3 : (1616001600 : Int) * ((ks.drop j).length : Int) ≤ 1616001600 * 5 := Int.mul_le_mul_of_nonneg_left (by omega) (by omega)
    omega)
  have hRB : R ≤ 8080009800 := by have := (HBD.out 0 ow).2; rw [HA.out] at this; omega
  have hbb := hc.box
  have hls := hrd.small
  have hlo := hc.ho
  have hlb := hc.hb
  have HRD := Lib.hid hrd
  have HL := Lib.hid hc.rd
  have HLN := Lib.hid hrd.length
  have HV := Lib.hid hv
  rw [hR]
  clear hv hc hll hR hcl hks hm how hrd
  go_enter Try.func114, Try.ntmps114
  go_wp2
  go_loopw [6, 14] (fun u i wr => ∃ (k : Nat) (s : Int), k ≤ m ∧ u = .int .i64 s ∧ i = .int .i64 k ∧ 0 ≤ s ∧ demL L v (ks.drop k) s = R ∧ Below w.heap.size w wr) (fun _ i _ => m - (intOf i).toNat)
  case atStart => exact ⟨0, ow, Nat.zero_le _, rfl, rfl, by omega, HA.out, Below.refl _ _⟩
  case round =>
    clear HA
    obtain ⟨k, s, hk, rfl, rfl, hs0, he, hB⟩ := hrel
    have HE := Lib.hid he; have HB := Lib.hid hB
    have d0 := (hB.cell (p := ⟨b, 0, none⟩) hlb).trans hbb
    have hbr : b < wr.heap.size := Nat.lt_of_lt_of_le hlb hB.size
    clear he hB
    by_cases hlt : k < m
    · obtain ⟨x, b1, o1, rfl, hb1, hc1, hx1⟩ := (HRD.out.ext HB.out).idx k hlt
      obtain ⟨hx0, hxn⟩ := HKM.out x (List.mem_of_getElem? hx1)
      obtain ⟨j, rfl⟩ := Int.eq_ofNat_of_zero_le hx0
      obtain ⟨u, b2, off, pa, pn, pc, rfl, hb2, hg, hpl, HK⟩ := HL.out.cells j (by omega)
      have hum := List.mem_of_getElem? hg
      have hpn := HV.out.r.pcs u hum
      rw [hpl] at hpn
      have HPV : Hid (∀ p ∈ u.pcs, 1 ≤ p.1 ∧ p.1 ≤ 200) := Lib.hid (fun p hp => (HV.out.r.piece u hum p hp).1)
      have HVP := Lib.hid (HV.out.vp u hum)
      obtain ⟨mo, hmo⟩ : ∃ x, mostN u.gap u.jit v = x := ⟨_, rfl⟩
      obtain ⟨ct, hct⟩ : ∃ x, costT u = x := ⟨_, rfl⟩
      have hmb := mostN_bd (HV.out.gap u hum).1 (HV.out.jit u hum) h0
      have hcb := costT_bd HV.out.r hum
      have hdb := demT_bd HV.out hum h0
      have hd2 : demT u v = mo * ct := by rw [demT, hmo, hct]
      rw [hd2] at hdb
      rw [hmo] at hmb
      rw [hct] at hcb
      have HMO := Lib.hid hmo
      have HCT := Lib.hid hct
      have hE := HE.out
      have hkd : ks.drop k = (j : Int) :: ks.drop (k + 1) := by obtain ⟨h1, h2⟩ := List.getElem?_eq_some_iff.1 hx1; rw [List.drop_eq_getElem_cons h1, h2]
      rw [hkd, demL_cons, taAt_of hg, hd2] at hE
      have HE2 := Lib.hid hE
      have hsb := (HBD.out (k + 1) (s + mo * ct)).1
      rw [hE] at hsb
      obtain ⟨k0, k1, k2, k3, k4, k5, hbw2, hpp⟩ := HK.out wr HB.out
      clear hE hkd hx1 hg hum hd2 hpl hmo hct hpp
      go_wp2_with (first
        | (go_at_call 115; (with_reducible refine (most_is HVP.out h0 HMO.out).mono ?_); rintro e w3 ⟨rfl, hb3⟩; have B3 := Lib.hid hb3; have z0 := (hb3.cell (p := ⟨b, 0, none⟩) hbr).trans d0; obtain ⟨j0, j1, j2, j3, j4, j5, hbw3, hpp3⟩ := HK.out w3 (Below.then HB.out hb3); have HPP := Lib.hid hpp3; clear hb3 hpp3)
        | (go_at_call 113; (with_reducible refine (bcost_is HPP.out HPV.out hpn.2 HCT.out).mono ?_); rintro e w4 ⟨rfl, hb4⟩; have B4 := Lib.hid hb4; clear hb4))
      go_roundw
      case rel => exact ⟨k + 1, s + mo * ct, by omega, by go_num, by go_num, by omega, HE2.out, (by repeat (first | (with_reducible exact Below.refl _ _) | (refine Below.then ?_ (Hid.out (by with_reducible assumption)))))⟩
      case measure => simp [intOf]; omega
    · have hE := HE.out
      rw [List.drop_of_length_le (by have := HLN.out; omega)] at hE
      obtain rfl : s = R := hE
      go_wp2
      go_ret
      exact ⟨rfl, HB.out⟩
end Go.Proofs.Ytmahagcghpoekaa
namespace Go.Proofs.Ytmahagcghpoekaa
open Go.RowKit
set_option linter.unusedSimpArgs false
set_option linter.unusedVariables false
theorem maxB_app (L : List Ta) (m : Int) (a b : List P2) : maxB L m (a ++ b) = maxB L (maxB L m a) b := by unfold maxB; rw [List.foldl_append]
theorem aheadF_drop {L : List Ta} {n q j : Nat} (hj : j < n) : (((idxs n).drop j).filter (fun x => aheadB L x q)) = (if aheadB L j q = true then (j : Int) :: ((idxs n).drop (j + 1)).filter (fun x => aheadB L x q) else ((idxs n).drop (j + 1)).filter (fun x => aheadB L x q)) := by
  rw [idxs_drop hj, List.filter_cons]
end Go.Proofs.Ytmahagcghpoekaa
namespace Go.Proofs.Ytmahagcghpoekaa
open Go.RowKit
set_option linter.unusedSimpArgs false
set_option linter.unusedVariables false
theorem demf_is {a : Option Addr} {n c q o h b : Nat} {L : List Ta} {v x : Int} {w : World} (hv : ValidT L) (hq : q < n) (hc : DemC L q a n c o h b w) (h0 : 0 ≤ v ∧ v ≤ 1000000) (hx : demN L q v = x) :
    Calls Try.prog 114 #[.int .i64 v, .pointer (some ⟨o, 0, none⟩), .pointer (some ⟨h, 0, none⟩), .pointer (some ⟨b, 0, none⟩)] w fun e w' => e = .returned (.int .i64 x) ∧ Below w.heap.size w w' := by subst hx; exact demf_any a n c q o h b L v w hv hq hc h0
def winI (x : Int) : Int := if x = 0 then -1 else x
set_option maxRecDepth 10000 in
set_option maxHeartbeats 2000000 in
theorem window_any' (a : Option Addr) (n c q : Nat) (L : List Ta) (F S : Int) (w : World) (hL : RdL w a n L) (hv : ValidT L) (hS : supB F S = true) (hq : q < n) :
    Calls Try.prog 79 #[.slice a n c, .agg #[.int .i64 F, .int .i64 S], .int .i64 (q : Nat)] w fun e w' => e = .returned (.int .i64 (winI (winN L F S q))) ∧ Below w.heap.size w w' := by
  obtain ⟨R, hR⟩ : ∃ R, winN L F S q = R := ⟨_, rfl⟩
  have HA : Hid (winFrom L F S q (2001 - 1) 1 = R) := Lib.hid hR
  rw [hR]
  have HV := Lib.hid hv
  have HS := Lib.hid hS
  have HR := Lib.hid hL
  clear hL hv hR hS
  go_enter Try.func79, Try.ntmps79
  go_wp2_with (go_at_call 102; (with_reducible refine (demand_any _ _ _ q L _ (HR.out.ext (Below.alloc (Below.refl _ _) (Nat.le_refl _) _)) HV.out hq).mono ?_); rintro e w1 ⟨o, h, b, rfl, hc, hb1⟩; have HC := Lib.hid hc; have B1 := Lib.hid hb1; have c0 := (hb1.cell (p := ⟨w.heap.size, 0, none⟩) (by simp)).trans (show _ = some (.int .i64 F) by simp [go_sem]); have c1 := (hb1.cell (p := ⟨w.heap.size, 1, none⟩) (by simp)).trans (show _ = some (.int .i64 S) by simp [go_sem]); have hz1 := hb1.size; clear hb1 hc)
  simp only [World.size_alloc] at hz1
  go_loopw [8] (fun i wr => ∃ k : Nat, 1 ≤ k ∧ k ≤ 2001 ∧ i = .int .i64 k ∧ winFrom L F S q (2001 - k) k = R ∧ Below w1.heap.size w1 wr) (fun i _ => 2001 - (intOf i).toNat)
  case atStart => exact ⟨1, Nat.le_refl _, by omega, rfl, HA.out, Below.refl _ _⟩
  case round =>
    clear HA
    obtain ⟨k, hk1, hk, rfl, he, hB⟩ := hrel
    have HE := Lib.hid he; have HB := Lib.hid hB
    have d0 := (hB.cell (p := ⟨w.heap.size, 0, none⟩) (by simp only []; omega)).trans c0
    have d1 := (hB.cell (p := ⟨w.heap.size, 1, none⟩) (by simp only []; omega)).trans c1
    clear he hB
    by_cases hlt : k ≤ 2000
    · have hlt' : (k : Int) ≤ 2000 := by omega
      obtain ⟨x, hx⟩ : ∃ x, demN L q k = x := ⟨_, rfl⟩
      obtain ⟨y, hy⟩ : ∃ y, leastN F S k = y := ⟨_, rfl⟩
      have HX := Lib.hid hx
      have HY : Hid (lstR F S k = (y, 0)) := Lib.hid (by rw [lstR_ok HS.out (by omega), hy])
      have hE := HE.out
      rw [show 2001 - k = (2001 - (k + 1)) + 1 by omega, winFrom_step, hx, hy] at hE
      clear hx hy
      by_cases hxy : x ≤ y
      · rw [if_pos hxy] at hE
        subst hE
        go_wp2_with (first
          | (go_at_call 12; (with_reducible refine (Least_is HY.out).mono ?_); rintro e w3 ⟨rfl, hb3⟩; have B3 := Lib.hid hb3; clear hb3)
          | (go_at_call 114; (with_reducible refine (demf_is HV.out hq ((HC.out.ext HB.out).ext B3.out) ⟨by omega, by omega⟩ HX.out).mono ?_); rintro e w4 ⟨rfl, hb4⟩; have B4 := Lib.hid hb4; clear hb4))
        go_ret
        exact ⟨ret_int (by rw [winI, if_neg (by omega)]), Below.then (Below.then (Below.alloc (Below.refl _ _) (Nat.le_refl _) _) B1.out) (Below.then (Below.then HB.out B3.out) B4.out)⟩
      · have hxy' : decide (x ≤ y) = false := by simpa using hxy
        rw [if_neg hxy] at hE
        have HE2 := Lib.hid hE
        clear hE
        go_wp2_with (first
          | (go_at_call 12; (with_reducible refine (Least_is HY.out).mono ?_); rintro e w3 ⟨rfl, hb3⟩; have B3 := Lib.hid hb3; clear hb3)
          | (go_at_call 114; (with_reducible refine (demf_is HV.out hq ((HC.out.ext HB.out).ext B3.out) ⟨by omega, by omega⟩ HX.out).mono ?_); rintro e w4 ⟨rfl, hb4⟩; have B4 := Lib.hid hb4; clear hb4))
        go_roundw
        case rel => exact ⟨k + 1, by omega, by omega, by go_num, HE2.out, Below.then (Below.then HB.out B3.out) B4.out⟩
        case measure => simp [intOf]; omega
    · have hlt' : decide ((k : Int) ≤ 2000) = false := by simp; omega
      have hlt'' : decide (k ≤ 2000) = false := by simp; omega
      have hE := HE.out
      rw [show 2001 - k = 0 by omega, winFrom] at hE
      subst hE
      go_wp2
      go_ret
      exact ⟨rfl, Below.then (Below.then (Below.alloc (Below.refl _ _) (Nat.le_refl _) _) B1.out) HB.out⟩
theorem window_is {a : Option Addr} {n c q : Nat} {L : List Ta} {F S x : Int} {w : World} (hL : RdL w a n L) (hv : ValidT L) (hS : supB F S = true) (hq : q < n) (h : winI (winN L F S q) = x) :
    Calls Try.prog 79 #[.slice a n c, .agg #[.int .i64 F, .int .i64 S], .int .i64 (q : Nat)] w fun e w' => e = .returned (.int .i64 x) ∧ Below w.heap.size w w' := by subst h; exact window_any' a n c q L F S w hL hv hS hq
end Go.Proofs.Ytmahagcghpoekaa
namespace Go.Proofs.Ytmahagcghpoekaa
open Go.RowKit
set_option linter.unusedSimpArgs false
set_option linter.unusedVariables false
/-- the response, -1 without one -/
def respN (L : List Ta) (F S : Int) (q : Nat) : Int := if winN L F S q = 0 then -1 else (taAt L q).jit + winN L F S q
theorem resp_any (a : Option Addr) (n c q : Nat) (L : List Ta) (F S : Int) (w : World) (hL : RdL w a n L) (hv : ValidT L) (hS : supB F S = true) (hq : q < n) :
    Calls Try.prog 51 #[.slice a n c, .agg #[.int .i64 F, .int .i64 S], .int .i64 (q : Nat)] w fun e w' => e = .returned (.int .i64 (respN L F S q)) ∧ Below w.heap.size w w' := by
  have hb := winN_bd L F S q
  obtain ⟨x, hx⟩ : ∃ x, winN L F S q = x := ⟨_, rfl⟩
  unfold respN
  rw [hx] at hb ⊢
  obtain ⟨u, b, off, pa, pn, pc, rfl, hbw, hg, hpl, HK⟩ := hL.cells q hq
  have hj := hv.jit u (List.mem_of_getElem? hg)
  rw [taAt_of hg]
  have HX : Hid (winI (winN L F S q) = winI x) := Lib.hid (by rw [hx])
  have HV := Lib.hid hv
  have HS := Lib.hid hS
  have HR := Lib.hid hL
  clear hL hv hS hx hg hpl
  by_cases h0 : x = 0
  · subst h0
    rw [if_pos rfl]
    go_enter Try.func51, Try.ntmps51
    go_wp2_with (go_at_call 79; (with_reducible refine (window_is (HR.out.ext (Below.alloc (Below.refl _ _) (Nat.le_refl _) _)) HV.out HS.out hq HX.out).mono ?_); rintro e w1 ⟨rfl, hb1⟩; have B1 := Lib.hid hb1; clear hb1)
    go_ret
    exact ⟨rfl, Below.then (Below.alloc (Below.refl _ _) (Nat.le_refl _) _) B1.out⟩
  · rw [if_neg h0]
    have e : winI x = x := by rw [winI, if_neg h0]
    rw [e] at HX
    have hx0 : decide (x < 0) = false := by simp; omega
    go_enter Try.func51, Try.ntmps51
    go_wp2_with (go_at_call 79; (with_reducible refine (window_is (HR.out.ext (Below.alloc (Below.refl _ _) (Nat.le_refl _) _)) HV.out HS.out hq HX.out).mono ?_); rintro e w1 ⟨rfl, hb1⟩; have B1 := Lib.hid hb1; obtain ⟨j0, j1, j2, j3, j4, j5, hbw1, hpp1⟩ := HK.out w1 (Below.then (Below.alloc (Below.refl _ _) (Nat.le_refl _) _) hb1); clear hb1 hpp1)
    go_ret
    exact ⟨rfl, Below.then (Below.alloc (Below.refl _ _) (Nat.le_refl _) _) B1.out⟩
theorem resp_is {a : Option Addr} {n c q : Nat} {L : List Ta} {F S x : Int} {w : World} (hL : RdL w a n L) (hv : ValidT L) (hS : supB F S = true) (hq : q < n) (h : respN L F S q = x) :
    Calls Try.prog 51 #[.slice a n c, .agg #[.int .i64 F, .int .i64 S], .int .i64 (q : Nat)] w fun e w' => e = .returned (.int .i64 x) ∧ Below w.heap.size w w' := by subst h; exact resp_any a n c q L F S w hL hv hS hq
theorem meets_any (a : Option Addr) (n c q : Nat) (L : List Ta) (F S : Int) (w : World) (hL : RdL w a n L) (hv : ValidT L) (hS : supB F S = true) (hq : q < n) :
    Calls Try.prog 78 #[.slice a n c, .agg #[.int .i64 F, .int .i64 S], .int .i64 (q : Nat)] w fun e w' => e = .returned (.bool (meetB L F S q)) ∧ Below w.heap.size w w' := by
  have hb := winN_bd L F S q
  obtain ⟨R, hR⟩ : ∃ R, meetB L F S q = R := ⟨_, rfl⟩
  obtain ⟨r, hr⟩ : ∃ r, respN L F S q = r := ⟨_, rfl⟩
  obtain ⟨u, b, off, pa, pn, pc, rfl, hbw, hg, hpl, HK⟩ := hL.cells q hq
  have hj := hv.jit u (List.mem_of_getElem? hg)
  have hrm : (r < 0 ∧ R = false) ∨ (0 ≤ r ∧ decide (r ≤ u.dl) = R) := by
    unfold respN at hr
    unfold meetB at hR
    rw [taAt_of hg] at hr hR
    split at hr
    · rename_i h0
      rw [h0] at hR
      left
      exact ⟨by omega, by rw [← hR]; rfl⟩
    · rename_i h0
      right
      refine ⟨by omega, ?_⟩
      rw [← hR, decide_eq_true (show 0 < winN L F S q by omega), Bool.true_and, ← hr]
  have HX := Lib.hid hr
  have HV := Lib.hid hv
  have HS := Lib.hid hS
  have HR := Lib.hid hL
  rw [hR]
  clear hL hv hS hr hg hpl hR hb
  rcases hrm with ⟨h0, rfl⟩ | ⟨h0, h1⟩
  · have h0' : decide (0 ≤ r) = false := by simp; omega
    go_enter Try.func78, Try.ntmps78
    go_wp2_with (go_at_call 51; (with_reducible refine (resp_is (HR.out.ext (Below.alloc (Below.refl _ _) (Nat.le_refl _) _)) HV.out HS.out hq HX.out).mono ?_); rintro e w1 ⟨rfl, hb1⟩; have B1 := Lib.hid hb1; obtain ⟨j0, j1, j2, j3, j4, j5, hbw1, hpp1⟩ := HK.out w1 (Below.then (Below.alloc (Below.refl _ _) (Nat.le_refl _) _) hb1); clear hb1 hpp1)
    go_ret
    exact ⟨rfl, Below.then (Below.alloc (Below.refl _ _) (Nat.le_refl _) _) B1.out⟩
  · go_enter Try.func78, Try.ntmps78
    go_wp2_with (go_at_call 51; (with_reducible refine (resp_is (HR.out.ext (Below.alloc (Below.refl _ _) (Nat.le_refl _) _)) HV.out HS.out hq HX.out).mono ?_); rintro e w1 ⟨rfl, hb1⟩; have B1 := Lib.hid hb1; obtain ⟨j0, j1, j2, j3, j4, j5, hbw1, hpp1⟩ := HK.out w1 (Below.then (Below.alloc (Below.refl _ _) (Nat.le_refl _) _) hb1); clear hb1 hpp1)
    go_ret
    exact ⟨rfl, Below.then (Below.alloc (Below.refl _ _) (Nat.le_refl _) _) B1.out⟩
theorem meets_is {a : Option Addr} {n c q : Nat} {L : List Ta} {F S : Int} {x : Bool} {w : World} (hL : RdL w a n L) (hv : ValidT L) (hS : supB F S = true) (hq : q < n) (h : meetB L F S q = x) :
    Calls Try.prog 78 #[.slice a n c, .agg #[.int .i64 F, .int .i64 S], .int .i64 (q : Nat)] w fun e w' => e = .returned (.bool x) ∧ Below w.heap.size w w' := by subst h; exact meets_any a n c q L F S w hL hv hS hq
set_option maxHeartbeats 1000000 in
theorem acc_any (a : Option Addr) (n c : Nat) (L : List Ta) (F S : Int) (w : World) (hL : RdL w a n L) (hv : ValidT L) (hS : supB F S = true) :
    Calls Try.prog 49 #[.slice a n c, .agg #[.int .i64 F, .int .i64 S]] w fun e w' => e = .returned (.bool (accB L F S)) ∧ Below w.heap.size w w' := by
  have hll := hL.length
  have hs := hL.small
  obtain ⟨R, hR⟩ : ∃ R, accB L F S = R := ⟨_, rfl⟩
  have HA : Hid (accFrom L F S (n - 0) 0 = R) := Lib.hid (by rw [← hR, accB, hll]; rfl)
  have HV := Lib.hid hv
  have HS := Lib.hid hS
  have HR := Lib.hid hL
  obtain ⟨w1, hw1⟩ : ∃ w1, w1 = w.alloc (.cells #[.int .i64 F, .int .i64 S] 24) := ⟨_, rfl⟩
  have c0 : w1.cell? ⟨w.heap.size, 0, none⟩ = some (.int .i64 F) := by rw [hw1]; simp [go_sem]
  have c1 : w1.cell? ⟨w.heap.size, 1, none⟩ = some (.int .i64 S) := by rw [hw1]; simp [go_sem]
  have hz1 : w.heap.size < w1.heap.size := by rw [hw1]; simp
  have B1 : Hid (Below w.heap.size w w1) := Lib.hid (by rw [hw1]; exact Below.alloc (Below.refl _ _) (Nat.le_refl _) _)
  rw [hR]
  clear hL hv hll hR hS
  go_enter Try.func49, Try.ntmps49
  go_wp2
  rw [← hw1]
  clear hw1
  go_loopw [8] (fun i wr => ∃ k : Nat, k ≤ n ∧ i = .int .i64 k ∧ accFrom L F S (n - k) k = R ∧ Below w1.heap.size w1 wr) (fun i _ => n - (intOf i).toNat)
  case atStart => exact ⟨0, Nat.zero_le _, rfl, HA.out, Below.refl _ _⟩
  case round =>
    clear HA
    obtain ⟨k, hk, rfl, he, hB⟩ := hrel
    have HE := Lib.hid he; have HB := Lib.hid hB
    have d0 := (hB.cell (p := ⟨w.heap.size, 0, none⟩) (by simp only []; omega)).trans c0
    have d1 := (hB.cell (p := ⟨w.heap.size, 1, none⟩) (by simp only []; omega)).trans c1
    clear he hB
    by_cases hlt : k < n
    · obtain ⟨m, hm⟩ : ∃ m, meetB L F S k = m := ⟨_, rfl⟩
      have HM := Lib.hid hm
      have hE := HE.out
      rw [show n - k = (n - (k + 1)) + 1 by omega, accFrom, hm] at hE
      clear hm
      cases m
      · obtain rfl : R = false := by rw [← hE]; rfl
        go_wp2_with (go_at_call 78; (with_reducible refine (meets_is ((HR.out.ext B1.out).ext HB.out) HV.out HS.out hlt HM.out).mono ?_); rintro e w3 ⟨rfl, hb3⟩; have B3 := Lib.hid hb3; clear hb3)
        go_ret
        exact ⟨rfl, (by repeat (first | (with_reducible exact Below.refl _ _) | (refine Below.then ?_ (Hid.out (by with_reducible assumption)))))⟩
      · have HE2 : Hid (accFrom L F S (n - (k + 1)) (k + 1) = R) := Lib.hid (by simpa using hE)
        clear hE
        go_wp2_with (go_at_call 78; (with_reducible refine (meets_is ((HR.out.ext B1.out).ext HB.out) HV.out HS.out hlt HM.out).mono ?_); rintro e w3 ⟨rfl, hb3⟩; have B3 := Lib.hid hb3; clear hb3)
        go_roundw
        case rel => exact ⟨k + 1, by omega, by go_num, HE2.out, Below.then HB.out B3.out⟩
        case measure => simp [intOf]; omega
    · have hE := HE.out
      rw [show n - k = 0 by omega, accFrom] at hE
      subst hE
      go_wp2
      go_ret
      exact ⟨rfl, (by repeat (first | (with_reducible exact Below.refl _ _) | (refine Below.then ?_ (Hid.out (by with_reducible assumption)))))⟩
theorem acc_is {a : Option Addr} {n c : Nat} {L : List Ta} {F S : Int} {x : Bool} {w : World} (hL : RdL w a n L) (hv : ValidT L) (hS : supB F S = true) (h : accB L F S = x) :
    Calls Try.prog 49 #[.slice a n c, .agg #[.int .i64 F, .int .i64 S]] w fun e w' => e = .returned (.bool x) ∧ Below w.heap.size w w' := by subst h; exact acc_any a n c L F S w hL hv hS
/-- right: tasks and supply are valid -/
def okB (L : List Ta) (F S : Int) : Bool := validL L && supB F S
theorem right25_any (a : Option Addr) (n c : Nat) (L : List Ta) (F S : Int) (w : World) (hL : RdL w a n L) :
    Calls Try.prog 48 #[.slice a n c, .agg #[.int .i64 F, .int .i64 S]] w fun e w' => e = .returned (.bool (okB L F S)) ∧ Below w.heap.size w w' := by
  have HR := Lib.hid hL
  unfold okB
  cases hv : validL L
  · have HV := Lib.hid hv
    clear hL hv
    go_enter Try.func48, Try.ntmps48
    go_wp2_with (go_at_call 77; (with_reducible refine (valid_is (HR.out.ext (Below.alloc (Below.refl _ _) (Nat.le_refl _) _)) HV.out).mono ?_); rintro e w1 ⟨rfl, hb1⟩; have B1 := Lib.hid hb1; clear hb1)
    go_ret
    exact ⟨rfl, Below.then (Below.alloc (Below.refl _ _) (Nat.le_refl _) _) B1.out⟩
  · have HV := Lib.hid hv
    obtain ⟨x, hx⟩ : ∃ x, supB F S = x := ⟨_, rfl⟩
    have HS := Lib.hid hx
    rw [hx]
    clear hL hv hx
    go_enter Try.func48, Try.ntmps48
    go_wp2_with (first
      | (go_at_call 77; (with_reducible refine (valid_is (HR.out.ext (Below.alloc (Below.refl _ _) (Nat.le_refl _) _)) HV.out).mono ?_); rintro e w1 ⟨rfl, hb1⟩; have B1 := Lib.hid hb1; have c0 := (hb1.cell (p := ⟨w.heap.size, 0, none⟩) (by simp)).trans (show _ = some (.int .i64 F) by simp [go_sem]); have c1 := (hb1.cell (p := ⟨w.heap.size, 1, none⟩) (by simp)).trans (show _ = some (.int .i64 S) by simp [go_sem]); clear hb1)
      | (go_at_call 34; (with_reducible refine (supV_is HS.out).mono ?_); rintro e w2 ⟨rfl, hb2⟩; have B2 := Lib.hid hb2; clear hb2))
    go_ret
    exact ⟨rfl, Below.then (Below.then (Below.alloc (Below.refl _ _) (Nat.le_refl _) _) B1.out) B2.out⟩
theorem right25_is {a : Option Addr} {n c : Nat} {L : List Ta} {F S : Int} {x : Bool} {w : World} (hL : RdL w a n L) (h : okB L F S = x) :
    Calls Try.prog 48 #[.slice a n c, .agg #[.int .i64 F, .int .i64 S]] w fun e w' => e = .returned (.bool x) ∧ Below w.heap.size w w' := by subst h; exact right25_any a n c L F S w hL
end Go.Proofs.Ytmahagcghpoekaa
namespace Go.Proofs.Ytmahagcghpoekaa
open Go.RowKit
set_option linter.unusedSimpArgs false
set_option linter.unusedVariables false
theorem ok_of {L : List Ta} {F S : Int} (h : okB L F S = true) : ValidT L ∧ supB F S = true := by
  unfold okB at h; rw [Bool.and_eq_true] at h; exact ⟨valid_of h.1, h.2⟩
def accE (L : List Ta) (F S : Int) : Int := if okB L F S then (if accB L F S then 0 else 15) else 1
def inT (L : List Ta) (t : Int) : Bool := inB t 0 ((L.length : Int) - 1)
def winR (L : List Ta) (F S t : Int) : Int × Int := if okB L F S && inT L t then (if winN L F S t = 0 then (0, 3) else (winN L F S t, 0)) else (0, 1)
def sliceGo (L : List Ta) (F : Int) : Nat → Int × Int
  | 0 => (0, 15)
  | k + 1 => if accB L F k then ((k : Int), 0) else sliceGo L F k
def sliceR (L : List Ta) (F : Int) : Int × Int := if validL L && inB F 1 60 then sliceGo L F F.toNat else (0, 1)
def costR (L : List Ta) (t : Int) : Int × Int := if validL L && inT L t then (costT (taAt L t), 0) else (0, 1)
def demR (L : List Ta) (t v : Int) : Int × Int := if validL L && inT L t && inB v 0 1000000 then (demN L t v, 0) else (0, 1)
theorem inT_iff {L : List Ta} {t : Int} : inT L t = true ↔ 0 ≤ t ∧ t < L.length := by unfold inT; rw [inB_iff]; omega
theorem Accept_any (a : Option Addr) (n c : Nat) (L : List Ta) (F S : Int) (w : World) (hL : RdL w a n L) :
    Calls Try.prog 19 #[.slice a n c, .agg #[.int .i64 F, .int .i64 S]] w fun e w' => e = .returned (.int .i64 (accE L F S)) ∧ Below w.heap.size w w' := by
  have HR := Lib.hid hL
  unfold accE
  cases ho : okB L F S
  · have HO := Lib.hid ho
    clear hL ho
    go_enter Try.func19, Try.ntmps19
    go_wp2_with (go_at_call 48; (with_reducible refine (right25_is (HR.out.ext (Below.alloc (Below.refl _ _) (Nat.le_refl _) _)) HO.out).mono ?_); rintro e w1 ⟨rfl, hb1⟩; have B1 := Lib.hid hb1; have c0 := (hb1.cell (p := ⟨w.heap.size, 0, none⟩) (by simp)).trans (show _ = some (.int .i64 F) by simp [go_sem]); have c1 := (hb1.cell (p := ⟨w.heap.size, 1, none⟩) (by simp)).trans (show _ = some (.int .i64 S) by simp [go_sem]); clear hb1)
    go_ret
    exact ⟨rfl, (Below.then (Below.alloc (Below.refl _ _) (Nat.le_refl _) _) B1.out)⟩
  · have HO := Lib.hid ho
    obtain ⟨hv, hs⟩ := ok_of ho
    have HV := Lib.hid hv
    have HS := Lib.hid hs
    obtain ⟨x, hx⟩ : ∃ x, accB L F S = x := ⟨_, rfl⟩
    have HA := Lib.hid hx
    rw [if_pos rfl, hx]
    clear hL ho hv hs hx
    cases x
    all_goals
      go_enter Try.func19, Try.ntmps19
      go_wp2_with (first | (go_at_call 48; (with_reducible refine (right25_is (HR.out.ext (Below.alloc (Below.refl _ _) (Nat.le_refl _) _)) HO.out).mono ?_); rintro e w1 ⟨rfl, hb1⟩; have B1 := Lib.hid hb1; have c0 := (hb1.cell (p := ⟨w.heap.size, 0, none⟩) (by simp)).trans (show _ = some (.int .i64 F) by simp [go_sem]); have c1 := (hb1.cell (p := ⟨w.heap.size, 1, none⟩) (by simp)).trans (show _ = some (.int .i64 S) by simp [go_sem]); clear hb1) | (go_at_call 49; (with_reducible refine (acc_is ((HR.out.ext (Below.alloc (Below.refl _ _) (Nat.le_refl _) _)).ext B1.out) HV.out HS.out HA.out).mono ?_); rintro e w2 ⟨rfl, hb2⟩; have B2 := Lib.hid hb2; clear hb2))
      go_ret
      exact ⟨rfl, Below.then (Below.then (Below.alloc (Below.refl _ _) (Nat.le_refl _) _) B1.out) B2.out⟩
theorem Accept_is {a : Option Addr} {n c : Nat} {L : List Ta} {F S x : Int} {w : World} (hL : RdL w a n L) (h : accE L F S = x) :
    Calls Try.prog 19 #[.slice a n c, .agg #[.int .i64 F, .int .i64 S]] w fun e w' => e = .returned (.int .i64 x) ∧ Below w.heap.size w w' := by subst h; exact Accept_any a n c L F S w hL
end Go.Proofs.Ytmahagcghpoekaa
namespace Go.Proofs.Ytmahagcghpoekaa
open Go.RowKit
set_option linter.unusedSimpArgs false
set_option linter.unusedVariables false
end Go.Proofs.Ytmahagcghpoekaa
namespace Go.Proofs.Ytmahagcghpoekaa
open Go.RowKit
set_option linter.unusedSimpArgs false
set_option linter.unusedVariables false
def buA (R : Rn) (i : Nat) : Int := (R.bu[i]?).getD 0
/-- does task i allow its events, and is its budget enough? -/
def mayB (R : Rn) (i : Nat) : Bool := allowGo (taAt R.L i).gap (taAt R.L i).jit (taAt R.L i).first (evA R i)
def lowB (R : Rn) (i : Nat) : Bool := decide (0 < buA R i) && decide (buA R i < costT (taAt R.L i))
def alwF (R : Rn) : Nat → Nat → Bool
  | 0, _ => decide (R.sg.length = 0)
  | f + 1, i => if mayB R i = true ∧ lowB R i = false then alwF R f (i + 1) else false
def alwR (R : Rn) : Bool × Int := if runB R = true then (alwF R R.L.length 0, 0) else (false, 1)
theorem may_is {R : Rn} (hr : RnOk R) (hv : ValidT R.L) {i : Nat} (hi : i < R.L.length) : allowR (taAt R.L i).first (taAt R.L i).gap (taAt R.L i).jit (evA R i) = (mayB R i, 0) := by
  have hev : i < R.ev.length := by rw [hr.ev]; exact hi
  have hel := hr.el (evA R i) (by unfold evA; rw [List.getElem?_eq_getElem hev]; exact List.getElem_mem hev)
  have h0 : listE (evA R i) = 0 := by
    unfold listE
    rw [if_neg, if_neg (by omega)]
    intro h
    rw [List.any_eq_true] at h
    obtain ⟨e, he, hf⟩ := h
    have := hel.2 e he
    simp only [farB, Bool.or_eq_true, Bool.not_eq_true'] at hf
    rcases hf with hf | hf
    · rw [show inB e.1 0 1000000 = true by rw [inB_iff]; exact this.1] at hf; cases hf
    · rw [show inB e.2 0 1000000 = true by rw [inB_iff]; exact this.2] at hf; cases hf
  unfold allowR mayB
  rw [if_pos (hv.vp _ (ta_mem hi)), if_pos h0]
theorem cost_is {R : Rn} (hvl : validL R.L = true) {i : Nat} (hi : i < R.L.length) : costR R.L i = (costT (taAt R.L i), 0) := by
  unfold costR
  rw [hvl, show inT R.L (i : Int) = true by rw [inT_iff]; omega]; rfl
end Go.Proofs.Ytmahagcghpoekaa
