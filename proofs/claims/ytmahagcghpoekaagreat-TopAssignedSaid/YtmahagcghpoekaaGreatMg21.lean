/- The contract of runB: a run of tasks under events that their patterns allow. The conditions: the tasks and the lists read as named; the tasks are valid. The contract of runB, and of awake26B. The conditions: the tasks and the lists read as named; the tasks are valid. The contract of awake26B. No condition. A run that runB makes is allowed. No condition: plain lemmas. The contract of the program's Meets. The conditions: the run reads as named. -/
import Derived.Test.YtmahagcghpoekaaGreatMg20
import Derived.Test.YtmahagcghpoekaaGreatMg11
import Derived.Deep.Cut
import Derived.Laws.StructEq
import Derived.Test.YtmahagcghpoekaaGreatMg17
import Derived.Test.YtmahagcghpoekaaGreatMg13
namespace Go.Proofs.YtmahagcghpoekaaGreat
open Go.RowKit
set_option linter.unusedSimpArgs false
set_option linter.unusedVariables false
theorem EEv : Elt Tryz.prog 25 27 1 24 := Elt.mk' (z := .slice none 0 0) Tryz.underlying25 (by kernel_rfl) rfl (by decide)
/-- the events of task i -/
def tev (L : List Ta) (late : List (List P2)) (i : Nat) : List P2 := if i < late.length then evs (taAt L i).gap (taAt L i).jit 12 (taAt L i).first (evAt late i) else []
def topEv (L : List Ta) (late : List (List P2)) : List (List P2) := (List.range L.length).map (tev L late)
def topR (L : List Ta) (F S : Int) (late : List (List P2)) : Rn := ⟨L, F, S, topEv L late, List.replicate L.length 0, []⟩
/-- the run under way in memory -/
structure RunM (w wr : World) (Q B : Nat) (a : Option Addr) (n c : Nat) (F S : Int) (k : Nat) (g : List EvV) (ea : Option Addr) (ec : Nat) (ba : Option Addr) (bc : Nat) : Prop where
  c0 : wr.cell? ⟨Q, 0, none⟩ = some (.slice a n c)
  c1 : wr.cell? ⟨Q, 1, none⟩ = some (.int .i64 F)
  c2 : wr.cell? ⟨Q, 2, none⟩ = some (.int .i64 S)
  c3 : wr.cell? ⟨Q, 3, none⟩ = some (.slice ea k ec)
  c4 : wr.cell? ⟨Q, 4, none⟩ = some (.slice ba k bc)
  c5 : wr.cell? ⟨Q, 5, none⟩ = some (.slice none 0 0)
  f : ∀ j, wr.frozen? ⟨Q, j, none⟩ = false
  ev : wr.ownsRow B 27 1 (.slice ea k ec) k (g.flatMap encV)
  rows : ∀ v ∈ g, wr.ownsRow B 46 2 (.slice v.a v.n v.c) v.n (v.es.flatMap enc2)
  bu : wr.ownsRow B 3 1 (.slice ba k bc) k ((List.replicate k (0 : Int)).flatMap enc1)
  sz : B ≤ wr.heap.size
  lb : Below w.heap.size w wr
/-- the result's block stays -/
def ResB (wr : World) (Z : Nat) : Prop := Blk wr Z #[.slice none 0 0, .int .i64 0, .int .i64 0, .slice none 0 0, .slice none 0 0, .slice none 0 0]
theorem encV_len (v : EvV) : (encV v).length = 1 := rfl
/-- a row of events has been made: W2 is the world behind the append of its header, the header is stored, then the budget's row grows: W3 -/
theorem RunM.push {w wr wx W2 W3 : World} {Q B : Nat} {a : Option Addr} {n c : Nat} {F S : Int} {k : Nat} {g : List EvV} {ea ea' : Option Addr} {ec ec' : Nat} {ba ba' : Option Addr} {bc bc' : Nat} {v : EvV} {o1 o2 : Obj}
    (h : RunM w wr Q B a n c F S k g ea ec ba bc) (hQ : Q < B) (hwB : w.heap.size ≤ Q) (hx : Below wr.heap.size wr wx) (hv : wx.ownsRow B 46 2 (.slice v.a v.n v.c) v.n (v.es.flatMap enc2))
    (h2 : W2.ownsRow B 27 1 (.slice ea' (k + 1) ec') (k + 1) (g.flatMap encV ++ encV v)) (g2 : (wx.alloc o1).grownBy W2 (Value.slice ea k ec).ownBlock)
    (h3 : W3.ownsRow B 3 1 (.slice ba' (k + 1) bc') (k + 1) ((List.replicate k (0 : Int)).flatMap enc1 ++ [.int .i64 0])) (g3 : ((W2.setCell ⟨Q, 3, none⟩ (.slice ea' (k + 1) ec')).alloc o2).grownBy W3 (Value.slice ba k bc).ownBlock) :
    RunM w (W3.setCell ⟨Q, 4, none⟩ (.slice ba' (k + 1) bc')) Q B a n c F S (k + 1) (g ++ [v]) ea' ec' ba' bc' := by
  have hz := h.sz
  have hzx := hx.size
  have evx := owns_ext h.ev hx
  have bux := owns_ext h.bu hx
  have hb2 : Below B wx W2 := ((Below.refl B wx).alloc (by omega) o1).trans (grown_below (evx.alloc o1) g2 (by rw [World.size_alloc]; omega))
  have hz2 := hb2.size
  have bu2 : W2.ownsRow B 3 1 (.slice ba k bc) k ((List.replicate k (0 : Int)).flatMap enc1) := owns_kept (bux.alloc o1) (evx.alloc o1) (by decide) g2
  have bu2' := owns_far bu2 hQ (j := 3) (.slice ea' (k + 1) ec')
  have h2' := owns_far h2 hQ (j := 3) (.slice ea' (k + 1) ec')
  have hb3 : Below B (W2.setCell ⟨Q, 3, none⟩ (.slice ea' (k + 1) ec')) W3 := ((Below.refl B _).alloc (by simp; omega) o2).trans (grown_below (bu2'.alloc o2) g3 (by rw [World.size_alloc]; simp; omega))
  have hz3 := hb3.size
  have cx : ∀ j, wx.cell? ⟨Q, j, none⟩ = wr.cell? ⟨Q, j, none⟩ := fun j => hx.cell (p := ⟨Q, j, none⟩) (show Q < wr.heap.size by omega)
  have c2 : ∀ j, W2.cell? ⟨Q, j, none⟩ = wr.cell? ⟨Q, j, none⟩ := fun j => (hb2.cell (p := ⟨Q, j, none⟩) hQ).trans (cx j)
  have c3 : ∀ j, j ≠ 3 → W3.cell? ⟨Q, j, none⟩ = wr.cell? ⟨Q, j, none⟩ := fun j hj => (hb3.cell (p := ⟨Q, j, none⟩) hQ).trans ((World.cell?_setCell_other _ _ _ _ (addr_neS (.inr (fun q => hj q.symm)))).trans (c2 j))
  have c33 : W3.cell? ⟨Q, 3, none⟩ = some (.slice ea' (k + 1) ec') := (hb3.cell (p := ⟨Q, 3, none⟩) hQ).trans (World.cell?_setCell_same _ _ _ ((c2 3).trans h.c3))
  have fin : ∀ j, j ≠ 4 → (W3.setCell ⟨Q, 4, none⟩ (.slice ba' (k + 1) bc')).cell? ⟨Q, j, none⟩ = W3.cell? ⟨Q, j, none⟩ := fun j hj => World.cell?_setCell_other _ _ _ _ (addr_neS (.inr (fun q => hj q.symm)))
  have row2 : ∀ {u : EvV}, wx.ownsRow B 46 2 (.slice u.a u.n u.c) u.n (u.es.flatMap enc2) → (W3.setCell ⟨Q, 4, none⟩ (.slice ba' (k + 1) bc')).ownsRow B 46 2 (.slice u.a u.n u.c) u.n (u.es.flatMap enc2) := fun hu =>
    owns_far (owns_kept ((owns_far (owns_kept (hu.alloc o1) (evx.alloc o1) (by decide) g2) hQ _).alloc o2) (bu2'.alloc o2) (by decide) g3) hQ _
  refine ⟨(fin 0 (by decide)).trans ((c3 0 (by decide)).trans h.c0), (fin 1 (by decide)).trans ((c3 1 (by decide)).trans h.c1), (fin 2 (by decide)).trans ((c3 2 (by decide)).trans h.c2), (fin 3 (by decide)).trans c33, World.cell?_setCell_same _ _ _ ((c3 4 (by decide)).trans h.c4), (fin 5 (by decide)).trans ((c3 5 (by decide)).trans h.c5), fun j => ?_, ?_, fun u hu => ?_, ?_, by simp; simp at hz3; omega, ?_⟩
  · rw [World.frozen?_setCell]
    exact (hb3.frozen (p := ⟨Q, j, none⟩) hQ).trans (by rw [World.frozen?_setCell]; exact (hb2.frozen (p := ⟨Q, j, none⟩) hQ).trans ((hx.frozen (p := ⟨Q, j, none⟩) (show Q < wr.heap.size by omega)).trans (h.f j)))
  · rw [List.flatMap_append]
    have e : [v].flatMap encV = encV v := by simp
    rw [e]
    exact owns_far (owns_kept (h2'.alloc o2) (bu2'.alloc o2) (by decide) g3) hQ _
  · rcases List.mem_append.1 hu with hu | hu
    · exact row2 (owns_ext (h.rows u hu) hx)
    · simp at hu; subst hu; exact row2 hv
  · rw [List.replicate_succ', List.flatMap_append]
    exact owns_far h3 hQ _
  · have l2 : Below w.heap.size w W2 := (Below.then h.lb hx).trans (hb2.mono (by omega))
    have l3 := (l2.setCell (p := ⟨Q, 3, none⟩) hwB (.slice ea' (k + 1) ec')).trans (hb3.mono (by omega))
    exact l3.setCell (p := ⟨Q, 4, none⟩) hwB _
theorem ResB.push {wr wx W2 W3 : World} {Q B Z : Nat} {k : Nat} {ea ba : Option Addr} {ec bc : Nat} {xs ys : List Value} {o1 o2 : Obj} {u1 u2 : Value}
    (h : ResB wr Z) (hZ : Z < B) (hzw : B ≤ wr.heap.size) (hne : Z ≠ Q) (hx : Below wr.heap.size wr wx)
    (e1 : wx.ownsRow B 27 1 (.slice ea k ec) k xs) (g2 : (wx.alloc o1).grownBy W2 (Value.slice ea k ec).ownBlock)
    (e2 : (W2.setCell ⟨Q, 3, none⟩ u1).ownsRow B 3 1 (.slice ba k bc) k ys) (g3 : ((W2.setCell ⟨Q, 3, none⟩ u1).alloc o2).grownBy W3 (Value.slice ba k bc).ownBlock) :
    ResB (W3.setCell ⟨Q, 4, none⟩ u2) Z := by
  have hzx := hx.size
  have hb2 : Below B wx W2 := ((Below.refl B wx).alloc (by omega) o1).trans (grown_below (e1.alloc o1) g2 (by rw [World.size_alloc]; omega))
  have hz2 := hb2.size
  have hb3 : Below B (W2.setCell ⟨Q, 3, none⟩ u1) W3 := ((Below.refl B _).alloc (by simp; omega) o2).trans (grown_below (e2.alloc o2) g3 (by rw [World.size_alloc]; simp; omega))
  have hz3 := hb3.size
  refine ⟨fun j => ?_, fun j => ?_, by simp; simp at hz3; omega⟩
  · rw [World.cell?_setCell_other _ _ _ _ (addr_neS (.inl (fun q => hne q.symm)))]
    refine (hb3.cell (p := ⟨Z, j, none⟩) hZ).trans ((World.cell?_setCell_other _ _ _ _ (addr_neS (.inl (fun q => hne q.symm)))).trans ?_)
    exact (hb2.cell (p := ⟨Z, j, none⟩) hZ).trans ((hx.cell (p := ⟨Z, j, none⟩) h.l).trans (h.c j))
  · rw [World.frozen?_setCell]
    refine (hb3.frozen (p := ⟨Z, j, none⟩) hZ).trans ?_
    rw [World.frozen?_setCell]
    exact (hb2.frozen (p := ⟨Z, j, none⟩) hZ).trans ((hx.frozen (p := ⟨Z, j, none⟩) h.l).trans (h.f j))
end Go.Proofs.YtmahagcghpoekaaGreat
namespace Go.Proofs.YtmahagcghpoekaaGreat
open Go.RowKit
set_option linter.unusedSimpArgs false
set_option linter.unusedVariables false
theorem range_map_succ {α : Type} (f : Nat → α) (k : Nat) : (List.range (k + 1)).map f = (List.range k).map f ++ [f k] := by rw [List.range_succ, List.map_append]; rfl
set_option maxRecDepth 100000 in
set_option maxHeartbeats 8000000 in
theorem runB_any (a : Option Addr) (n c : Nat) (L : List Ta) (F S : Int) (la : Option Addr) (ln lc : Nat) (late : List (List P2)) (w : World) (hL : RdL w a n L) (hv : ValidT L) (hE : EvL w la ln late) :
    Calls Tryz.prog 17 #[.slice a n c, .agg #[.int .i64 F, .int .i64 S], .slice la ln lc] w fun e w' => ∃ H : RunH, e = .returned (runV H F S) ∧ H.tA = a ∧ H.tN = n ∧ H.tC = c ∧ ReadRun w' H (topR L F S late) ∧ Below w.heap.size w w' := by
  have hll := hL.length
  have hn5 := hv.r.len
  rw [hll] at hn5
  have hle := hE.evs.len
  have hles := hE.evs.sm
  have HL := Lib.hid hL; have HVT := Lib.hid hv; have HE := Lib.hid hE.evs; have HLL := Lib.hid hll; have HLE := Lib.hid hle
  have eEv := EEv
  have e1 := E1
  clear hL hv hE hll hle
  go_enter Tryz.func17, Tryz.ntmps17
  go_upto_region 2 with fail
  obtain ⟨w3, hw3⟩ : ∃ x, x = (((w.alloc (.cells #[.int .i64 F, .int .i64 S] 24)).alloc (.cells #[.slice none 0 0, .int .i64 0, .int .i64 0, .slice none 0 0, .slice none 0 0, .slice none 0 0] 29)).alloc (.cells #[.slice a n c, .int .i64 F, .int .i64 S, .slice none 0 0, .slice none 0 0, .slice none 0 0] 29)) := ⟨_, rfl⟩
  rw [← hw3]
  have hb3 : Below w.heap.size w w3 := by rw [hw3]; (repeat' (first | (with_reducible exact Below.refl _ _) | (with_reducible assumption) | (with_reducible refine Below.alloc ?_ ?_ _) | (with_reducible refine Below.drew ?_) | (with_reducible refine Below.draws ?_ _) | (with_reducible refine Below.setCell ?_ ?_ _) | (refine Below.then ?_ (by with_reducible assumption)) | go_size))
  have hq3 : Blk w3 (w.heap.size + 2) #[.slice a n c, .int .i64 F, .int .i64 S, .slice none 0 0, .slice none 0 0, .slice none 0 0] := by rw [hw3]; exact Blk.at _ _ _ _ (by simp)
  have hr3 : ResB w3 (w.heap.size + 1) := by rw [hw3]; exact (Blk.at _ _ _ _ (by simp)).old _
  have hz3 : w.heap.size + 3 = w3.heap.size := by rw [hw3]; simp
  have HM0 : Hid (RunM w w3 (w.heap.size + 2) (w.heap.size + 3) a n c F S 0 [] none 0 none 0) := Lib.hid ⟨hq3.c 0, hq3.c 1, hq3.c 2, hq3.c 3, hq3.c 4, hq3.c 5, hq3.f, World.ownsRow_nil _ _ _ _, by simp, World.ownsRow_nil _ _ _ _, by omega, hb3⟩
  have HR0 := Lib.hid hr3
  clear hw3 hb3 hq3 hr3 hz3
  go_wp2
  go_loopw [8] (fun v wr => ∃ (k : Nat) (g : List EvV) (ea : Option Addr) (ec : Nat) (ba : Option Addr) (bc : Nat), k ≤ n ∧ v = .int .i64 k ∧ RunM w wr (w.heap.size + 2) (w.heap.size + 3) a n c F S k g ea ec ba bc ∧ g.map EvV.es = (List.range k).map (tev L late) ∧ ResB wr (w.heap.size + 1)) (fun v _ => n - (intOf v).toNat)
  case atStart => exact ⟨0, [], none, 0, none, 0, Nat.zero_le _, rfl, HM0.out, rfl, HR0.out⟩
  case round =>
    clear HM0 HR0
    obtain ⟨k, g, ea, ec, ba, bc, hk, rfl, hM, hg, hR⟩ := hrel
    have HM := Lib.hid hM; have HGM := Lib.hid hg; have HRS := Lib.hid hR
    by_cases hkn : k < n
    · obtain ⟨t, b, off, pa, pn, pc, rfl, hb, _, _, t2, t3, t4, _, _, _, htk, _⟩ := (HL.out.ext hM.lb).at_ k hkn
      have hta : taAt L k = t := taAt_of htk
      have htm := List.mem_of_getElem? htk
      have v1 := HVT.out.first t htm
      have v2 := HVT.out.gap t htm
      have v3 := HVT.out.jit t htm
      have hz := hM.sz
      by_cases hkl : k < ln
      · obtain ⟨lb, loff, ra, rn, rc, rfl, hlb, hlc, hRd⟩ := (HE.out.ext hM.lb).at_ k hkl
        have hes : evs t.gap t.jit 12 t.first (evAt late k) = tev L late k := by unfold tev; rw [if_pos (by rw [HLE.out]; exact hkl), hta]
        obtain ⟨es, hes2⟩ : ∃ es, tev L late k = es := ⟨_, rfl⟩
        rw [hes2] at hes
        have HES := Lib.hid hes2
        have HEV : Hid (∀ wz, Below wr.heap.size wr wz → Calls Tryz.prog 43 #[.agg #[.int .i64 t.first, .int .i64 t.gap, .int .i64 t.jit], .slice ra rn rc] wz fun e w' => ∃ a' n' c', e = .returned (.slice a' n' c') ∧ w'.ownsRow wz.heap.size 46 2 (.slice a' n' c') n' (es.flatMap enc2) ∧ Below wz.heap.size wz w') := Lib.hid (fun wz hz => by
          have := eventsB_any t.first t.gap t.jit (by omega) (by omega) (by omega) ra rn rc (evAt late k) wz (hRd.ext hz)
          rw [hes] at this; exact this)
        have hbz := World.block_lt_of_cell? _ _ t2
        simp only [] at hbz
        have M3 := hM.c3; have M4 := hM.c4; have F3 := hM.f 3; have F4 := hM.f 4
        have HC := Lib.hid (And.intro M3 (And.intro M4 (And.intro F3 F4)))
        have HT := Lib.hid (And.intro t2 (And.intro t3 (And.intro t4 hlc)))
        clear hM hg hR hRd htk hta htm hes hes2 M3 M4 F3 F4
        go_upto_region 7 with fail
        go_region_held3 (fun w' => w'.cell? ⟨b, off + k * 6 + 2, none⟩ = some (.int .i64 t.first) ∧ w'.cell? ⟨b, off + k * 6 + 3, none⟩ = some (.int .i64 t.gap) ∧ w'.cell? ⟨b, off + k * 6 + 4, none⟩ = some (.int .i64 t.jit) ∧ w'.cell? ⟨lb, loff + k, none⟩ = some (.slice ra rn rc)) (first | go_keep)
          (first
            | (go_at_call 43; (with_reducible refine (HEV.out _ (by (repeat' (first | (with_reducible exact Below.refl _ _) | (with_reducible assumption) | (with_reducible refine Below.alloc ?_ ?_ _) | (with_reducible refine Below.drew ?_) | (with_reducible refine Below.draws ?_ _) | (with_reducible refine Below.setCell ?_ ?_ _) | (refine Below.then ?_ (by with_reducible assumption)) | go_size)))).mono ?_); rintro e wx ⟨va, vn, vc, rfl, hown, hbx0⟩; have hbx : Below wr.heap.size wr wx := Below.then (show Below wr.heap.size wr _ by (repeat' (first | (with_reducible exact Below.refl _ _) | (with_reducible assumption) | (with_reducible refine Below.alloc ?_ ?_ _) | (with_reducible refine Below.drew ?_) | (with_reducible refine Below.draws ?_ _) | (with_reducible refine Below.setCell ?_ ?_ _) | (refine Below.then ?_ (by with_reducible assumption)) | go_size))) hbx0; have HWX := Lib.hid hbx; have HV := Lib.hid (owns_mono hown (show w.heap.size + 3 ≤ _ by simp; omega)); have r1 := (hbx.cell (p := ⟨b, off + k * 6 + 2, none⟩) hb).trans HT.out.1; have r2 := (hbx.cell (p := ⟨b, off + k * 6 + 3, none⟩) hb).trans HT.out.2.1; have r3 := (hbx.cell (p := ⟨b, off + k * 6 + 4, none⟩) hb).trans HT.out.2.2.1; have r4 := (hbx.cell (p := ⟨lb, loff + k, none⟩) hlb).trans HT.out.2.2.2; clear hown hbx0 hbx))
        have hzq : w.heap.size + 2 < wr.heap.size := by omega
        have x3 := (HWX.out.cell (p := ⟨w.heap.size + 2, 3, none⟩) hzq).trans HC.out.1
        have x4 := (HWX.out.cell (p := ⟨w.heap.size + 2, 4, none⟩) hzq).trans HC.out.2.1
        have xf3 := (HWX.out.frozen (p := ⟨w.heap.size + 2, 3, none⟩) hzq).trans HC.out.2.2.1
        have xf4 := (HWX.out.frozen (p := ⟨w.heap.size + 2, 4, none⟩) hzq).trans HC.out.2.2.2
        have HEX := Lib.hid (owns_ext HM.out.ev HWX.out)
        have HBX := Lib.hid (owns_ext HM.out.bu HWX.out)
        have hzx := HWX.out.size
        clear r1 r2 r3 r4 t2 t3 t4 hlc
        go_wp2_with (first | (at_builtin; refine wpList_pushM (N := W2.heap.size) (B := w.heap.size + 3) (v := .slice ba k bc) (xs := (List.replicate k (0 : Int)).flatMap enc1) (by simp) rfl _ _ _ rfl e1 rfl HBU2.out rfl rfl (by intro u hu; simp at hu; rcases hu with rfl; rfl) (by omega) (by decide) (by simp; omega) ?_; intro ba' bc' W3 hown3 hg3; have hb3 : Below (w.heap.size + 3) (W2.setCell ⟨w.heap.size + 2, 3, none⟩ (.slice ea' (k + 1) ec')) W3 := ((Below.refl (w.heap.size + 3) _).alloc (by simp; omega) _).trans (grown_below (HBU2.out.alloc _) hg3 (by rw [World.size_alloc]; simp; omega)); have hz3 := hb3.size; have v4 := (hb3.cell (p := ⟨w.heap.size + 2, 4, none⟩) (by simp)).trans ((World.cell?_setCell_other W2 ⟨w.heap.size + 2, 3, none⟩ ⟨w.heap.size + 2, 4, none⟩ (.slice ea' (k + 1) ec') (addr_neS (.inr (by decide)))).trans y4); have vf4 := (hb3.frozen (p := ⟨w.heap.size + 2, 4, none⟩) (by simp)).trans ((World.frozen?_setCell W2 ⟨w.heap.size + 2, 3, none⟩ ⟨w.heap.size + 2, 4, none⟩ _).trans yf4); have vz : w.heap.size + 2 < W3.heap.size := (by simp at hz3; omega); have HO3 := Lib.hid hown3; have HG3 := Lib.hid hg3; clear hown3 hg3 hb3) | (at_builtin; refine wpList_pushM (N := wx.heap.size) (B := w.heap.size + 3) (v := .slice ea k ec) (xs := g.flatMap encV) (by simp) rfl _ _ _ rfl eEv rfl HEX.out rfl rfl (by intro u hu; simp at hu; rcases hu with rfl; rfl) (by omega) (by decide) (by omega) ?_; intro ea' ec' W2 hown2 hg2; have hb2 : Below (w.heap.size + 3) wx W2 := ((Below.refl (w.heap.size + 3) wx).alloc (by omega) _).trans (grown_below (HEX.out.alloc _) hg2 (by rw [World.size_alloc]; omega)); have hz2 := hb2.size; have y3 := (hb2.cell (p := ⟨w.heap.size + 2, 3, none⟩) (by simp)).trans x3; have y4 := (hb2.cell (p := ⟨w.heap.size + 2, 4, none⟩) (by simp)).trans x4; have yf3 := (hb2.frozen (p := ⟨w.heap.size + 2, 3, none⟩) (by simp)).trans xf3; have yf4 := (hb2.frozen (p := ⟨w.heap.size + 2, 4, none⟩) (by simp)).trans xf4; have yz : w.heap.size + 2 < W2.heap.size := (by omega); have HO2 := Lib.hid hown2; have HG2 := Lib.hid hg2; have HBU2 := Lib.hid (owns_far (owns_kept (HBX.out.alloc _) (HEX.out.alloc _) (by decide) hg2) (show w.heap.size + 2 < w.heap.size + 3 by omega) (j := 3) (.slice ea' (k + 1) ec')); clear hown2 hg2 hb2)); go_roundw; (case rel => exact ⟨k + 1, g ++ [⟨va, vn, vc, es⟩], ea', ec', ba', bc', hkn, by go_num, HM.out.push (by omega) (by omega) HWX.out HV.out HO2.out HG2.out HO3.out HG3.out, by rw [List.map_append, range_map_succ, HGM.out, ← HES.out]; rfl, HRS.out.push (by omega) HM.out.sz (by omega) HWX.out HEX.out HG2.out HBU2.out HG3.out⟩); (case measure => (simp [intOf]; omega))
      · have hes2 : tev L late k = [] := by unfold tev; rw [if_neg (by rw [HLE.out]; exact hkl)]
        have HES : Hid (tev L late k = []) := Lib.hid hes2
        obtain ⟨wx, hwx⟩ : ∃ wx : World, wx = wr := ⟨_, rfl⟩
        have HWX : Hid (Below wr.heap.size wr wx) := Lib.hid (by rw [hwx]; exact Below.refl _ _)
        have HV : Hid (wx.ownsRow (w.heap.size + 3) 46 2 (.slice none 0 0) 0 (([] : List P2).flatMap enc2)) := Lib.hid (World.ownsRow_nil _ _ _ _)
        have x3 := hM.c3; have x4 := hM.c4; have xf3 := hM.f 3; have xf4 := hM.f 4
        have HEX := Lib.hid (owns_ext HM.out.ev HWX.out)
        have HBX := Lib.hid (owns_ext HM.out.bu HWX.out)
        have hzx := HWX.out.size
        rw [← hwx] at x3 x4 xf3 xf4 ⊢
        clear hM hg hR htk hta htm hes2 t2 t3 t4 hb hwx
        have kl1 : decide (k < ln) = false := by simpa using hkl
        go_wp2_with (first | (at_builtin; refine wpList_pushM (N := W2.heap.size) (B := w.heap.size + 3) (v := .slice ba k bc) (xs := (List.replicate k (0 : Int)).flatMap enc1) (by simp) rfl _ _ _ rfl e1 rfl HBU2.out rfl rfl (by intro u hu; simp at hu; rcases hu with rfl; rfl) (by omega) (by decide) (by simp; omega) ?_; intro ba' bc' W3 hown3 hg3; have hb3 : Below (w.heap.size + 3) (W2.setCell ⟨w.heap.size + 2, 3, none⟩ (.slice ea' (k + 1) ec')) W3 := ((Below.refl (w.heap.size + 3) _).alloc (by simp; omega) _).trans (grown_below (HBU2.out.alloc _) hg3 (by rw [World.size_alloc]; simp; omega)); have hz3 := hb3.size; have v4 := (hb3.cell (p := ⟨w.heap.size + 2, 4, none⟩) (by simp)).trans ((World.cell?_setCell_other W2 ⟨w.heap.size + 2, 3, none⟩ ⟨w.heap.size + 2, 4, none⟩ (.slice ea' (k + 1) ec') (addr_neS (.inr (by decide)))).trans y4); have vf4 := (hb3.frozen (p := ⟨w.heap.size + 2, 4, none⟩) (by simp)).trans ((World.frozen?_setCell W2 ⟨w.heap.size + 2, 3, none⟩ ⟨w.heap.size + 2, 4, none⟩ _).trans yf4); have vz : w.heap.size + 2 < W3.heap.size := (by simp at hz3; omega); have HO3 := Lib.hid hown3; have HG3 := Lib.hid hg3; clear hown3 hg3 hb3) | (at_builtin; refine wpList_pushM (N := wx.heap.size) (B := w.heap.size + 3) (v := .slice ea k ec) (xs := g.flatMap encV) (by simp) rfl _ _ _ rfl eEv rfl HEX.out rfl rfl (by intro u hu; simp at hu; rcases hu with rfl; rfl) (by omega) (by decide) (by omega) ?_; intro ea' ec' W2 hown2 hg2; have hb2 : Below (w.heap.size + 3) wx W2 := ((Below.refl (w.heap.size + 3) wx).alloc (by omega) _).trans (grown_below (HEX.out.alloc _) hg2 (by rw [World.size_alloc]; omega)); have hz2 := hb2.size; have y3 := (hb2.cell (p := ⟨w.heap.size + 2, 3, none⟩) (by simp)).trans x3; have y4 := (hb2.cell (p := ⟨w.heap.size + 2, 4, none⟩) (by simp)).trans x4; have yf3 := (hb2.frozen (p := ⟨w.heap.size + 2, 3, none⟩) (by simp)).trans xf3; have yf4 := (hb2.frozen (p := ⟨w.heap.size + 2, 4, none⟩) (by simp)).trans xf4; have yz : w.heap.size + 2 < W2.heap.size := (by omega); have HO2 := Lib.hid hown2; have HG2 := Lib.hid hg2; have HBU2 := Lib.hid (owns_far (owns_kept (HBX.out.alloc _) (HEX.out.alloc _) (by decide) hg2) (show w.heap.size + 2 < w.heap.size + 3 by omega) (j := 3) (.slice ea' (k + 1) ec')); clear hown2 hg2 hb2)); go_roundw; (case rel => exact ⟨k + 1, g ++ [⟨none, 0, 0, []⟩], ea', ec', ba', bc', hkn, by go_num, HM.out.push (by omega) (by omega) HWX.out HV.out HO2.out HG2.out HO3.out HG3.out, by rw [List.map_append, range_map_succ, HGM.out, ← HES.out]; rfl, HRS.out.push (by omega) HM.out.sz (by omega) HWX.out HEX.out HG2.out HBU2.out HG3.out⟩); (case measure => (simp [intOf]; omega))
    · have hkn2 : k = n := by omega
      subst hkn2
      have c0 := hM.c0; have c1 := hM.c1; have c2 := hM.c2; have c3 := hM.c3; have c4 := hM.c4; have c5 := hM.c5
      have r0 := hR.c 0; have r1 := hR.c 1; have r2 := hR.c 2; have r3 := hR.c 3; have r4 := hR.c 4; have r5 := hR.c 5
      simp at r0 r1 r2 r3 r4 r5
      have f0 := hR.f 0; have f1 := hR.f 1; have f2 := hR.f 2; have f3 := hR.f 3; have f4 := hR.f 4; have f5 := hR.f 5
      have hz := hM.sz
      have hzZ : w.heap.size + 1 < wr.heap.size := by omega
      have hzQ : w.heap.size + 2 < wr.heap.size := by omega
      clear hM hg hR
      go_wp2
      obtain ⟨W6, hW6⟩ : ∃ x, x = ((((((wr.setCell ⟨w.heap.size + 1, 0, none⟩ (.slice a k c)).setCell ⟨w.heap.size + 1, 1, none⟩ (.int .i64 F)).setCell ⟨w.heap.size + 1, 2, none⟩ (.int .i64 S)).setCell ⟨w.heap.size + 1, 3, none⟩ (.slice ea k ec)).setCell ⟨w.heap.size + 1, 4, none⟩ (.slice ba k bc)).setCell ⟨w.heap.size + 1, 5, none⟩ (.slice none 0 0)) := ⟨_, rfl⟩
      have x0 : W6.cell? ⟨w.heap.size + 1, 0, none⟩ = some (.slice a k c) := by rw [hW6]; simp [go_sem, r0]
      have x1 : W6.cell? ⟨w.heap.size + 1, 1, none⟩ = some (.int .i64 F) := by rw [hW6]; simp [go_sem, r1]
      have x2 : W6.cell? ⟨w.heap.size + 1, 2, none⟩ = some (.int .i64 S) := by rw [hW6]; simp [go_sem, r2]
      have x3 : W6.cell? ⟨w.heap.size + 1, 3, none⟩ = some (.slice ea k ec) := by rw [hW6]; simp [go_sem, r3]
      have x4 : W6.cell? ⟨w.heap.size + 1, 4, none⟩ = some (.slice ba k bc) := by rw [hW6]; simp [go_sem, r4]
      have x5 : W6.cell? ⟨w.heap.size + 1, 5, none⟩ = some (.slice none 0 0) := by rw [hW6]; simp [go_sem, r5]
      have far : ∀ {e q m : Nat} {v : Value} {xs : List Value}, wr.ownsRow (w.heap.size + 3) e q v m xs → W6.ownsRow (w.heap.size + 3) e q v m xs := fun h => by
        rw [hW6]
        exact owns_far (owns_far (owns_far (owns_far (owns_far (owns_far h (by omega) _) (by omega) _) (by omega) _) (by omega) _) (by omega) _) (by omega) _
      have hb6 : Below w.heap.size w W6 := by
        rw [hW6]
        exact (((((HM.out.lb.setCell (p := ⟨w.heap.size + 1, 0, none⟩) (by simp) _).setCell (p := ⟨w.heap.size + 1, 1, none⟩) (by simp) _).setCell (p := ⟨w.heap.size + 1, 2, none⟩) (by simp) _).setCell (p := ⟨w.heap.size + 1, 3, none⟩) (by simp) _).setCell (p := ⟨w.heap.size + 1, 4, none⟩) (by simp) _).setCell (p := ⟨w.heap.size + 1, 5, none⟩) (by simp) _
      have hEV := far HM.out.ev
      have hRO : ∀ v ∈ g, W6.ownsRow (w.heap.size + 3) 46 2 (.slice v.a v.n v.c) v.n (v.es.flatMap enc2) := fun v hv => far (HM.out.rows v hv)
      have hBU := far HM.out.bu
      rw [← hW6]
      clear hW6 far
      refine bodyPost_ret (by simp [results, Tryz.results17, go_sem, x0, x1, x2, x3, x4, x5]; rfl) rfl ?_
      refine ⟨⟨a, k, c, ea, k, ec, ba, k, bc, none, 0, 0⟩, rfl, rfl, rfl, rfl, ⟨HL.out.ext hb6, ⟨g, Rd.of_owns encV_len (by decide) hEV, fun v hv => Rd.of_owns enc2_len (by decide) (hRO v hv), ?_⟩, ?_, Rd.nil _ _ _⟩, hb6⟩
      · show g.map EvV.es = topEv L late
        unfold topEv
        rw [HGM.out, HLL.out]
      · show Rd W6 ba k 1 ((List.replicate L.length (0 : Int)).map enc1)
        rw [HLL.out]
        exact ownsI_rd hBU
end Go.Proofs.YtmahagcghpoekaaGreat
namespace Go.Proofs.YtmahagcghpoekaaGreat
open Go.RowKit
set_option linter.unusedSimpArgs false
set_option linter.unusedVariables false
def awR : Rn := ⟨[⟨0, 10, 0, 10, 0, [(2, -1)]⟩], 4, 1, [[(0, 0)]], [0], []⟩
set_option maxRecDepth 100000 in
theorem aw_sim : simR awR 3 = (saneE, 0) := by decide
def awW (w : World) : World := ((((((w.alloc (.cells #[.int .i64 2, .int .i64 (-1)] 55)).alloc (.cells #[.int .i64 0, .int .i64 10, .int .i64 0, .int .i64 10, .int .i64 0, .slice (some ⟨w.heap.size, 0, none⟩) 1 1] 45)).alloc (.cells #[.int .i64 0, .int .i64 10, .int .i64 0, .int .i64 10, .int .i64 0, .slice (some ⟨w.heap.size, 0, none⟩) 1 1] 45)).alloc (.cells #[.int .i64 0, .int .i64 0] 46)).alloc (.cells #[.slice (some ⟨w.heap.size + 3, 0, none⟩) 1 1] 27)).alloc (.cells #[.int .i64 0] 3))
def awH (w : World) : RunH := ⟨some ⟨w.heap.size + 2, 0, none⟩, 1, 1, some ⟨w.heap.size + 4, 0, none⟩, 1, 1, some ⟨w.heap.size + 5, 0, none⟩, 1, 1, none, 0, 0⟩
theorem awW_rd (w : World) : ReadRun (awW w) (awH w) awR := by
  have hz : w.heap.size + 6 = (awW w).heap.size := by simp [awW]
  refine ⟨⟨[⟨0, 10, 0, 10, 0, some ⟨w.heap.size, 0, none⟩, 1, 1, [(2, -1)]⟩], ⟨rd_one _ rfl (by omega) (fun j hj => ?_), fun t ht => ?_⟩, rfl⟩, ⟨[⟨some ⟨w.heap.size + 3, 0, none⟩, 1, 1, [(0, 0)]⟩], rd_one _ rfl (by omega) (fun j hj => ?_), fun v hv => ?_, rfl⟩, rd_one _ rfl (by omega) (fun j hj => ?_), Rd.nil _ _ _⟩
  · match j, hj with
    | 0, _ => simp [awW, encTa, go_sem]
    | 1, _ => simp [awW, encTa, go_sem]
    | 2, _ => simp [awW, encTa, go_sem]
    | 3, _ => simp [awW, encTa, go_sem]
    | 4, _ => simp [awW, encTa, go_sem]
    | 5, _ => simp [awW, encTa, go_sem]
  · simp at ht
    subst ht
    refine ⟨rd_one _ rfl (by omega) (fun j hj => ?_), fun h => by simp at h⟩
    match j, hj with
    | 0, _ => simp [awW, enc2, go_sem]
    | 1, _ => simp [awW, enc2, go_sem]
  · match j, hj with
    | 0, _ => simp [awW, encV, go_sem]
  · simp at hv
    subst hv
    refine rd_one _ rfl (by first | omega | (simp only []; omega)) (fun j hj => ?_)
    match j, hj with
    | 0, _ => simp [awW, enc2, go_sem]
    | 1, _ => simp [awW, enc2, go_sem]
  · match j, hj with
    | 0, _ => simp [awW, enc1, go_sem]
theorem aw_cells {w : World} {B : Nat} {a : Option Addr} {n c : Nat} (h : w.ownsRow B 69 5 (.slice a n c) n (saneE.flatMap encE)) : ∃ g, a = some ⟨g, 0, none⟩ ∧ n = 5 ∧
    w.cell? ⟨g, 0, none⟩ = some (.int .i64 0) ∧ w.cell? ⟨g, 1, none⟩ = some (.int .i64 0) ∧ w.cell? ⟨g, 2, none⟩ = some (.int .i64 1) ∧ w.cell? ⟨g, 3, none⟩ = some (.int .i64 0) ∧ w.cell? ⟨g, 4, none⟩ = some (.int .i64 0) ∧
    w.cell? ⟨g, 20, none⟩ = some (.int .i64 3) ∧ w.cell? ⟨g, 21, none⟩ = some (.int .i64 0) ∧ w.cell? ⟨g, 22, none⟩ = some (.int .i64 5) ∧ w.cell? ⟨g, 23, none⟩ = some (.int .i64 0) ∧ w.cell? ⟨g, 24, none⟩ = some (.int .i64 0) := by
  have hn : n = 5 := by have := (Rd.of_owns encE_len (by decide) h).length; simpa [saneE] using this.symm
  subst hn
  rcases h.2 with ⟨_, h8⟩ | ⟨g, cap, cur, hv, _⟩
  · omega
  · simp at hv
    obtain ⟨rfl, _⟩ := hv
    refine ⟨g, rfl, rfl, ?_, ?_, ?_, ?_, ?_, ?_, ?_, ?_, ?_, ?_⟩ <;> (rw [h.cellAt _ (by decide)]; rfl)
theorem eqEn (a b c d f : Int) (w : World) : (Op.equalIn 10000 69 (.agg #[.int .i64 a, .int .i64 b, .int .i64 c, .int .i64 d, .int .i64 f]) (.agg #[.int .i64 a, .int .i64 b, .int .i64 c, .int .i64 d, .int .i64 f])).run Tryz.prog w = .ok true w := by
  have hS : Tryz.prog.underlying 69 = some (.struct (Tryz.prog.fieldsOf 69)) := by kernel_rfl
  have hp : Tryz.prog.stoodInHeld 69 = false := by kernel_rfl
  have u3 := Tryz.underlying3
  have a3 := Tryz.isAgg3
  have z3 := Tryz.sizeOf3
  rw [show (10000 : Nat) = 9999 + 1 from rfl, run_equalIn_agg w 9999 69 _ _ hS hp]
  simp only [Program.fieldsOf, Tryz.underlying69]
  go_simp
set_option maxRecDepth 100000 in
set_option maxHeartbeats 4000000 in
theorem awake_any (w : World) : Calls Tryz.prog 13 #[] w fun e w' => e = .returned (.bool true) ∧ Below w.heap.size w w' := by
  have hW := awW_rd w
  have hBW : Below w.heap.size w (awW w) := by unfold awW; (repeat' (first | (with_reducible exact Below.refl _ _) | (with_reducible assumption) | (with_reducible refine Below.alloc ?_ ?_ _) | (with_reducible refine Below.drew ?_) | (with_reducible refine Below.draws ?_ _) | (with_reducible refine Below.setCell ?_ ?_ _) | (refine Below.then ?_ (by with_reducible assumption)) | go_size))
  have hS := Sim_is hW aw_sim
  have hq := eqEn 0 0 1 0 0
  have hq2 := eqEn 3 0 5 0 0
  obtain ⟨W6, hW6⟩ : ∃ x, x = awW w := ⟨_, rfl⟩
  rw [← hW6] at hS hBW
  unfold runV awH at hS
  simp only [awR] at hS
  have hW6' := hW6
  unfold awW at hW6'
  have HS := Lib.hid hS; have HB := Lib.hid hBW
  clear hW hS hBW
  go_enter Tryz.func13, Tryz.ntmps13
  go_wp2_with (go_at_call 32; rw [← hW6']; (with_reducible refine HS.out.mono ?_); rintro e w1 ⟨a1, n1, c1, rfl, h1, hb1⟩; obtain ⟨g, rfl, rfl, k0, k1, k2, k3, k4, k20, k21, k22, k23, k24⟩ := aw_cells h1; have B1 := Lib.hid (Below.then HB.out hb1); clear h1 hb1)
  go_ret
  exact ⟨rfl, B1.out⟩
end Go.Proofs.YtmahagcghpoekaaGreat
namespace Go.Proofs.YtmahagcghpoekaaGreat
open Go.RowKit
set_option linter.unusedSimpArgs false
set_option linter.unusedVariables false
theorem evs_ok {g j : Int} (hg : 1 ≤ g ∧ g ≤ 10000) (hj : 0 ≤ j ∧ j ≤ 10000) : ∀ (f : Nat) (t : Int) (xs : List P2) (p : Option Int), 0 ≤ t → (∀ q, p = some q → q ≤ t) → okFrom p (evs g j f t xs) = true
  | 0, _, _, _, _, _ => by simp [evs, okFrom]
  | f + 1, _, [], _, _, _ => by simp [evs, okFrom]
  | f + 1, t, x :: xs, p, h, hp => by
    have hfine := evs_fine hg hj (f + 1) t (x :: xs) h
    rw [evs] at hfine ⊢
    split
    · rename_i ht
      rw [if_pos ht] at hfine
      have h1 := low31_bd x.1
      have hx := hfine (t + low31 x.1, low1023 x.2 % (j + 1)) (by simp)
      simp only [] at hx
      rw [okFrom]
      have hgt : gtP p (t + low31 x.1) = true := by
        cases p with
        | none => rfl
        | some q =>
          have := hp q rfl
          unfold gtP
          simp; omega
      rw [hgt, Bool.and_true, Bool.and_eq_true, Bool.and_eq_true, inB_iff, inB_iff]
      refine ⟨⟨by simp only []; omega, by simp only []; omega⟩, evs_ok hg hj f _ xs _ (by omega) (fun q hq => ?_)⟩
      simp at hq; omega
    · simp [okFrom]
theorem topEv_get {L : List Ta} {late : List (List P2)} {i : Nat} (h : i < L.length) : (topEv L late)[i]? = some (tev L late i) := by simp [topEv, h]
theorem topEv_len (L : List Ta) (late : List (List P2)) : (topEv L late).length = L.length := by simp [topEv]
theorem tev_ok {L : List Ta} (hv : ValidT L) {late : List (List P2)} {i : Nat} (hi : i < L.length) : evB (tev L late i) = true ∧ allowGo (taAt L i).gap (taAt L i).jit (taAt L i).first (tev L late i) = true := by
  have hm := ta_mem hi
  have h1 := hv.first _ hm
  have h2 := hv.gap _ hm
  have h3 := hv.jit _ hm
  unfold tev
  split
  · refine ⟨?_, evs_allowed h3.1 12 _ _ _ (Int.le_refl _)⟩
    unfold evB
    rw [evs_ok h2 h3 12 _ _ none h1.1 (by simp), Bool.true_and, decide_eq_true_eq]
    have := evs_len (taAt L i).gap (taAt L i).jit 12 (taAt L i).first (evAt late i)
    omega
  · exact ⟨rfl, by simp [allowGo]⟩
theorem topR_run {L : List Ta} (hl : validL L = true) {F S : Int} (hs : supB F S = true) (late : List (List P2)) : Go.Proofs.YtmahagcghpoekaaGreat.runB (topR L F S late) = true := by
  have hv := valid_of hl
  unfold Go.Proofs.YtmahagcghpoekaaGreat.runB topR
  simp only [hl, hs, topEv_len, List.length_replicate, decide_true, Bool.true_and, List.length_nil, List.all_nil, Bool.and_true]
  rw [Bool.and_eq_true, Bool.and_eq_true, List.all_eq_true, List.all_eq_true]
  refine ⟨by simp, fun l hl => ?_, fun b hb => ?_⟩
  · unfold topEv at hl
    obtain ⟨i, hi, rfl⟩ := List.mem_map.1 hl
    exact (tev_ok hv (List.mem_range.1 hi)).1
  · have := (List.mem_replicate.1 hb).2
    subst this
    exact inB_iff.2 (by omega)
theorem topR_alw {L : List Ta} (hl : validL L = true) {F S : Int} (hs : supB F S = true) (late : List (List P2)) : alwR (topR L F S late) = (true, 0) := by
  have hv := valid_of hl
  unfold alwR
  rw [topR_run hl hs late, if_pos rfl]
  have key : ∀ f i, i + f = L.length → alwF (topR L F S late) f i = true := by
    intro f
    induction f with
    | zero => intro i _; rfl
    | succ f ih =>
      intro i h
      rw [alwF, if_pos]
      · exact ih (i + 1) (by omega)
      · have hi : i < L.length := by omega
        refine ⟨?_, ?_⟩
        · unfold mayB evA
          show allowGo _ _ _ (((topEv L late)[i]?).getD []) = true
          rw [topEv_get hi]
          exact (tev_ok hv hi).2
        · unfold lowB buA
          show (decide (0 < ((List.replicate L.length (0 : Int))[i]?).getD 0) && _) = false
          rw [List.getElem?_replicate, if_pos hi]
          rfl
  have := key L.length 0 (by omega)
  show (alwF (topR L F S late) L.length 0, (0 : Int)) = (true, 0)
  rw [this]
theorem topR_meets {L : List Ta} (hl : validL L = true) {F S : Int} (hs : supB F S = true) (late : List (List P2)) (ha : accB L F S = true) {t : Int} (ht : 0 ≤ t ∧ t ≤ 2000) : meetsR (topR L F S late) t = (true, 0) :=
  meets_all (topR_run hl hs late) ht (topR_alw hl hs late) ha
end Go.Proofs.YtmahagcghpoekaaGreat
namespace Go.Proofs.YtmahagcghpoekaaGreat
open Go.RowKit
set_option linter.unusedSimpArgs false
set_option linter.unusedVariables false
theorem meets_late {R : Rn} {t x y z : Int} (h : lateR R t = (x, y, z)) : (meetsR R t).1 = (z == 0) ∧ (meetsR R t).2 = (if z = 1 then 1 else 0) := by
  unfold lateR at h
  unfold meetsR
  split at h
  · rename_i hc
    rw [if_pos hc]
    split at h
    · rename_i h0
      obtain rfl : 15 = z := congrArg (fun p => p.2.2) h
      refine ⟨?_, rfl⟩
      show decide ((lateF R t).2.1 < 0) = _
      rw [decide_eq_false (by omega)]; rfl
    · rename_i h0
      obtain rfl : 0 = z := congrArg (fun p => p.2.2) h
      refine ⟨?_, rfl⟩
      show decide ((lateF R t).2.1 < 0) = _
      rw [decide_eq_true (by omega)]; rfl
  · rename_i hc
    rw [if_neg hc]
    obtain rfl : 1 = z := congrArg (fun p => p.2.2) h
    exact ⟨rfl, rfl⟩
theorem Late_is {H : RunH} {R : Rn} {t x y z : Int} {w : World} (hR : ReadRun w H R) (h : lateR R t = (x, y, z)) : Calls Tryz.prog 44 #[runV H R.fr R.sl, .int .i64 t] w fun e w' => e = rIII x y z ∧ Below w.heap.size w w' := by
  have := Late_any H R t w hR
  rw [h] at this; exact this
theorem Meets_any (H : RunH) (R : Rn) (t : Int) (w : World) (hR : ReadRun w H R) : Calls Tryz.prog 18 #[runV H R.fr R.sl, .int .i64 t] w fun e w' => e = .returned (.tuple #[.bool (meetsR R t).1, .int .i64 (meetsR R t).2]) ∧ Below w.heap.size w w' := by
  obtain ⟨x, y, z, hL⟩ : ∃ x y z, lateR R t = (x, y, z) := ⟨_, _, _, rfl⟩
  obtain ⟨m1, m2⟩ := meets_late hL
  rw [m1, m2]
  have HL := Lib.hid (fun w1 (hb : Below w.heap.size w w1) => Late_is (hR.ext hb) hL)
  obtain ⟨fr, hfr⟩ : ∃ x, R.fr = x := ⟨_, rfl⟩
  obtain ⟨sl_, hsl⟩ : ∃ x, R.sl = x := ⟨_, rfl⟩
  rw [hfr, hsl] at HL ⊢
  obtain ⟨tA, tN, tC, eA, eN, eC, bA, bN, bC, sA, sN, sC⟩ := H
  unfold runV rIII at HL
  unfold runV
  simp only [] at HL ⊢
  clear hR hfr hsl hL m1 m2
  by_cases h1 : z = 1
  · subst h1
    go_enter Tryz.func18, Tryz.ntmps18
    go_wp2_with (go_at_call 44; (with_reducible refine (HL.out _ (by (repeat' (first | (with_reducible exact Below.refl _ _) | (with_reducible assumption) | (with_reducible refine Below.alloc ?_ ?_ _) | (with_reducible refine Below.drew ?_) | (with_reducible refine Below.draws ?_ _) | (with_reducible refine Below.setCell ?_ ?_ _) | (refine Below.then ?_ (by with_reducible assumption)) | go_size)))).mono ?_); rintro e w2 ⟨rfl, hb2⟩)
    go_ret2
    exact ⟨rfl, Below.trans (by (repeat' (first | (with_reducible exact Below.refl _ _) | (with_reducible assumption) | (with_reducible refine Below.alloc ?_ ?_ _) | (with_reducible refine Below.drew ?_) | (with_reducible refine Below.draws ?_ _) | (with_reducible refine Below.setCell ?_ ?_ _) | (refine Below.then ?_ (by with_reducible assumption)) | go_size))) (hb2.mono (by simp))⟩
  · have h1' : (z == 1) = false := by simpa using h1
    have e : (if z = 1 then (1 : Int) else 0) = 0 := if_neg h1
    rw [e]
    go_enter Tryz.func18, Tryz.ntmps18
    go_wp2_with (go_at_call 44; (with_reducible refine (HL.out _ (by (repeat' (first | (with_reducible exact Below.refl _ _) | (with_reducible assumption) | (with_reducible refine Below.alloc ?_ ?_ _) | (with_reducible refine Below.drew ?_) | (with_reducible refine Below.draws ?_ _) | (with_reducible refine Below.setCell ?_ ?_ _) | (refine Below.then ?_ (by with_reducible assumption)) | go_size)))).mono ?_); rintro e w2 ⟨rfl, hb2⟩)
    go_ret2
    exact ⟨rfl, Below.trans (by (repeat' (first | (with_reducible exact Below.refl _ _) | (with_reducible assumption) | (with_reducible refine Below.alloc ?_ ?_ _) | (with_reducible refine Below.drew ?_) | (with_reducible refine Below.draws ?_ _) | (with_reducible refine Below.setCell ?_ ?_ _) | (refine Below.then ?_ (by with_reducible assumption)) | go_size))) (hb2.mono (by simp))⟩
end Go.Proofs.YtmahagcghpoekaaGreat
