/- Slack: the contracts of the closures of raised. The conditions: the tasks read as named and are valid. -/
import Derived.Test.YtabbmnnohnfbeaaRsSlk
import Derived.BigRegion
import Derived.Deep.RegionWith
namespace Go.Proofs.Ytabbmnnohnfbeaa
open Go.RowKit
set_option linter.unusedSimpArgs false
set_option linter.unusedVariables false
theorem eqArr (a b x y : Int) (w : World) : (Op.equalIn 10000 74 (.agg #[.int .i64 a, .int .i64 b]) (.agg #[.int .i64 x, .int .i64 y])).run Try.prog w = .ok (a == x && b == y) w :=
  equalIn_pair 74 3 9998 Try.underlying74 Try.underlying3 Try.sizeOf3 Try.isAgg3 a b x y w
theorem Blockers_is' {a : Option Addr} {n c : Nat} {L : List Ta} {t x : Int} {bs : List P2} {w : World} (hL : RdL w a n L) (h : blksR L t = (bs, x)) :
    Calls Try.prog 120 #[.slice a n c, .int .i64 t] w (OutBE w.heap.size w bs x) := by
  have := Blockers_any a n c L t w hL
  rw [h] at this; exact this
/-- the first piece's ticks -/
def firstN (L : List Ta) (t : Nat) : Int := ticksAt L ((t : Int), 0)
/-- what raised has captured -/
structure SlkC (L : List Ta) (t : Nat) (m : Int) (a : Option Addr) (n c lb tb gb mb : Nat) (w : World) : Prop where
  l0 : w.cell? ⟨lb, 0, none⟩ = some (.slice a n c)
  t0 : w.cell? ⟨tb, 0, none⟩ = some (.int .i64 t)
  g0 : w.cell? ⟨gb, 0, none⟩ = some (.int .i64 (firstN L t + m))
  m0 : w.cell? ⟨mb, 0, none⟩ = some (.int .i64 m)
  rd : RdL w a n L
theorem keep_cell' {w w' : World} (hb : Below w.heap.size w w') {b o : Nat} {v : Value} (h : w.cell? ⟨b, o, none⟩ = some v) : w'.cell? ⟨b, o, none⟩ = some v := (hb.cell (p := ⟨b, o, none⟩) (World.block_lt_of_cell? w _ h)).trans h
theorem SlkC.ext {L : List Ta} {t : Nat} {m : Int} {a : Option Addr} {n c lb tb gb mb : Nat} {w w' : World} (h : SlkC L t m a n c lb tb gb mb w) (hb : Below w.heap.size w w') : SlkC L t m a n c lb tb gb mb w' :=
  ⟨keep_cell' hb h.l0, keep_cell' hb h.t0, keep_cell' hb h.g0, keep_cell' hb h.m0, h.rd.ext hb⟩
theorem tick_long {L : List Ta} {t : Nat} (ht : t < L.length) {m : Int} {k : Int} {b : P2} (hb : IsBlk L k b) : ticksAt (longL L t m) b = if b.1 = (t : Int) ∧ b.2 = 0 then firstN L t + m else ticksAt L b := by
  obtain ⟨x, y⟩ := b
  have h0 := hb.j0; have h1 := hb.k0; have h2 := hb.k1
  simp only [] at h0 h1 h2
  obtain ⟨i, rfl⟩ := Int.eq_ofNat_of_zero_le h0
  obtain ⟨j, rfl⟩ := Int.eq_ofNat_of_zero_le h1
  have hj : j < (taAt L i).pcs.length := by omega
  unfold ticksAt
  rw [longL_at L ht]
  by_cases e : i = t
  · subst e
    simp only [Int.toNat_natCast, if_pos, longT]
    rw [longP_get _ m j _ (List.getElem?_eq_getElem hj), List.getElem?_eq_getElem hj]
    by_cases q : j = 0
    · subst q
      simp [firstN, ticksAt, List.getElem?_eq_getElem hj]
    · have : ¬ ((i : Int) = (i : Int) ∧ (j : Int) = 0) := by omega
      simp [q]
  · have : ¬ ((i : Int) = (t : Int) ∧ (j : Int) = 0) := by omega
    simp only [Int.toNat_natCast, if_neg e, if_neg this]
theorem foldM_cons {L : List Ta} {b : P2} {bs : List P2} {s : Int} : (b :: bs).foldl (fun m b => max m (ticksAt L b)) s = bs.foldl (fun m b => max m (ticksAt L b)) (max s (ticksAt L b)) := rfl
theorem tick_bd {L : List Ta} (hv : Right L) {k : Int} {b : P2} (h1 : IsBlk L k b) : 1 ≤ ticksAt L b ∧ ticksAt L b ≤ 200 := by
  have hm := taAt_mem' h1.j0 h1.j1
  have hk := h1.k1
  have hk0 := h1.k0
  have e : (taAt L b.1).pcs[b.2.toNat]? = some ((taAt L b.1).pcs[b.2.toNat]'(by omega)) := List.getElem?_eq_getElem (by omega)
  have := (hv.piece _ hm _ (List.mem_of_getElem? e)).1
  rw [ticksAt, e]; exact this
theorem first_bd {L : List Ta} (hv : Right L) {t : Nat} (ht : t < L.length) : 1 ≤ firstN L t ∧ firstN L t ≤ 200 := by
  have hm : taAt L t ∈ L := taAt_mem' (by omega) (by omega)
  have hk := (hv.pcs _ hm).1
  have e : (taAt L t).pcs[0]? = some ((taAt L t).pcs[0]'(by omega)) := List.getElem?_eq_getElem (by omega)
  have := (hv.piece _ hm _ (List.mem_of_getElem? e)).1
  unfold firstN ticksAt
  simp only [Int.toNat_zero]
  rw [e]; exact this
set_option maxRecDepth 100000 in
set_option maxHeartbeats 4000000 in
theorem locked_any (a : Option Addr) (n c lb tb gb mb t k : Nat) (m : Int) (L : List Ta) (w : World) (hv : ValidT L) (ht : t < n) (hk : k < n) (h0 : 0 ≤ m ∧ m ≤ 200) (hc : SlkC L t m a n c lb tb gb mb w) :
    Calls Try.prog 119 #[.int .i64 (k : Nat), .pointer (some ⟨lb, 0, none⟩), .pointer (some ⟨tb, 0, none⟩), .pointer (some ⟨gb, 0, none⟩)] w fun e w' => e = .returned (.int .i64 (blockN (longL L t m) k)) ∧ Below w.heap.size w w' := by
  have hll := hc.rd.length
  have htl : t < L.length := by omega
  obtain ⟨R, hR⟩ : ∃ R, blockN (longL L t m) k = R := ⟨_, rfl⟩
  obtain ⟨bs, hbs⟩ : ∃ bs, blockL L k = bs := ⟨_, rfl⟩
  obtain ⟨fn, hfn⟩ : ∃ x, firstN L t = x := ⟨_, rfl⟩
  have hA : (bs.drop 0).foldl (fun m' b => max m' (ticksAt (longL L t m) b)) 0 = R := by
    rw [← hR, blockN, (longL_same L htl m).blockL, hbs]; rfl
  have HA := Lib.hid hA
  have HIB : Hid (∀ b ∈ bs, IsBlk L k b) := Lib.hid (fun b hb => blockL_mem (by rw [hbs]; exact hb))
  have HBS : Hid (blksR L k = (bs, 0)) := Lib.hid (by rw [blksR, isTk_iff.2 ⟨hv.rb, by omega, by omega⟩, hbs]; rfl)
  have hfb := first_bd hv.r htl
  rw [hfn] at hfb
  have hl0 := hc.l0; have ht0 := hc.t0; have hg0 := hc.g0
  rw [hfn] at hg0
  have hfm : 1 ≤ fn + m := by omega
  have HTL : Hid (∀ b ∈ bs, ticksAt (longL L t m) b = if b.1 = (t : Int) ∧ b.2 = 0 then fn + m else ticksAt L b) := Lib.hid (fun b hb => by rw [← hfn]; exact tick_long htl (HIB.out b hb))
  have HTB : Hid (∀ b ∈ bs, 1 ≤ ticksAt L b ∧ ticksAt L b ≤ 200) := Lib.hid (fun b hb => tick_bd hv.r (HIB.out b hb))
  have HV := Lib.hid hv; have HC := Lib.hid hc; have HLL := Lib.hid hll
  have hEq := eqArr
  rw [hR]
  clear hv hc hR hbs hfn hA hll
  go_enter Try.func119, Try.ntmps119
  go_wp2_with (go_at_call 120; (with_reducible refine (Blockers_is' HC.out.rd HBS.out).mono ?_); rintro e w1 ⟨a1, n1, c1, rfl, ho1, hb1⟩; have R1 := Lib.hid (ownsP_rd ho1); have B1 := Lib.hid hb1; clear ho1 hb1)
  have hs1 := R1.out.small
  have HN1 := Lib.hid R1.out.length
  go_loopw [6, 20] (fun v i wr => ∃ (j : Nat) (s : Int), j ≤ n1 ∧ v = .int .i64 s ∧ i = .int .i64 j ∧ 0 ≤ s ∧ (bs.drop j).foldl (fun m' b => max m' (ticksAt (longL L t m) b)) s = R ∧ Below w1.heap.size w1 wr) (fun _ i _ => n1 - (intOf i).toNat)
  case atStart => exact ⟨0, 0, Nat.zero_le _, rfl, rfl, Int.le_refl _, HA.out, Below.refl _ _⟩
  case round =>
    clear HA
    obtain ⟨j, s, hj, rfl, rfl, hs, he, hB⟩ := hrel
    have HE := Lib.hid he; have HB := Lib.hid hB
    clear he hB
    by_cases hlt : j < n1
    · obtain ⟨x, y, b1, o1, rfl, hb1, x0, x1, hg, HD⟩ := (R1.out.ext HB.out).pc_at j hlt
      have hmem := List.mem_of_getElem? hg
      have hib := HIB.out _ hmem
      have hE := HE.out
      rw [HD.out, foldM_cons, HTL.out _ hmem] at hE
      have hi0 := hib.j0; have hi1 := hib.j1; have hi2 := hib.k0; have hi3 := hib.k1
      simp only [] at hi0 hi1 hi2 hi3
      obtain ⟨p, rfl⟩ := Int.eq_ofNat_of_zero_le hi0
      obtain ⟨q, rfl⟩ := Int.eq_ofNat_of_zero_le hi2
      have hW : Below w.heap.size w wr := Below.then B1.out HB.out
      have HCr := HC.out.ext hW
      obtain ⟨u, b2, off, pa, pn, pc, rfl, hb2, hgu, hpl, HK⟩ := HCr.rd.cells p (by have := HLL.out; omega)
      obtain ⟨d0, d1, d2, d3, d4, d5, hbw, hpp⟩ := HK.out wr (Below.refl _ _)
      have hqn : q < pn := by rw [← hpl]; rw [taAt_of hgu] at hi3; omega
      obtain ⟨pt, py, b3, o3, rfl, hb3, z0, z1, hgp, _⟩ := hpp.pc_at q hqn
      have htk : ticksAt L ((p : Int), (q : Int)) = pt := by rw [ticksAt, taAt_of hgu, Int.toNat_natCast, hgp]; rfl
      have htb := HTB.out _ hmem
      rw [htk] at htb hE
      have e0 := HCr.l0; have e1 := HCr.t0; have e2 := HCr.g0
      have HEQ := Lib.hid hE
      have HWr := Lib.hid hW
      have hf2 : wr.cell? ⟨gb, 0, none⟩ = some (.int .i64 (fn + m)) := keep_cell' hW hg0
      have l1 := World.block_lt_of_cell? wr _ e0
      have l2 := World.block_lt_of_cell? wr _ e1
      have l3 := World.block_lt_of_cell? wr _ hf2
      simp only [] at l1 l2 l3
      have n1' : ¬ lb = wr.heap.size := by omega
      have n2' : ¬ tb = wr.heap.size := by omega
      have n3' : ¬ gb = wr.heap.size := by omega
      have n4' : ¬ b2 = wr.heap.size := by omega
      have n5' : ¬ b3 = wr.heap.size := by omega
      clear hE hg HD hib hmem HCr hpp hgu htk hgp e2 hW hg0 ht0 hl0 HE
      have hpn : p < n := by have := HLL.out; omega
      have hmx : ∀ z : Int, 0 ≤ z → z ≤ max s z := fun z hz => by omega
      by_cases hc1 : p = t ∧ q = 0
      · obtain ⟨rfl, rfl⟩ := hc1
        have z0' : wr.cell? ⟨b3, o3, none⟩ = some (.int .i64 pt) := by simpa using z0
        have x1' : wr.cell? ⟨b1, o1 + j * 2 + 1, none⟩ = some (.int .i64 0) := by simpa using x1
        clear z0 x1
        have hE := HEQ.out
        rw [if_pos ⟨rfl, by simp⟩] at hE
        have HE2 := Lib.hid hE
        clear hE HEQ
        go_wp2_with fail
        go_region
        go_wp2_with fail
        go_roundw
        case rel => exact ⟨j + 1, max s (fn + m), by omega, rfl, by go_num, by omega, HE2.out, Below.then HB.out (by (repeat' (first | (with_reducible exact Below.refl _ _) | (with_reducible assumption) | (with_reducible refine Below.alloc ?_ ?_ _) | (with_reducible refine Below.drew ?_) | (with_reducible refine Below.draws ?_ _) | (with_reducible refine Below.setCell ?_ ?_ _) | (refine Below.then ?_ (by with_reducible assumption)) | go_size)))⟩
        case measure => simp [intOf]; omega
      · have hE := HEQ.out
        rw [if_neg (show ¬ ((p : Int) = (t : Int) ∧ (q : Int) = 0) by omega)] at hE
        have HE2 := Lib.hid hE
        have hcb : ((p : Int) == (t : Int) && (q : Int) == 0) = false := by
          rw [Bool.and_eq_false_iff]
          by_cases e : p = t
          · right; simp; omega
          · left; simp; omega
        clear hE HEQ
        go_wp2_with fail
        go_region
        go_wp2_with fail
        go_roundw
        case rel => exact ⟨j + 1, max s pt, by omega, rfl, by go_num, by omega, HE2.out, Below.then HB.out (by (repeat' (first | (with_reducible exact Below.refl _ _) | (with_reducible assumption) | (with_reducible refine Below.alloc ?_ ?_ _) | (with_reducible refine Below.drew ?_) | (with_reducible refine Below.draws ?_ _) | (with_reducible refine Below.setCell ?_ ?_ _) | (refine Below.then ?_ (by with_reducible assumption)) | go_size)))⟩
        case measure => simp [intOf]; omega
    · have hE := HE.out
      rw [List.drop_of_length_le (by rw [HN1.out]; omega)] at hE
      obtain rfl : s = R := hE
      go_wp2
      go_ret
      exact ⟨rfl, Below.then B1.out HB.out⟩
theorem locked_is {a : Option Addr} {n c lb tb gb mb t k : Nat} {m x : Int} {L : List Ta} {w : World} (hv : ValidT L) (ht : t < n) (hk : k < n) (h0 : 0 ≤ m ∧ m ≤ 200) (hc : SlkC L t m a n c lb tb gb mb w) (h : blockN (longL L t m) k = x) :
    Calls Try.prog 119 #[.int .i64 (k : Nat), .pointer (some ⟨lb, 0, none⟩), .pointer (some ⟨tb, 0, none⟩), .pointer (some ⟨gb, 0, none⟩)] w fun e w' => e = .returned (.int .i64 x) ∧ Below w.heap.size w w' := by subst h; exact locked_any a n c lb tb gb mb t k m L w hv ht hk h0 hc
theorem cost_long {L : List Ta} (hv : Right L) {t : Nat} (ht : t < L.length) (m : Int) (k : Nat) : costT (taAt (longL L t m) k) = if k = t then costT (taAt L k) + m else costT (taAt L k) := by
  rw [longL_at L ht, Int.toNat_natCast]
  split
  · rename_i e; subst e
    have hm : taAt L k ∈ L := taAt_mem' (by omega) (by omega)
    have := (hv.pcs _ hm).1
    unfold costT longT
    simp only []
    rw [longP_cost _ _ (by intro e; rw [e] at this; simp at this)]
  · rfl
set_option maxRecDepth 100000 in
set_option maxHeartbeats 4000000 in
theorem costs_any (a : Option Addr) (n c lb tb gb mb t k : Nat) (m : Int) (L : List Ta) (w : World) (hv : ValidT L) (ht : t < n) (hk : k < n) (h0 : 0 ≤ m ∧ m ≤ 200) (hc : SlkC L t m a n c lb tb gb mb w) :
    Calls Try.prog 121 #[.int .i64 (k : Nat), .pointer (some ⟨tb, 0, none⟩), .pointer (some ⟨lb, 0, none⟩), .pointer (some ⟨mb, 0, none⟩)] w fun e w' => e = .returned (.int .i64 (costT (taAt (longL L t m) k))) ∧ Below w.heap.size w w' := by
  have hll := hc.rd.length
  rw [cost_long hv.r (by omega) m k]
  obtain ⟨u, b, off, pa, pn, pc, rfl, hb, hg, hpl, HK⟩ := hc.rd.cells k hk
  rw [taAt_of hg]
  have hum := List.mem_of_getElem? hg
  have hpn := hv.r.pcs u hum
  rw [hpl] at hpn
  have HPV : Hid (∀ p ∈ u.pcs, 1 ≤ p.1 ∧ p.1 ≤ 200) := Lib.hid (fun p hp => (hv.r.piece u hum p hp).1)
  obtain ⟨ct, hct⟩ : ∃ x, costT u = x := ⟨_, rfl⟩
  have hcb := costT_bd hv.r hum
  rw [hct] at hcb ⊢
  have HCT := Lib.hid hct
  have hl0 := hc.l0; have ht0 := hc.t0; have hm0 := hc.m0
  obtain ⟨d0, d1, d2, d3, d4, d5, hbw, hpp⟩ := HK.out w (Below.refl _ _)
  have HPP := Lib.hid hpp
  have HM0 := Lib.hid hm0
  clear hc hv hg hum hpl hct hpp hll
  by_cases e : k = t
  · subst e
    rw [if_pos rfl]
    have hwr : IntKind.i64.wrap (ct + m) = ct + m := IntWalk.i64_in _ (by omega)
    have l1 := World.block_lt_of_cell? w _ hm0
    simp only [] at l1
    go_enter Try.func121, Try.ntmps121
    go_wp2_with fail
    go_region_with (go_at_call 69; (with_reducible refine (bcost_is (HPP.out.ext (by (repeat' (first | (with_reducible exact Below.refl _ _) | (with_reducible assumption) | (with_reducible refine Below.alloc ?_ ?_ _) | (with_reducible refine Below.drew ?_) | (with_reducible refine Below.draws ?_ _) | (with_reducible refine Below.setCell ?_ ?_ _) | (refine Below.then ?_ (by with_reducible assumption)) | go_size)))) HPV.out hpn.2 HCT.out).mono ?_); rintro e w1 ⟨rfl, hb1⟩; have B1 := Lib.hid hb1; have k0 := keep_cell' hb1 (b := mb) (o := 0) (v := .int .i64 m) (by simp [go_sem, *]); clear hb1)
    all_goals
      go_wp2_with fail
      go_ret
      exact ⟨rfl, Below.then (by (repeat' (first | (with_reducible exact Below.refl _ _) | (with_reducible assumption) | (with_reducible refine Below.alloc ?_ ?_ _) | (with_reducible refine Below.drew ?_) | (with_reducible refine Below.draws ?_ _) | (with_reducible refine Below.setCell ?_ ?_ _) | (refine Below.then ?_ (by with_reducible assumption)) | go_size))) B1.out⟩
  · rw [if_neg e]
    have e' : ((k : Int) == (t : Int)) = false := by simp; omega
    go_enter Try.func121, Try.ntmps121
    go_wp2_with (go_at_call 69; (with_reducible refine (bcost_is (HPP.out.ext (by (repeat' (first | (with_reducible exact Below.refl _ _) | (with_reducible assumption) | (with_reducible refine Below.alloc ?_ ?_ _) | (with_reducible refine Below.drew ?_) | (with_reducible refine Below.draws ?_ _) | (with_reducible refine Below.setCell ?_ ?_ _) | (refine Below.then ?_ (by with_reducible assumption)) | go_size)))) HPV.out hpn.2 HCT.out).mono ?_); rintro e w1 ⟨rfl, hb1⟩; have B1 := Lib.hid hb1; clear hb1)
    go_ret
    exact ⟨rfl, B1.out⟩
theorem costs_is {a : Option Addr} {n c lb tb gb mb t k : Nat} {m x : Int} {L : List Ta} {w : World} (hv : ValidT L) (ht : t < n) (hk : k < n) (h0 : 0 ≤ m ∧ m ≤ 200) (hc : SlkC L t m a n c lb tb gb mb w) (h : costT (taAt (longL L t m) k) = x) :
    Calls Try.prog 121 #[.int .i64 (k : Nat), .pointer (some ⟨tb, 0, none⟩), .pointer (some ⟨lb, 0, none⟩), .pointer (some ⟨mb, 0, none⟩)] w fun e w' => e = .returned (.int .i64 x) ∧ Below w.heap.size w w' := by subst h; exact costs_any a n c lb tb gb mb t k m L w hv ht hk h0 hc
end Go.Proofs.Ytabbmnnohnfbeaa
