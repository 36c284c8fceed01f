/- The contracts of demand of response (a closure) and of its reference. The conditions: the tasks read as named and are valid. The contracts of blocking and demand of the reference. The conditions: the tasks read as named and are valid. The contracts of window, response, meets, accepted, right of response and window, meets, accepted, ready of its reference. The conditions: the tasks read as named and are valid, the supply too. The contracts of response, meets, accepted, right of response and of meets, accepted, ready of its reference. The conditions: the tasks read as named; valid where named. The contracts of Accept, Window, Slice, Cost, Demand of response and of its reference. The conditions: the tasks read as named. The contracts of Cost, of both sides. The conditions: the tasks read as named. Contracts of slices.IndexFunc and slices.ContainsFunc at events and at lists of events. The conditions: what is asked of the predicate's calls. -/
import Derived.Test.YtmahagcghpoekaaGreatMg9
import Derived.Test.YtmahagcghpoekaaGreatMg1
import Derived.Shelf.GgClosure.Gives
namespace Go.Proofs.YtmahagcghpoekaaGreat
open Go.RowKit
set_option linter.unusedSimpArgs false
set_option linter.unusedVariables false
/-- the place of x -/
theorem indexR_any (a : Option Addr) (n c p : Nat) (xs : List Int) (x : Int) (w : World) (hR : Rd w a n 1 (xs.map enc1)) (hx : xs[p]? = some x) (hn : xs.Nodup) :
    Calls Tryz.prog 99 #[.slice a n c, .int .i64 x] w fun e w' => e = .returned (.int .i64 (p : Nat)) ∧ w = w' := by
  have hs := hR.small
  have hpl := (List.getElem?_eq_some_iff.1 hx).1
  rw [hR.length] at hpl
  have HR := Lib.hid hR
  have HU : Hid (∀ k y, xs[k]? = some y → y = x → k = p) := Lib.hid (fun k y hk e => by
    obtain ⟨h1, e1⟩ := List.getElem?_eq_some_iff.1 hk
    obtain ⟨h2, e2⟩ := List.getElem?_eq_some_iff.1 hx
    exact (List.getElem_inj hn).1 (by rw [e1, e2, e]))
  have HX := Lib.hid hx
  clear hR hn hx
  go_enter Tryz.func99, Tryz.ntmps99
  go_wp2
  go_loop [8] (fun i => ∃ k : Nat, k ≤ p ∧ i = .int .i64 k) (fun i => n - (intOf i).toNat)
  case atStart => exact ⟨0, Nat.zero_le _, rfl⟩
  case round =>
    obtain ⟨k, hk, rfl⟩ := hrel
    have hlt : k < n := by omega
    obtain ⟨y, b, off, rfl, hb, hc, hy⟩ := HR.out.idx k hlt
    by_cases hxy : y = x
    · obtain rfl := HU.out k y hy hxy
      subst hxy
      clear hy
      go_wp2
      go_ret
      exact ⟨rfl, rfl⟩
    · have hxy' : (x == y) = false := by simpa using fun q => hxy (q.symm)
      have hkp : k ≠ p := by
        rintro rfl
        rw [HX.out] at hy
        exact hxy (by simpa using hy.symm)
      clear hy
      go_wp2
      go_round
      case rel => exact ⟨k + 1, by omega, by go_num⟩
      case measure => simp [intOf]; omega
theorem bcost_is {t : Ta} {pa : Option Addr} {pn pc : Nat} {x : Int} {w : World} (hp : Rd w pa pn 2 (t.pcs.map enc2)) (hv : ∀ q ∈ t.pcs, 1 ≤ q.1 ∧ q.1 ≤ 200) (hn : pn ≤ 8) (h : costT t = x) :
    Calls Tryz.prog 56 #[.agg #[.int .i64 t.pri, .int .i64 t.dl, .int .i64 t.first, .int .i64 t.gap, .int .i64 t.jit, .slice pa pn pc]] w fun e w' => e = .returned (.int .i64 x) ∧ Below w.heap.size w w' := by
  subst h; exact cost_any _ _ _ _ _ pa pn pc t.pcs w hp hv hn
theorem rcost_is {t : Ta} {pa : Option Addr} {pn pc : Nat} {x : Int} {w : World} (hp : Rd w pa pn 2 (t.pcs.map enc2)) (hv : ∀ q ∈ t.pcs, 1 ≤ q.1 ∧ q.1 ≤ 200) (hn : pn ≤ 8) (h : costT t = x) :
    Calls Tryz.prog 83 #[.agg #[.int .i64 t.pri, .int .i64 t.dl, .int .i64 t.first, .int .i64 t.gap, .int .i64 t.jit, .slice pa pn pc]] w fun e w' => e = .returned (.int .i64 x) ∧ Below w.heap.size w w' := by
  subst h; exact rcost_any _ _ _ _ _ pa pn pc t.pcs w hp hv hn
theorem Blocking_is {a : Option Addr} {n c : Nat} {L : List Ta} {t x e : Int} {w : World} (hL : RdL w a n L) (h : blkgR L t = (x, e)) :
    Calls Tryz.prog 98 #[.slice a n c, .int .i64 t] w fun en w' => en = rII x e ∧ Below w.heap.size w w' := by
  have := Blocking_any a n c L t w hL
  rw [h] at this; exact this
/-- what the closure of demand has captured -/
structure DemC (L : List Ta) (q : Nat) (a : Option Addr) (n c o h b : Nat) (w : World) : Prop where
  own : w.cell? ⟨o, 0, none⟩ = some (.int .i64 (ownN L q))
  box : w.cell? ⟨b, 0, none⟩ = some (.slice a n c)
  ho : o < w.heap.size
  hb : b < w.heap.size
  hh : h < w.heap.size
  ahead : ∃ (a2 : Option Addr) (c2 : Nat), w.cell? ⟨h, 0, none⟩ = some (.slice a2 (cnt L q) c2) ∧ Rd w a2 (cnt L q) 1 (((rankL L).take (cnt L q)).map enc1)
  rd : RdL w a n L
theorem DemC.ext {L : List Ta} {q : Nat} {a : Option Addr} {n c o h b : Nat} {w w' : World} (hc : DemC L q a n c o h b w) (hb : Below w.heap.size w w') : DemC L q a n c o h b w' := by
  obtain ⟨a2, c2, h1, h2⟩ := hc.ahead
  exact ⟨(hb.cell (p := ⟨o, 0, none⟩) hc.ho).trans hc.own, (hb.cell (p := ⟨b, 0, none⟩) hc.hb).trans hc.box, Nat.lt_of_lt_of_le hc.ho hb.size, Nat.lt_of_lt_of_le hc.hb hb.size, Nat.lt_of_lt_of_le hc.hh hb.size,
    ⟨a2, c2, (hb.cell (p := ⟨h, 0, none⟩) hc.hh).trans h1, h2.ext hb⟩, hc.rd.ext hb⟩
theorem owns_capR {w : World} {B e k n c : Nat} {a : Option Addr} {xs : List Value} (h : w.ownsRow B e k (.slice a n c) n xs) : n ≤ c := by
  rcases h.2 with ⟨hv, h8⟩ | ⟨g, cap, cur, hv, _, _, hle, _⟩
  · omega
  · simp at hv
    obtain ⟨_, rfl⟩ := hv
    omega
/-- a task's cells, in every later world -/
theorem RdL.cells {w : World} {a : Option Addr} {n : Nat} {L : List Ta} (h : RdL w a n L) (k : Nat) (hk : k < n) : ∃ (t : Ta) (b off : Nat) (pa : Option Addr) (pn pc : Nat), a = some ⟨b, off, none⟩ ∧ b < w.heap.size ∧ L[k]? = some t ∧ t.pcs.length = pn ∧ Hid (∀ wx : World, Below w.heap.size w wx →
    wx.cell? ⟨b, off + k * 6, none⟩ = some (.int .i64 t.pri) ∧ wx.cell? ⟨b, off + k * 6 + 1, none⟩ = some (.int .i64 t.dl) ∧ wx.cell? ⟨b, off + k * 6 + 2, none⟩ = some (.int .i64 t.first) ∧ wx.cell? ⟨b, off + k * 6 + 3, none⟩ = some (.int .i64 t.gap) ∧
    wx.cell? ⟨b, off + k * 6 + 4, none⟩ = some (.int .i64 t.jit) ∧ wx.cell? ⟨b, off + k * 6 + 5, none⟩ = some (.slice pa pn pc) ∧ b < wx.heap.size ∧ Rd wx pa pn 2 (t.pcs.map enc2)) := by
  obtain ⟨t, b, off, pa, pn, pc, rfl, hb, c0, c1, c2, c3, c4, c5, hp, _, hg, _⟩ := h.at_ k hk
  exact ⟨t, b, off, pa, pn, pc, rfl, hb, hg, hp.length, fun wx h => ⟨(h.cell (p := ⟨b, off + k * 6, none⟩) hb).trans c0, (h.cell (p := ⟨b, off + k * 6 + 1, none⟩) hb).trans c1, (h.cell (p := ⟨b, off + k * 6 + 2, none⟩) hb).trans c2, (h.cell (p := ⟨b, off + k * 6 + 3, none⟩) hb).trans c3, (h.cell (p := ⟨b, off + k * 6 + 4, none⟩) hb).trans c4, (h.cell (p := ⟨b, off + k * 6 + 5, none⟩) hb).trans c5, Nat.lt_of_lt_of_le hb h.size, hp.ext h⟩⟩
theorem Rd.take1 {w : World} {a : Option Addr} {n k : Nat} {xs : List Int} (h : Rd w a n 1 (xs.map enc1)) (hk : k ≤ n) : Rd w a k 1 ((xs.take k).map enc1) := by
  have hl := h.length
  refine ⟨by simp; omega, Nat.le_trans hk h.small, fun h0 => ?_⟩
  obtain ⟨b, off, rfl, hb, hc⟩ := h.at_ (by omega)
  refine ⟨b, off, rfl, hb, fun i hi j hj => ?_⟩
  have hi' : i < xs.length := by simp at hi; omega
  have := hc i (by simpa using hi') j hj
  rw [this]
  simp
set_option maxRecDepth 10000 in
set_option maxHeartbeats 2000000 in
theorem demand_any (a : Option Addr) (n c q : Nat) (L : List Ta) (w : World) (hL : RdL w a n L) (hv : ValidT L) (hq : q < n) :
    Calls Tryz.prog 84 #[.slice a n c, .int .i64 (q : Nat)] w fun e w' => ∃ o h b, e = .returned (.func (.func 100) #[] #[.pointer (some ⟨o, 0, none⟩), .pointer (some ⟨h, 0, none⟩), .pointer (some ⟨b, 0, none⟩)]) ∧ DemC L q a n c o h b w' ∧ Below w.heap.size w w' := by
  have hll := hL.length
  have hs := hL.small
  have hn5 := hv.r.len
  rw [hll] at hn5
  obtain ⟨u, b, off, pa, pn, pc, rfl, hb, hg, hpl, HK⟩ := hL.cells q hq
  have hpn := hv.r.pcs u (List.mem_of_getElem? hg)
  rw [hpl] at hpn
  have HPV : Hid (∀ p ∈ u.pcs, 1 ≤ p.1 ∧ p.1 ≤ 200) := Lib.hid (fun p hp => (hv.r.piece u (List.mem_of_getElem? hg) p hp).1)
  have HRK : Hid (ranksR L = (rankL L, 0)) := Lib.hid (by rw [ranksR, hv.rb]; rfl)
  have HBK : Hid (blkgR L q = (blockN L q, 0)) := Lib.hid (by rw [blkgR, isTk_iff.2 ⟨hv.rb, by omega, by omega⟩]; rfl)
  have HPL : Hid ((rankL L)[cnt L q]? = some (q : Int)) := Lib.hid (rank_at (by omega) (by omega))
  have hcq : cnt L q < n := by have := cnt_lt (L := L) (x := q) (by omega) (by omega); omega
  have HND := Lib.hid (rank_nodup L)
  have HRL : Hid ((rankL L).length = n) := Lib.hid (by rw [rank_len, hll])
  have hbk := blockN_bd hv.r q
  have hct := costT_bd hv.r (List.mem_of_getElem? hg)
  have HOW : Hid (ownN L q = costT u + blockN L q) := Lib.hid (by rw [ownN, taAt_of hg])
  have HV := Lib.hid hv
  have HR := Lib.hid hL
  obtain ⟨bn, hbn⟩ : ∃ x, blockN L q = x := ⟨_, rfl⟩
  obtain ⟨cq, hcqe⟩ : ∃ x, cnt L q = x := ⟨_, rfl⟩
  obtain ⟨ct, hcte⟩ : ∃ x, costT u = x := ⟨_, rfl⟩
  obtain ⟨rk, hrke⟩ : ∃ x, rankL L = x := ⟨_, rfl⟩
  have HCT := Lib.hid hcte
  have HCQ := Lib.hid hcqe
  have HRE := Lib.hid hrke
  rw [hbn] at HBK hbk HOW
  rw [hcqe] at HPL hcq
  rw [hcte] at hct HOW
  rw [hrke] at HRK HPL HND HRL
  clear hL hv hll hg hbn hcqe hcte hrke hb hpl
  go_enter Tryz.func84, Tryz.ntmps84
  go_wp2_with (first
    | (go_at_call 62; (with_reducible refine (Ranks_is (HR.out.ext (by (repeat' (first | (with_reducible exact Below.refl _ _) | (with_reducible assumption) | (with_reducible refine Below.alloc ?_ ?_ _) | (with_reducible refine Below.drew ?_) | (with_reducible refine Below.draws ?_ _) | (with_reducible refine Below.setCell ?_ ?_ _) | (refine Below.then ?_ (by with_reducible assumption)) | go_size)))) HRK.out).mono ?_); rintro e w1 ⟨a1, n1, c1, rfl, ho1, hb1⟩; have R1 := Lib.hid (ownsI_rd ho1); have hca1 := owns_capR ho1; have hn1 : rk.length = n1 := (ownsI_rd ho1).length; have x0 := (hb1.cell (p := ⟨w.heap.size, 0, none⟩) (by simp)).trans (show _ = some (.slice (some ⟨b, off, none⟩) n c) by simp [go_sem]); have hz1 := hb1.size; have W1 : Hid (Below w.heap.size w w1) := Lib.hid (Below.then (Below.alloc (Below.refl _ _) (Nat.le_refl _) _) hb1); clear ho1 hb1; simp only [World.size_alloc] at hz1)
    | (go_at_call 98; (with_reducible refine (Blocking_is (HR.out.ext (by repeat (first | (with_reducible exact Below.refl _ _) | (refine Below.then ?_ (Hid.out (by with_reducible assumption)))))) HBK.out).mono ?_); rintro e w2 ⟨rfl, hb2⟩; have x1 := (hb2.cell (p := ⟨w.heap.size, 0, none⟩) (by simp only []; omega)).trans x0; have B2 := Lib.hid hb2; have hz2 := hb2.size; have hs3 : w.heap.size < w2.heap.size := (by omega); have hcc : cq ≤ c1 := (by have := HRL.out; omega); obtain ⟨k0, k1, k2, k3, k4, k5, hbw2, hpp⟩ := HK.out w2 (Below.then W1.out hb2); have HPP := Lib.hid hpp; clear hb2 hpp)
    | (go_at_call 99; (with_reducible refine (indexR_any _ _ _ _ _ _ _ (R1.out.ext B2.out) HPL.out HND.out).mono ?_); rintro e w3 ⟨rfl, rfl⟩)
    | (go_at_call 56; (with_reducible refine (bcost_is (HPP.out.ext (Below.alloc (Below.refl _ _) (Nat.le_refl _) _)) HPV.out hpn.2 HCT.out).mono ?_); rintro e w4 ⟨rfl, hb4⟩; have B4 := Lib.hid hb4; have y9 := (hb4.cell (p := ⟨w2.heap.size, 0, none⟩) (by simp)).trans (show _ = some (.slice a1 cq c1) by simp [go_sem]); have y0 := (hb4.cell (p := ⟨w.heap.size, 0, none⟩) (by simp; omega)).trans (show _ = some (.slice (some ⟨b, off, none⟩) n c) by simp [go_sem, *]); have hz4 := hb4.size; simp only [World.size_alloc] at hz4; clear hb4))
  go_ret
  have hW : Below w.heap.size w w4 := Below.then (Below.alloc (Below.then W1.out B2.out) (by omega) _) B4.out
  have hX : Below w4.heap.size w4 (w4.alloc (.cells #[.int .i64 (ct + bn)] 3)) := Below.alloc (Below.refl _ _) (Nat.le_refl _) _
  refine ⟨_, _, _, rfl, ⟨by rw [HOW.out]; simp [go_sem], (hX.cell (p := ⟨w.heap.size, 0, none⟩) (by simp only []; omega)).trans y0, by simp, by simp; omega, by simp; omega, ⟨a1, c1, ?_, ?_⟩, HR.out.ext (hW.trans (hX.mono (by omega)))⟩, hW.trans (hX.mono (by omega))⟩
  · rw [HCQ.out]; exact (hX.cell (p := ⟨w2.heap.size, 0, none⟩) (by simp only []; omega)).trans y9
  · rw [HCQ.out, HRE.out]
    have hB : Below w1.heap.size w1 w4 := Below.then (Below.alloc B2.out B2.out.size _) B4.out
    exact ((R1.out.ext hB).ext hX).take1 (by have := HRL.out; omega)
theorem most_is {f g j v x : Int} {w : World} (hv : vpat f g j = true) (h0 : 0 ≤ v ∧ v ≤ 1000000) (h : mostN g j v = x) : Calls Tryz.prog 101 #[.agg #[.int .i64 f, .int .i64 g, .int .i64 j], .int .i64 v] w fun e w' => e = rII x 0 ∧ Below w.heap.size w w' := by
  have := most_any f g j v w
  rw [show mostR f g j v = (x, 0) by rw [mostR, hv, inB_iff.2 h0, h]; rfl] at this
  exact this
theorem demL_cons {L : List Ta} {w : Int} {k : Int} {ks : List Int} {n : Int} : demL L w (k :: ks) n = demL L w ks (n + demT (taAt L k) w) := rfl
set_option maxRecDepth 10000 in
set_option maxHeartbeats 2000000 in
theorem demf_any (a : Option Addr) (n c q o h b : Nat) (L : List Ta) (v : Int) (w : World) (hv : ValidT L) (hq : q < n) (hc : DemC L q a n c o h b w) (h0 : 0 ≤ v ∧ v ≤ 1000000) :
    Calls Tryz.prog 100 #[.int .i64 v, .pointer (some ⟨o, 0, none⟩), .pointer (some ⟨h, 0, none⟩), .pointer (some ⟨b, 0, none⟩)] w fun e w' => e = .returned (.int .i64 (demN L q v)) ∧ Below w.heap.size w w' := by
  have hll := hc.rd.length
  have hn5 := hv.r.len
  have hs := hc.rd.small
  rw [hll] at hn5
  have hown := ownN_bd hv.r (i := q) (by omega) (by omega)
  obtain ⟨R, hR⟩ : ∃ R, demN L q v = R := ⟨_, rfl⟩
  have hcl := cnt_lt (L := L) (x := q) (by omega) (by omega)
  obtain ⟨a2, c2, hh0, hrd⟩ := hc.ahead
  obtain ⟨ks, hks⟩ : ∃ ks, (rankL L).take (cnt L q) = ks := ⟨_, rfl⟩
  obtain ⟨m, hm⟩ : ∃ m, cnt L q = m := ⟨_, rfl⟩
  obtain ⟨ow, how⟩ : ∃ x, ownN L q = x := ⟨_, rfl⟩
  have HA : Hid (demL L v (ks.drop 0) ow = R) := Lib.hid (by rw [← hR, ← hks, ← how]; exact demN_take (by omega) (by omega))
  have hown2 := hc.own
  rw [how] at hown hown2
  rw [hks, hm] at hrd
  rw [hm] at hh0
  have HKM : Hid (∀ k ∈ ks, 0 ≤ k ∧ k < n) := Lib.hid (fun k hk => by
    rw [← hks] at hk
    have := rank_mem.1 (List.mem_of_mem_take hk)
    rw [hll] at this; exact this)
  have HBD : Hid (∀ (j : Nat) (x : Int), x ≤ demL L v (ks.drop j) x ∧ demL L v (ks.drop j) x ≤ x + 8080008000) := Lib.hid (fun j x => by
    have h1 := demL_bd hv h0 (ks.drop j) x (fun k hk => by
      have := List.mem_of_mem_drop hk
      rw [← hks] at this
      exact rank_mem.1 (List.mem_of_mem_take this))
    have h2 : (ks.drop j).length ≤ 5 := by
      rw [List.length_drop, ← hks, List.length_take, rank_len, hll]; omega
    have h3 : (1616001600 : Int) * ((ks.drop j).length : Int) ≤ 1616001600 * 5 := Int.mul_le_mul_of_nonneg_left (by omega) (by omega)
    omega)
  have hRB : R ≤ 8080009800 := by have := (HBD.out 0 ow).2; rw [HA.out] at this; omega
  have hbb := hc.box
  have hls := hrd.small
  have hlo := hc.ho
  have hlb := hc.hb
  have HRD := Lib.hid hrd
  have HL := Lib.hid hc.rd
  have HLN := Lib.hid hrd.length
  have HV := Lib.hid hv
  rw [hR]
  clear hv hc hll hR hcl hks hm how hrd
  go_enter Tryz.func100, Tryz.ntmps100
  go_wp2
  go_loopw [6, 14] (fun u i wr => ∃ (k : Nat) (s : Int), k ≤ m ∧ u = .int .i64 s ∧ i = .int .i64 k ∧ 0 ≤ s ∧ demL L v (ks.drop k) s = R ∧ Below w.heap.size w wr) (fun _ i _ => m - (intOf i).toNat)
  case atStart => exact ⟨0, ow, Nat.zero_le _, rfl, rfl, by omega, HA.out, Below.refl _ _⟩
  case round =>
    clear HA
    obtain ⟨k, s, hk, rfl, rfl, hs0, he, hB⟩ := hrel
    have HE := Lib.hid he; have HB := Lib.hid hB
    have d0 := (hB.cell (p := ⟨b, 0, none⟩) hlb).trans hbb
    have hbr : b < wr.heap.size := Nat.lt_of_lt_of_le hlb hB.size
    clear he hB
    by_cases hlt : k < m
    · obtain ⟨x, b1, o1, rfl, hb1, hc1, hx1⟩ := (HRD.out.ext HB.out).idx k hlt
      obtain ⟨hx0, hxn⟩ := HKM.out x (List.mem_of_getElem? hx1)
      obtain ⟨j, rfl⟩ := Int.eq_ofNat_of_zero_le hx0
      obtain ⟨u, b2, off, pa, pn, pc, rfl, hb2, hg, hpl, HK⟩ := HL.out.cells j (by omega)
      have hum := List.mem_of_getElem? hg
      have hpn := HV.out.r.pcs u hum
      rw [hpl] at hpn
      have HPV : Hid (∀ p ∈ u.pcs, 1 ≤ p.1 ∧ p.1 ≤ 200) := Lib.hid (fun p hp => (HV.out.r.piece u hum p hp).1)
      have HVP := Lib.hid (HV.out.vp u hum)
      obtain ⟨mo, hmo⟩ : ∃ x, mostN u.gap u.jit v = x := ⟨_, rfl⟩
      obtain ⟨ct, hct⟩ : ∃ x, costT u = x := ⟨_, rfl⟩
      have hmb := mostN_bd (HV.out.gap u hum).1 (HV.out.jit u hum) h0
      have hcb := costT_bd HV.out.r hum
      have hdb := demT_bd HV.out hum h0
      have hd2 : demT u v = mo * ct := by rw [demT, hmo, hct]
      rw [hd2] at hdb
      rw [hmo] at hmb
      rw [hct] at hcb
      have HMO := Lib.hid hmo
      have HCT := Lib.hid hct
      have hE := HE.out
      have hkd : ks.drop k = (j : Int) :: ks.drop (k + 1) := by obtain ⟨h1, h2⟩ := List.getElem?_eq_some_iff.1 hx1; rw [List.drop_eq_getElem_cons h1, h2]
      rw [hkd, demL_cons, taAt_of hg, hd2] at hE
      have HE2 := Lib.hid hE
      have hsb := (HBD.out (k + 1) (s + mo * ct)).1
      rw [hE] at hsb
      obtain ⟨k0, k1, k2, k3, k4, k5, hbw2, hpp⟩ := HK.out wr HB.out
      clear hE hkd hx1 hg hum hd2 hpl hmo hct hpp
      go_wp2_with (first
        | (go_at_call 101; (with_reducible refine (most_is HVP.out h0 HMO.out).mono ?_); rintro e w3 ⟨rfl, hb3⟩; have B3 := Lib.hid hb3; have z0 := (hb3.cell (p := ⟨b, 0, none⟩) hbr).trans d0; obtain ⟨j0, j1, j2, j3, j4, j5, hbw3, hpp3⟩ := HK.out w3 (Below.then HB.out hb3); have HPP := Lib.hid hpp3; clear hb3 hpp3)
        | (go_at_call 56; (with_reducible refine (bcost_is HPP.out HPV.out hpn.2 HCT.out).mono ?_); rintro e w4 ⟨rfl, hb4⟩; have B4 := Lib.hid hb4; clear hb4))
      go_roundw
      case rel => exact ⟨k + 1, s + mo * ct, by omega, by go_num, by go_num, by omega, HE2.out, (by repeat (first | (with_reducible exact Below.refl _ _) | (refine Below.then ?_ (Hid.out (by with_reducible assumption)))))⟩
      case measure => simp [intOf]; omega
    · have hE := HE.out
      rw [List.drop_of_length_le (by have := HLN.out; omega)] at hE
      obtain rfl : s = R := hE
      go_wp2
      go_ret
      exact ⟨rfl, HB.out⟩
end Go.Proofs.YtmahagcghpoekaaGreat
namespace Go.Proofs.YtmahagcghpoekaaGreat
open Go.RowKit
set_option linter.unusedSimpArgs false
set_option linter.unusedVariables false
theorem maxB_app (L : List Ta) (m : Int) (a b : List P2) : maxB L m (a ++ b) = maxB L (maxB L m a) b := by unfold maxB; rw [List.foldl_append]
theorem aheadF_drop {L : List Ta} {n q j : Nat} (hj : j < n) : (((idxs n).drop j).filter (fun x => aheadB L x q)) = (if aheadB L j q = true then (j : Int) :: ((idxs n).drop (j + 1)).filter (fun x => aheadB L x q) else ((idxs n).drop (j + 1)).filter (fun x => aheadB L x q)) := by
  rw [idxs_drop hj, List.filter_cons]
end Go.Proofs.YtmahagcghpoekaaGreat
namespace Go.Proofs.YtmahagcghpoekaaGreat
open Go.RowKit
set_option linter.unusedSimpArgs false
set_option linter.unusedVariables false
theorem demf_is {a : Option Addr} {n c q o h b : Nat} {L : List Ta} {v x : Int} {w : World} (hv : ValidT L) (hq : q < n) (hc : DemC L q a n c o h b w) (h0 : 0 ≤ v ∧ v ≤ 1000000) (hx : demN L q v = x) :
    Calls Tryz.prog 100 #[.int .i64 v, .pointer (some ⟨o, 0, none⟩), .pointer (some ⟨h, 0, none⟩), .pointer (some ⟨b, 0, none⟩)] w fun e w' => e = .returned (.int .i64 x) ∧ Below w.heap.size w w' := by subst hx; exact demf_any a n c q o h b L v w hv hq hc h0
def winI (x : Int) : Int := if x = 0 then -1 else x
set_option maxRecDepth 10000 in
set_option maxHeartbeats 2000000 in
theorem window_any' (a : Option Addr) (n c q : Nat) (L : List Ta) (F S : Int) (w : World) (hL : RdL w a n L) (hv : ValidT L) (hS : supB F S = true) (hq : q < n) :
    Calls Tryz.prog 60 #[.slice a n c, .agg #[.int .i64 F, .int .i64 S], .int .i64 (q : Nat)] w fun e w' => e = .returned (.int .i64 (winI (winN L F S q))) ∧ Below w.heap.size w w' := by
  obtain ⟨R, hR⟩ : ∃ R, winN L F S q = R := ⟨_, rfl⟩
  have HA : Hid (winFrom L F S q (2001 - 1) 1 = R) := Lib.hid hR
  rw [hR]
  have HV := Lib.hid hv
  have HS := Lib.hid hS
  have HR := Lib.hid hL
  clear hL hv hR hS
  go_enter Tryz.func60, Tryz.ntmps60
  go_wp2_with (go_at_call 84; (with_reducible refine (demand_any _ _ _ q L _ (HR.out.ext (Below.alloc (Below.refl _ _) (Nat.le_refl _) _)) HV.out hq).mono ?_); rintro e w1 ⟨o, h, b, rfl, hc, hb1⟩; have HC := Lib.hid hc; have B1 := Lib.hid hb1; have c0 := (hb1.cell (p := ⟨w.heap.size, 0, none⟩) (by simp)).trans (show _ = some (.int .i64 F) by simp [go_sem]); have c1 := (hb1.cell (p := ⟨w.heap.size, 1, none⟩) (by simp)).trans (show _ = some (.int .i64 S) by simp [go_sem]); have hz1 := hb1.size; clear hb1 hc)
  simp only [World.size_alloc] at hz1
  go_loopw [8] (fun i wr => ∃ k : Nat, 1 ≤ k ∧ k ≤ 2001 ∧ i = .int .i64 k ∧ winFrom L F S q (2001 - k) k = R ∧ Below w1.heap.size w1 wr) (fun i _ => 2001 - (intOf i).toNat)
  case atStart => exact ⟨1, Nat.le_refl _, by omega, rfl, HA.out, Below.refl _ _⟩
  case round =>
    clear HA
    obtain ⟨k, hk1, hk, rfl, he, hB⟩ := hrel
    have HE := Lib.hid he; have HB := Lib.hid hB
    have d0 := (hB.cell (p := ⟨w.heap.size, 0, none⟩) (by simp only []; omega)).trans c0
    have d1 := (hB.cell (p := ⟨w.heap.size, 1, none⟩) (by simp only []; omega)).trans c1
    clear he hB
    by_cases hlt : k ≤ 2000
    · have hlt' : (k : Int) ≤ 2000 := by omega
      obtain ⟨x, hx⟩ : ∃ x, demN L q k = x := ⟨_, rfl⟩
      obtain ⟨y, hy⟩ : ∃ y, leastN F S k = y := ⟨_, rfl⟩
      have HX := Lib.hid hx
      have HY : Hid (lstR F S k = (y, 0)) := Lib.hid (by rw [lstR_ok HS.out (by omega), hy])
      have hE := HE.out
      rw [show 2001 - k = (2001 - (k + 1)) + 1 by omega, winFrom_step, hx, hy] at hE
      clear hx hy
      by_cases hxy : x ≤ y
      · rw [if_pos hxy] at hE
        subst hE
        go_wp2_with (first
          | (go_at_call 85; (with_reducible refine (Least_is HY.out).mono ?_); rintro e w3 ⟨rfl, hb3⟩; have B3 := Lib.hid hb3; clear hb3)
          | (go_at_call 100; (with_reducible refine (demf_is HV.out hq ((HC.out.ext HB.out).ext B3.out) ⟨by omega, by omega⟩ HX.out).mono ?_); rintro e w4 ⟨rfl, hb4⟩; have B4 := Lib.hid hb4; clear hb4))
        go_ret
        exact ⟨ret_int (by rw [winI, if_neg (by omega)]), Below.then (Below.then (Below.alloc (Below.refl _ _) (Nat.le_refl _) _) B1.out) (Below.then (Below.then HB.out B3.out) B4.out)⟩
      · have hxy' : decide (x ≤ y) = false := by simpa using hxy
        rw [if_neg hxy] at hE
        have HE2 := Lib.hid hE
        clear hE
        go_wp2_with (first
          | (go_at_call 85; (with_reducible refine (Least_is HY.out).mono ?_); rintro e w3 ⟨rfl, hb3⟩; have B3 := Lib.hid hb3; clear hb3)
          | (go_at_call 100; (with_reducible refine (demf_is HV.out hq ((HC.out.ext HB.out).ext B3.out) ⟨by omega, by omega⟩ HX.out).mono ?_); rintro e w4 ⟨rfl, hb4⟩; have B4 := Lib.hid hb4; clear hb4))
        go_roundw
        case rel => exact ⟨k + 1, by omega, by omega, by go_num, HE2.out, Below.then (Below.then HB.out B3.out) B4.out⟩
        case measure => simp [intOf]; omega
    · have hlt' : decide ((k : Int) ≤ 2000) = false := by simp; omega
      have hlt'' : decide (k ≤ 2000) = false := by simp; omega
      have hE := HE.out
      rw [show 2001 - k = 0 by omega, winFrom] at hE
      subst hE
      go_wp2
      go_ret
      exact ⟨rfl, Below.then (Below.then (Below.alloc (Below.refl _ _) (Nat.le_refl _) _) B1.out) HB.out⟩
theorem window_is {a : Option Addr} {n c q : Nat} {L : List Ta} {F S x : Int} {w : World} (hL : RdL w a n L) (hv : ValidT L) (hS : supB F S = true) (hq : q < n) (h : winI (winN L F S q) = x) :
    Calls Tryz.prog 60 #[.slice a n c, .agg #[.int .i64 F, .int .i64 S], .int .i64 (q : Nat)] w fun e w' => e = .returned (.int .i64 x) ∧ Below w.heap.size w w' := by subst h; exact window_any' a n c q L F S w hL hv hS hq
end Go.Proofs.YtmahagcghpoekaaGreat
namespace Go.Proofs.YtmahagcghpoekaaGreat
open Go.RowKit
set_option linter.unusedSimpArgs false
set_option linter.unusedVariables false
/-- the response, -1 without one -/
def respN (L : List Ta) (F S : Int) (q : Nat) : Int := if winN L F S q = 0 then -1 else (taAt L q).jit + winN L F S q
theorem resp_any (a : Option Addr) (n c q : Nat) (L : List Ta) (F S : Int) (w : World) (hL : RdL w a n L) (hv : ValidT L) (hS : supB F S = true) (hq : q < n) :
    Calls Tryz.prog 25 #[.slice a n c, .agg #[.int .i64 F, .int .i64 S], .int .i64 (q : Nat)] w fun e w' => e = .returned (.int .i64 (respN L F S q)) ∧ Below w.heap.size w w' := by
  have hb := winN_bd L F S q
  obtain ⟨x, hx⟩ : ∃ x, winN L F S q = x := ⟨_, rfl⟩
  unfold respN
  rw [hx] at hb ⊢
  obtain ⟨u, b, off, pa, pn, pc, rfl, hbw, hg, hpl, HK⟩ := hL.cells q hq
  have hj := hv.jit u (List.mem_of_getElem? hg)
  rw [taAt_of hg]
  have HX : Hid (winI (winN L F S q) = winI x) := Lib.hid (by rw [hx])
  have HV := Lib.hid hv
  have HS := Lib.hid hS
  have HR := Lib.hid hL
  clear hL hv hS hx hg hpl
  by_cases h0 : x = 0
  · subst h0
    rw [if_pos rfl]
    go_enter Tryz.func25, Tryz.ntmps25
    go_wp2_with (go_at_call 60; (with_reducible refine (window_is (HR.out.ext (Below.alloc (Below.refl _ _) (Nat.le_refl _) _)) HV.out HS.out hq HX.out).mono ?_); rintro e w1 ⟨rfl, hb1⟩; have B1 := Lib.hid hb1; clear hb1)
    go_ret
    exact ⟨rfl, Below.then (Below.alloc (Below.refl _ _) (Nat.le_refl _) _) B1.out⟩
  · rw [if_neg h0]
    have e : winI x = x := by rw [winI, if_neg h0]
    rw [e] at HX
    have hx0 : decide (x < 0) = false := by simp; omega
    go_enter Tryz.func25, Tryz.ntmps25
    go_wp2_with (go_at_call 60; (with_reducible refine (window_is (HR.out.ext (Below.alloc (Below.refl _ _) (Nat.le_refl _) _)) HV.out HS.out hq HX.out).mono ?_); rintro e w1 ⟨rfl, hb1⟩; have B1 := Lib.hid hb1; obtain ⟨j0, j1, j2, j3, j4, j5, hbw1, hpp1⟩ := HK.out w1 (Below.then (Below.alloc (Below.refl _ _) (Nat.le_refl _) _) hb1); clear hb1 hpp1)
    go_ret
    exact ⟨rfl, Below.then (Below.alloc (Below.refl _ _) (Nat.le_refl _) _) B1.out⟩
theorem resp_is {a : Option Addr} {n c q : Nat} {L : List Ta} {F S x : Int} {w : World} (hL : RdL w a n L) (hv : ValidT L) (hS : supB F S = true) (hq : q < n) (h : respN L F S q = x) :
    Calls Tryz.prog 25 #[.slice a n c, .agg #[.int .i64 F, .int .i64 S], .int .i64 (q : Nat)] w fun e w' => e = .returned (.int .i64 x) ∧ Below w.heap.size w w' := by subst h; exact resp_any a n c q L F S w hL hv hS hq
theorem meets_any (a : Option Addr) (n c q : Nat) (L : List Ta) (F S : Int) (w : World) (hL : RdL w a n L) (hv : ValidT L) (hS : supB F S = true) (hq : q < n) :
    Calls Tryz.prog 38 #[.slice a n c, .agg #[.int .i64 F, .int .i64 S], .int .i64 (q : Nat)] w fun e w' => e = .returned (.bool (meetB L F S q)) ∧ Below w.heap.size w w' := by
  have hb := winN_bd L F S q
  obtain ⟨R, hR⟩ : ∃ R, meetB L F S q = R := ⟨_, rfl⟩
  obtain ⟨r, hr⟩ : ∃ r, respN L F S q = r := ⟨_, rfl⟩
  obtain ⟨u, b, off, pa, pn, pc, rfl, hbw, hg, hpl, HK⟩ := hL.cells q hq
  have hj := hv.jit u (List.mem_of_getElem? hg)
  have hrm : (r < 0 ∧ R = false) ∨ (0 ≤ r ∧ decide (r ≤ u.dl) = R) := by
    unfold respN at hr
    unfold meetB at hR
    rw [taAt_of hg] at hr hR
    split at hr
    · rename_i h0
      rw [h0] at hR
      left
      exact ⟨by omega, by rw [← hR]; rfl⟩
    · rename_i h0
      right
      refine ⟨by omega, ?_⟩
      rw [← hR, decide_eq_true (show 0 < winN L F S q by omega), Bool.true_and, ← hr]
  have HX := Lib.hid hr
  have HV := Lib.hid hv
  have HS := Lib.hid hS
  have HR := Lib.hid hL
  rw [hR]
  clear hL hv hS hr hg hpl hR hb
  rcases hrm with ⟨h0, rfl⟩ | ⟨h0, h1⟩
  · have h0' : decide (0 ≤ r) = false := by simp; omega
    go_enter Tryz.func38, Tryz.ntmps38
    go_wp2_with (go_at_call 25; (with_reducible refine (resp_is (HR.out.ext (Below.alloc (Below.refl _ _) (Nat.le_refl _) _)) HV.out HS.out hq HX.out).mono ?_); rintro e w1 ⟨rfl, hb1⟩; have B1 := Lib.hid hb1; obtain ⟨j0, j1, j2, j3, j4, j5, hbw1, hpp1⟩ := HK.out w1 (Below.then (Below.alloc (Below.refl _ _) (Nat.le_refl _) _) hb1); clear hb1 hpp1)
    go_ret
    exact ⟨rfl, Below.then (Below.alloc (Below.refl _ _) (Nat.le_refl _) _) B1.out⟩
  · go_enter Tryz.func38, Tryz.ntmps38
    go_wp2_with (go_at_call 25; (with_reducible refine (resp_is (HR.out.ext (Below.alloc (Below.refl _ _) (Nat.le_refl _) _)) HV.out HS.out hq HX.out).mono ?_); rintro e w1 ⟨rfl, hb1⟩; have B1 := Lib.hid hb1; obtain ⟨j0, j1, j2, j3, j4, j5, hbw1, hpp1⟩ := HK.out w1 (Below.then (Below.alloc (Below.refl _ _) (Nat.le_refl _) _) hb1); clear hb1 hpp1)
    go_ret
    exact ⟨rfl, Below.then (Below.alloc (Below.refl _ _) (Nat.le_refl _) _) B1.out⟩
theorem meets_is {a : Option Addr} {n c q : Nat} {L : List Ta} {F S : Int} {x : Bool} {w : World} (hL : RdL w a n L) (hv : ValidT L) (hS : supB F S = true) (hq : q < n) (h : meetB L F S q = x) :
    Calls Tryz.prog 38 #[.slice a n c, .agg #[.int .i64 F, .int .i64 S], .int .i64 (q : Nat)] w fun e w' => e = .returned (.bool x) ∧ Below w.heap.size w w' := by subst h; exact meets_any a n c q L F S w hL hv hS hq
set_option maxHeartbeats 1000000 in
theorem acc_any (a : Option Addr) (n c : Nat) (L : List Ta) (F S : Int) (w : World) (hL : RdL w a n L) (hv : ValidT L) (hS : supB F S = true) :
    Calls Tryz.prog 24 #[.slice a n c, .agg #[.int .i64 F, .int .i64 S]] w fun e w' => e = .returned (.bool (accB L F S)) ∧ Below w.heap.size w w' := by
  have hll := hL.length
  have hs := hL.small
  obtain ⟨R, hR⟩ : ∃ R, accB L F S = R := ⟨_, rfl⟩
  have HA : Hid (accFrom L F S (n - 0) 0 = R) := Lib.hid (by rw [← hR, accB, hll]; rfl)
  have HV := Lib.hid hv
  have HS := Lib.hid hS
  have HR := Lib.hid hL
  obtain ⟨w1, hw1⟩ : ∃ w1, w1 = w.alloc (.cells #[.int .i64 F, .int .i64 S] 24) := ⟨_, rfl⟩
  have c0 : w1.cell? ⟨w.heap.size, 0, none⟩ = some (.int .i64 F) := by rw [hw1]; simp [go_sem]
  have c1 : w1.cell? ⟨w.heap.size, 1, none⟩ = some (.int .i64 S) := by rw [hw1]; simp [go_sem]
  have hz1 : w.heap.size < w1.heap.size := by rw [hw1]; simp
  have B1 : Hid (Below w.heap.size w w1) := Lib.hid (by rw [hw1]; exact Below.alloc (Below.refl _ _) (Nat.le_refl _) _)
  rw [hR]
  clear hL hv hll hR hS
  go_enter Tryz.func24, Tryz.ntmps24
  go_wp2
  rw [← hw1]
  clear hw1
  go_loopw [8] (fun i wr => ∃ k : Nat, k ≤ n ∧ i = .int .i64 k ∧ accFrom L F S (n - k) k = R ∧ Below w1.heap.size w1 wr) (fun i _ => n - (intOf i).toNat)
  case atStart => exact ⟨0, Nat.zero_le _, rfl, HA.out, Below.refl _ _⟩
  case round =>
    clear HA
    obtain ⟨k, hk, rfl, he, hB⟩ := hrel
    have HE := Lib.hid he; have HB := Lib.hid hB
    have d0 := (hB.cell (p := ⟨w.heap.size, 0, none⟩) (by simp only []; omega)).trans c0
    have d1 := (hB.cell (p := ⟨w.heap.size, 1, none⟩) (by simp only []; omega)).trans c1
    clear he hB
    by_cases hlt : k < n
    · obtain ⟨m, hm⟩ : ∃ m, meetB L F S k = m := ⟨_, rfl⟩
      have HM := Lib.hid hm
      have hE := HE.out
      rw [show n - k = (n - (k + 1)) + 1 by omega, accFrom, hm] at hE
      clear hm
      cases m
      · obtain rfl : R = false := by rw [← hE]; rfl
        go_wp2_with (go_at_call 38; (with_reducible refine (meets_is ((HR.out.ext B1.out).ext HB.out) HV.out HS.out hlt HM.out).mono ?_); rintro e w3 ⟨rfl, hb3⟩; have B3 := Lib.hid hb3; clear hb3)
        go_ret
        exact ⟨rfl, (by repeat (first | (with_reducible exact Below.refl _ _) | (refine Below.then ?_ (Hid.out (by with_reducible assumption)))))⟩
      · have HE2 : Hid (accFrom L F S (n - (k + 1)) (k + 1) = R) := Lib.hid (by simpa using hE)
        clear hE
        go_wp2_with (go_at_call 38; (with_reducible refine (meets_is ((HR.out.ext B1.out).ext HB.out) HV.out HS.out hlt HM.out).mono ?_); rintro e w3 ⟨rfl, hb3⟩; have B3 := Lib.hid hb3; clear hb3)
        go_roundw
        case rel => exact ⟨k + 1, by omega, by go_num, HE2.out, Below.then HB.out B3.out⟩
        case measure => simp [intOf]; omega
    · have hE := HE.out
      rw [show n - k = 0 by omega, accFrom] at hE
      subst hE
      go_wp2
      go_ret
      exact ⟨rfl, (by repeat (first | (with_reducible exact Below.refl _ _) | (refine Below.then ?_ (Hid.out (by with_reducible assumption)))))⟩
theorem acc_is {a : Option Addr} {n c : Nat} {L : List Ta} {F S : Int} {x : Bool} {w : World} (hL : RdL w a n L) (hv : ValidT L) (hS : supB F S = true) (h : accB L F S = x) :
    Calls Tryz.prog 24 #[.slice a n c, .agg #[.int .i64 F, .int .i64 S]] w fun e w' => e = .returned (.bool x) ∧ Below w.heap.size w w' := by subst h; exact acc_any a n c L F S w hL hv hS
/-- right: tasks and supply are valid -/
def okB (L : List Ta) (F S : Int) : Bool := validL L && supB F S
theorem right25_any (a : Option Addr) (n c : Nat) (L : List Ta) (F S : Int) (w : World) (hL : RdL w a n L) :
    Calls Tryz.prog 23 #[.slice a n c, .agg #[.int .i64 F, .int .i64 S]] w fun e w' => e = .returned (.bool (okB L F S)) ∧ Below w.heap.size w w' := by
  have HR := Lib.hid hL
  unfold okB
  cases hv : validL L
  · have HV := Lib.hid hv
    clear hL hv
    go_enter Tryz.func23, Tryz.ntmps23
    go_wp2_with (go_at_call 42; (with_reducible refine (valid_is (HR.out.ext (Below.alloc (Below.refl _ _) (Nat.le_refl _) _)) HV.out).mono ?_); rintro e w1 ⟨rfl, hb1⟩; have B1 := Lib.hid hb1; clear hb1)
    go_ret
    exact ⟨rfl, Below.then (Below.alloc (Below.refl _ _) (Nat.le_refl _) _) B1.out⟩
  · have HV := Lib.hid hv
    obtain ⟨x, hx⟩ : ∃ x, supB F S = x := ⟨_, rfl⟩
    have HS := Lib.hid hx
    rw [hx]
    clear hL hv hx
    go_enter Tryz.func23, Tryz.ntmps23
    go_wp2_with (first
      | (go_at_call 42; (with_reducible refine (valid_is (HR.out.ext (Below.alloc (Below.refl _ _) (Nat.le_refl _) _)) HV.out).mono ?_); rintro e w1 ⟨rfl, hb1⟩; have B1 := Lib.hid hb1; have c0 := (hb1.cell (p := ⟨w.heap.size, 0, none⟩) (by simp)).trans (show _ = some (.int .i64 F) by simp [go_sem]); have c1 := (hb1.cell (p := ⟨w.heap.size, 1, none⟩) (by simp)).trans (show _ = some (.int .i64 S) by simp [go_sem]); clear hb1)
      | (go_at_call 45; (with_reducible refine (supV_is HS.out).mono ?_); rintro e w2 ⟨rfl, hb2⟩; have B2 := Lib.hid hb2; clear hb2))
    go_ret
    exact ⟨rfl, Below.then (Below.then (Below.alloc (Below.refl _ _) (Nat.le_refl _) _) B1.out) B2.out⟩
theorem right25_is {a : Option Addr} {n c : Nat} {L : List Ta} {F S : Int} {x : Bool} {w : World} (hL : RdL w a n L) (h : okB L F S = x) :
    Calls Tryz.prog 23 #[.slice a n c, .agg #[.int .i64 F, .int .i64 S]] w fun e w' => e = .returned (.bool x) ∧ Below w.heap.size w w' := by subst h; exact right25_any a n c L F S w hL
end Go.Proofs.YtmahagcghpoekaaGreat
namespace Go.Proofs.YtmahagcghpoekaaGreat
open Go.RowKit
set_option linter.unusedSimpArgs false
set_option linter.unusedVariables false
theorem ok_of {L : List Ta} {F S : Int} (h : okB L F S = true) : ValidT L ∧ supB F S = true := by
  unfold okB at h; rw [Bool.and_eq_true] at h; exact ⟨valid_of h.1, h.2⟩
def accE (L : List Ta) (F S : Int) : Int := if okB L F S then (if accB L F S then 0 else 15) else 1
def inT (L : List Ta) (t : Int) : Bool := inB t 0 ((L.length : Int) - 1)
def winR (L : List Ta) (F S t : Int) : Int × Int := if okB L F S && inT L t then (if winN L F S t = 0 then (0, 3) else (winN L F S t, 0)) else (0, 1)
def sliceGo (L : List Ta) (F : Int) : Nat → Int × Int
  | 0 => (0, 15)
  | k + 1 => if accB L F k then ((k : Int), 0) else sliceGo L F k
def sliceR (L : List Ta) (F : Int) : Int × Int := if validL L && inB F 1 60 then sliceGo L F F.toNat else (0, 1)
def costR (L : List Ta) (t : Int) : Int × Int := if validL L && inT L t then (costT (taAt L t), 0) else (0, 1)
def demR (L : List Ta) (t v : Int) : Int × Int := if validL L && inT L t && inB v 0 1000000 then (demN L t v, 0) else (0, 1)
theorem inT_iff {L : List Ta} {t : Int} : inT L t = true ↔ 0 ≤ t ∧ t < L.length := by unfold inT; rw [inB_iff]; omega
theorem Accept_any (a : Option Addr) (n c : Nat) (L : List Ta) (F S : Int) (w : World) (hL : RdL w a n L) :
    Calls Tryz.prog 9 #[.slice a n c, .agg #[.int .i64 F, .int .i64 S]] w fun e w' => e = .returned (.int .i64 (accE L F S)) ∧ Below w.heap.size w w' := by
  have HR := Lib.hid hL
  unfold accE
  cases ho : okB L F S
  · have HO := Lib.hid ho
    clear hL ho
    go_enter Tryz.func9, Tryz.ntmps9
    go_wp2_with (go_at_call 23; (with_reducible refine (right25_is (HR.out.ext (Below.alloc (Below.refl _ _) (Nat.le_refl _) _)) HO.out).mono ?_); rintro e w1 ⟨rfl, hb1⟩; have B1 := Lib.hid hb1; have c0 := (hb1.cell (p := ⟨w.heap.size, 0, none⟩) (by simp)).trans (show _ = some (.int .i64 F) by simp [go_sem]); have c1 := (hb1.cell (p := ⟨w.heap.size, 1, none⟩) (by simp)).trans (show _ = some (.int .i64 S) by simp [go_sem]); clear hb1)
    go_ret
    exact ⟨rfl, (Below.then (Below.alloc (Below.refl _ _) (Nat.le_refl _) _) B1.out)⟩
  · have HO := Lib.hid ho
    obtain ⟨hv, hs⟩ := ok_of ho
    have HV := Lib.hid hv
    have HS := Lib.hid hs
    obtain ⟨x, hx⟩ : ∃ x, accB L F S = x := ⟨_, rfl⟩
    have HA := Lib.hid hx
    rw [if_pos rfl, hx]
    clear hL ho hv hs hx
    cases x
    all_goals
      go_enter Tryz.func9, Tryz.ntmps9
      go_wp2_with (first | (go_at_call 23; (with_reducible refine (right25_is (HR.out.ext (Below.alloc (Below.refl _ _) (Nat.le_refl _) _)) HO.out).mono ?_); rintro e w1 ⟨rfl, hb1⟩; have B1 := Lib.hid hb1; have c0 := (hb1.cell (p := ⟨w.heap.size, 0, none⟩) (by simp)).trans (show _ = some (.int .i64 F) by simp [go_sem]); have c1 := (hb1.cell (p := ⟨w.heap.size, 1, none⟩) (by simp)).trans (show _ = some (.int .i64 S) by simp [go_sem]); clear hb1) | (go_at_call 24; (with_reducible refine (acc_is ((HR.out.ext (Below.alloc (Below.refl _ _) (Nat.le_refl _) _)).ext B1.out) HV.out HS.out HA.out).mono ?_); rintro e w2 ⟨rfl, hb2⟩; have B2 := Lib.hid hb2; clear hb2))
      go_ret
      exact ⟨rfl, Below.then (Below.then (Below.alloc (Below.refl _ _) (Nat.le_refl _) _) B1.out) B2.out⟩
theorem Accept_is {a : Option Addr} {n c : Nat} {L : List Ta} {F S x : Int} {w : World} (hL : RdL w a n L) (h : accE L F S = x) :
    Calls Tryz.prog 9 #[.slice a n c, .agg #[.int .i64 F, .int .i64 S]] w fun e w' => e = .returned (.int .i64 x) ∧ Below w.heap.size w w' := by subst h; exact Accept_any a n c L F S w hL
set_option maxHeartbeats 1000000 in
theorem Slice_any (a : Option Addr) (n c : Nat) (L : List Ta) (F : Int) (w : World) (hL : RdL w a n L) :
    Calls Tryz.prog 16 #[.slice a n c, .int .i64 F] w fun e w' => e = rII (sliceR L F).1 (sliceR L F).2 ∧ Below w.heap.size w w' := by
  have HR := Lib.hid hL
  unfold sliceR
  cases ho : validL L
  · have HO := Lib.hid ho
    rw [Bool.false_and]
    clear hL ho
    go_enter Tryz.func16, Tryz.ntmps16
    go_wp2_with (go_at_call 42; (with_reducible refine (valid_is HR.out HO.out).mono ?_); rintro e w1 ⟨rfl, hb1⟩; have B1 := Lib.hid hb1; clear hb1)
    go_ret2
    exact ⟨rII_eq rfl rfl, B1.out⟩
  · have HO := Lib.hid ho
    have HV := Lib.hid (valid_of ho)
    rw [Bool.true_and]
    by_cases h0 : F < 1
    · rw [if_neg (by rw [inB_iff]; omega)]
      clear hL ho
      go_enter Tryz.func16, Tryz.ntmps16
      go_wp2_with (go_at_call 42; (with_reducible refine (valid_is HR.out HO.out).mono ?_); rintro e w1 ⟨rfl, hb1⟩; have B1 := Lib.hid hb1; clear hb1)
      go_ret2
      exact ⟨rII_eq rfl rfl, B1.out⟩
    · have h0' : decide (F < 1) = false := by simpa using h0
      by_cases h1 : 60 < F
      · rw [if_neg (by rw [inB_iff]; omega)]
        clear hL ho
        go_enter Tryz.func16, Tryz.ntmps16
        go_wp2_with (go_at_call 42; (with_reducible refine (valid_is HR.out HO.out).mono ?_); rintro e w1 ⟨rfl, hb1⟩; have B1 := Lib.hid hb1; clear hb1)
        go_ret2
        exact ⟨rII_eq rfl rfl, B1.out⟩
      · have h1' : decide (60 < F) = false := by simpa using h1
        rw [if_pos (by rw [inB_iff]; omega)]
        obtain ⟨f, rfl⟩ := Int.eq_ofNat_of_zero_le (show 0 ≤ F by omega)
        obtain ⟨X, hX⟩ : ∃ X, sliceGo L f f = X := ⟨_, rfl⟩
        have HX : Hid (sliceGo L f f = X) := Lib.hid hX
        rw [Int.toNat_natCast, hX]
        obtain ⟨x, y⟩ := X
        clear hL ho hX
        go_enter Tryz.func16, Tryz.ntmps16
        go_wp2_with (go_at_call 42; (with_reducible refine (valid_is HR.out HO.out).mono ?_); rintro e w1 ⟨rfl, hb1⟩; have B1 := Lib.hid hb1; clear hb1)
        go_loopw [6] (fun i wr => ∃ k : Nat, k ≤ f ∧ i = .int .i64 ((k : Int) - 1) ∧ sliceGo L f k = (x, y) ∧ Below w1.heap.size w1 wr) (fun i _ => (intOf i + 1).toNat)
        case atStart => exact ⟨f, Nat.le_refl _, rfl, HX.out, Below.refl _ _⟩
        case round =>
          clear HX
          obtain ⟨k, hk, rfl, he, hB⟩ := hrel
          have HE := Lib.hid he; have HB := Lib.hid hB
          clear he hB
          rcases Nat.eq_zero_or_pos k with hk0 | hk0
          · subst hk0
            have hE := HE.out
            rw [sliceGo] at hE
            simp only [Prod.mk.injEq] at hE
            obtain ⟨rfl, rfl⟩ := hE
            go_wp2
            go_ret2
            exact ⟨rII_eq rfl rfl, Below.then B1.out HB.out⟩
          · obtain ⟨j, rfl⟩ : ∃ j, k = j + 1 := ⟨k - 1, by omega⟩
            have hjj : ((j + 1 : Nat) : Int) - 1 = (j : Int) := by omega
            have hE := HE.out
            rw [sliceGo] at hE
            obtain ⟨m, hm⟩ : ∃ m, accB L f j = m := ⟨_, rfl⟩
            have HA := Lib.hid hm
            have HSU : Hid (supB (f : Int) (j : Int) = true) := Lib.hid (by rw [supB_iff]; omega)
            rw [hm] at hE
            clear hm
            rw [hjj]
            cases m
            · have HE2 : Hid (sliceGo L f j = (x, y)) := Lib.hid (by simpa using hE)
              clear hE
              go_wp2_with (go_at_call 24; (with_reducible refine (acc_is ((HR.out.ext B1.out).ext HB.out) HV.out HSU.out HA.out).mono ?_); rintro e w2 ⟨rfl, hb2⟩; have B2 := Lib.hid hb2; clear hb2)
              go_roundw
              case rel => exact ⟨j, by omega, by go_num, HE2.out, Below.then HB.out B2.out⟩
              case measure => simp [intOf]
            · simp at hE
              obtain ⟨rfl, rfl⟩ := hE
              go_wp2_with (go_at_call 24; (with_reducible refine (acc_is ((HR.out.ext B1.out).ext HB.out) HV.out HSU.out HA.out).mono ?_); rintro e w2 ⟨rfl, hb2⟩; have B2 := Lib.hid hb2; clear hb2)
              go_ret2
              exact ⟨rII_eq rfl rfl, Below.then B1.out (Below.then HB.out B2.out)⟩
theorem Slice_is {a : Option Addr} {n c : Nat} {L : List Ta} {F x e : Int} {w : World} (hL : RdL w a n L) (h : sliceR L F = (x, e)) :
    Calls Tryz.prog 16 #[.slice a n c, .int .i64 F] w fun en w' => en = rII x e ∧ Below w.heap.size w w' := by
  have := Slice_any a n c L F w hL
  rw [h] at this; exact this
set_option maxHeartbeats 1000000 in
theorem Cost_any (a : Option Addr) (n c : Nat) (L : List Ta) (t : Int) (w : World) (hL : RdL w a n L) :
    Calls Tryz.prog 21 #[.slice a n c, .int .i64 t] w fun e w' => e = rII (costR L t).1 (costR L t).2 ∧ Below w.heap.size w w' := by
  have hll := hL.length
  have hsm := hL.small
  have HR := Lib.hid hL
  unfold costR inT
  rw [hll]
  cases ho : validL L
  · have HO := Lib.hid ho
    rw [Bool.false_and]
    clear hL hll ho
    go_enter Tryz.func21, Tryz.ntmps21
    go_wp2_with (go_at_call 42; (with_reducible refine (valid_is HR.out HO.out).mono ?_); rintro e w1 ⟨rfl, hb1⟩; have B1 := Lib.hid hb1; clear hb1)
    go_ret2
    exact ⟨rII_eq rfl rfl, B1.out⟩
  · have HO := Lib.hid ho
    rw [Bool.true_and]
    by_cases h0 : t < 0
    · rw [if_neg (by rw [inB_iff]; omega)]
      clear hL hll ho
      go_enter Tryz.func21, Tryz.ntmps21
      go_wp2_with (go_at_call 42; (with_reducible refine (valid_is HR.out HO.out).mono ?_); rintro e w1 ⟨rfl, hb1⟩; have B1 := Lib.hid hb1; clear hb1)
      go_ret2
      exact ⟨rII_eq rfl rfl, B1.out⟩
    · have h0' : decide (t < 0) = false := by simpa using h0
      by_cases h1 : (n : Int) ≤ t
      · rw [if_neg (by rw [inB_iff]; omega)]
        clear hL hll ho
        go_enter Tryz.func21, Tryz.ntmps21
        go_wp2_with (go_at_call 42; (with_reducible refine (valid_is HR.out HO.out).mono ?_); rintro e w1 ⟨rfl, hb1⟩; have B1 := Lib.hid hb1; clear hb1)
        go_ret2
        exact ⟨rII_eq rfl rfl, B1.out⟩
      · rw [if_pos (by rw [inB_iff]; omega)]
        obtain ⟨q, rfl⟩ := Int.eq_ofNat_of_zero_le (Int.not_lt.1 h0)
        have hq : q < n := by omega
        have h1' : decide ((n : Int) ≤ (q : Int)) = false := by simpa using h1
        have h1'' : decide (n ≤ q) = false := by simp; omega
        have hv := valid_of ho
        obtain ⟨u, b, off, pa, pn, pc, rfl, hb, hg, hpl, HK⟩ := hL.cells q hq
        have hum := List.mem_of_getElem? hg
        have hpn := hv.r.pcs u hum
        rw [hpl] at hpn
        have HPV : Hid (∀ p ∈ u.pcs, 1 ≤ p.1 ∧ p.1 ≤ 200) := Lib.hid (fun p hp => (hv.r.piece u hum p hp).1)
        obtain ⟨ct, hct⟩ : ∃ x, costT u = x := ⟨_, rfl⟩
        have HCT := Lib.hid hct
        rw [taAt_of hg, hct]
        clear hL hll ho hv hum hg hpl hct
        go_enter Tryz.func21, Tryz.ntmps21
        go_wp2_with (first | (go_at_call 42; (with_reducible refine (valid_is HR.out HO.out).mono ?_); rintro e w1 ⟨rfl, hb1⟩; have B1 := Lib.hid hb1; obtain ⟨k0, k1, k2, k3, k4, k5, hbw, hpp⟩ := HK.out w1 hb1; have HPP := Lib.hid hpp; clear hpp; clear hb1) | (go_at_call 56; (with_reducible refine (bcost_is HPP.out HPV.out hpn.2 HCT.out).mono ?_); rintro e w2 ⟨rfl, hb2⟩; have B2 := Lib.hid hb2; clear hb2))
        go_ret2
        exact ⟨rII_eq rfl rfl, (by repeat (first | (with_reducible exact Below.refl _ _) | (refine Below.then ?_ (Hid.out (by with_reducible assumption)))))⟩
theorem Cost_is {a : Option Addr} {n c : Nat} {L : List Ta} {t x e : Int} {w : World} (hL : RdL w a n L) (h : costR L t = (x, e)) :
    Calls Tryz.prog 21 #[.slice a n c, .int .i64 t] w fun en w' => en = rII x e ∧ Below w.heap.size w w' := by
  have := Cost_any a n c L t w hL
  rw [h] at this; exact this
set_option maxHeartbeats 1000000 in
theorem rCost_any (a : Option Addr) (n c : Nat) (L : List Ta) (t : Int) (w : World) (hL : RdL w a n L) :
    Calls Tryz.prog 59 #[.slice a n c, .int .i64 t] w fun e w' => e = rII (costR L t).1 (costR L t).2 ∧ Below w.heap.size w w' := by
  have hll := hL.length
  have hsm := hL.small
  have HR := Lib.hid hL
  unfold costR inT
  rw [hll]
  cases ho : validL L
  · have HO := Lib.hid ho
    rw [Bool.false_and]
    clear hL hll ho
    go_enter Tryz.func59, Tryz.ntmps59
    go_wp2_with (go_at_call 30; (with_reducible refine (rValid_is HR.out HO.out).mono ?_); rintro e w1 ⟨rfl, hb1⟩; have B1 := Lib.hid hb1; clear hb1)
    go_ret2
    exact ⟨rII_eq rfl rfl, B1.out⟩
  · have HO := Lib.hid ho
    rw [Bool.true_and]
    by_cases h0 : t < 0
    · rw [if_neg (by rw [inB_iff]; omega)]
      clear hL hll ho
      go_enter Tryz.func59, Tryz.ntmps59
      go_wp2_with (go_at_call 30; (with_reducible refine (rValid_is HR.out HO.out).mono ?_); rintro e w1 ⟨rfl, hb1⟩; have B1 := Lib.hid hb1; clear hb1)
      go_ret2
      exact ⟨rII_eq rfl rfl, B1.out⟩
    · have h0' : decide (t < 0) = false := by simpa using h0
      by_cases h1 : (n : Int) ≤ t
      · rw [if_neg (by rw [inB_iff]; omega)]
        clear hL hll ho
        go_enter Tryz.func59, Tryz.ntmps59
        go_wp2_with (go_at_call 30; (with_reducible refine (rValid_is HR.out HO.out).mono ?_); rintro e w1 ⟨rfl, hb1⟩; have B1 := Lib.hid hb1; clear hb1)
        go_ret2
        exact ⟨rII_eq rfl rfl, B1.out⟩
      · rw [if_pos (by rw [inB_iff]; omega)]
        obtain ⟨q, rfl⟩ := Int.eq_ofNat_of_zero_le (Int.not_lt.1 h0)
        have hq : q < n := by omega
        have h1' : decide ((n : Int) ≤ (q : Int)) = false := by simpa using h1
        have h1'' : decide (n ≤ q) = false := by simp; omega
        have hv := valid_of ho
        obtain ⟨u, b, off, pa, pn, pc, rfl, hb, hg, hpl, HK⟩ := hL.cells q hq
        have hum := List.mem_of_getElem? hg
        have hpn := hv.r.pcs u hum
        rw [hpl] at hpn
        have HPV : Hid (∀ p ∈ u.pcs, 1 ≤ p.1 ∧ p.1 ≤ 200) := Lib.hid (fun p hp => (hv.r.piece u hum p hp).1)
        obtain ⟨ct, hct⟩ : ∃ x, costT u = x := ⟨_, rfl⟩
        have HCT := Lib.hid hct
        rw [taAt_of hg, hct]
        clear hL hll ho hv hum hg hpl hct
        go_enter Tryz.func59, Tryz.ntmps59
        go_wp2_with (first | (go_at_call 30; (with_reducible refine (rValid_is HR.out HO.out).mono ?_); rintro e w1 ⟨rfl, hb1⟩; have B1 := Lib.hid hb1; obtain ⟨k0, k1, k2, k3, k4, k5, hbw, hpp⟩ := HK.out w1 hb1; have HPP := Lib.hid hpp; clear hpp; clear hb1) | (go_at_call 83; (with_reducible refine (rcost_is HPP.out HPV.out hpn.2 HCT.out).mono ?_); rintro e w2 ⟨rfl, hb2⟩; have B2 := Lib.hid hb2; clear hb2))
        go_ret2
        exact ⟨rII_eq rfl rfl, (by repeat (first | (with_reducible exact Below.refl _ _) | (refine Below.then ?_ (Hid.out (by with_reducible assumption)))))⟩
theorem rCost_is {a : Option Addr} {n c : Nat} {L : List Ta} {t x e : Int} {w : World} (hL : RdL w a n L) (h : costR L t = (x, e)) :
    Calls Tryz.prog 59 #[.slice a n c, .int .i64 t] w fun en w' => en = rII x e ∧ Below w.heap.size w w' := by
  have := rCost_any a n c L t w hL
  rw [h] at this; exact this
end Go.Proofs.YtmahagcghpoekaaGreat
namespace Go.Proofs.YtmahagcghpoekaaGreat
open Go.RowKit
set_option linter.unusedSimpArgs false
set_option linter.unusedVariables false
end Go.Proofs.YtmahagcghpoekaaGreat
namespace Go.Proofs.YtmahagcghpoekaaGreat
open Go.RowKit
set_option linter.unusedSimpArgs false
set_option linter.unusedVariables false
/-- what is asked of a predicate handed over as a function value: it can be called, and in every later world it gives p -/
structure PredOn (g : Nat) (lb : Array Value) {α : Type} (val : α → Value) (p : α → Bool) (w : World) : Prop where
  eg : ∀ args w, (callFunc g args).run Tryz.prog w = .ok (.enter g args) w
  gives : ∀ (x : α) (w' : World), Below w.heap.size w w' → Calls Tryz.prog g (#[val x] ++ lb) w' fun e w'' => e = .returned (.bool (p x)) ∧ Below w'.heap.size w' w''
abbrev val2 (x : P2) : Value := .agg #[.int .i64 x.1, .int .i64 x.2]
theorem indexFunc2 (g : Nat) (lb : Array Value) (p : P2 → Bool) (a : Option Addr) (n c : Nat) (xs : List P2) (w : World) (hR : Rd w a n 2 (xs.map enc2)) (hf : PredOn g lb val2 p w) :
    Calls Tryz.prog 76 #[.slice a n c, .func (.func g) #[] lb] w fun e w' => e = .returned (.int .i64 (idxGo p 0 xs)) ∧ Below w.heap.size w w' := by
  have hl := hR.length
  have HL := Lib.hid hl; clear hl
  have hs := hR.small
  have HR := Lib.hid hR; clear hR
  have eg := hf.eg
  have HF := Lib.hid hf.gives; clear hf
  generalize hg : idxGo p 0 xs = R
  have HG := Lib.hid hg; clear hg
  go_enter Tryz.func76, Tryz.ntmps76
  go_wp2
  go_loopw [8] (fun i wr => ∃ k : Nat, k ≤ n ∧ i = .int .i64 k ∧ idxGo p k (xs.drop k) = R ∧ Below w.heap.size w wr) (fun i _ => n - (intOf i).toNat)
  case atStart => exact ⟨0, Nat.zero_le _, rfl, HG.out, Below.refl _ _⟩
  case round =>
    obtain ⟨k, hk, rfl, he, hB⟩ := hrel
    have HE := Lib.hid he; clear he
    by_cases hlt : k < n
    · obtain ⟨x, b, off, rfl, hb, h1, h2, HD⟩ := (HR.out.ext hB).next2 k hlt
      have hcall := HF.out x wr hB
      have HB := Lib.hid hB; clear hB
      have HE2 : Hid ((if p x = true then (k : Int) else idxGo p (k + 1) (xs.drop (k + 1))) = R) := by have := HE.out; rw [HD.out] at this; exact this
      cases hq : p x
      · rw [hq] at hcall HE2
        go_wp2_with (go_at_fn g; refine hcall.mono ?_; rintro e w1 ⟨rfl, hb1⟩)
        go_roundw
        case rel => exact ⟨k + 1, by omega, by go_num, by simpa using HE2.out, HB.out.trans (hb1.mono HB.out.size)⟩
        case measure => simp [intOf]; omega
      · rw [hq] at hcall HE2
        have : R = k := by simpa using HE2.out.symm
        subst this
        go_wp2_with (go_at_fn g; refine hcall.mono ?_; rintro e w1 ⟨rfl, hb1⟩)
        go_ret
        exact ⟨rfl, HB.out.trans (hb1.mono HB.out.size)⟩
    · have : R = -1 := by rw [← HE.out, drop_end HL.out (by omega)]; rfl
      subst this
      go_wp2
      go_ret
      exact ⟨rfl, hB⟩
theorem containsFunc2 (g : Nat) (lb : Array Value) (p : P2 → Bool) (a : Option Addr) (n c : Nat) (xs : List P2) (w : World) (hR : Rd w a n 2 (xs.map enc2)) (hf : PredOn g lb val2 p w) :
    Calls Tryz.prog 53 #[.slice a n c, .func (.func g) #[] lb] w fun e w' => e = .returned (.bool (xs.any p)) ∧ Below w.heap.size w w' := by
  have HR := Lib.hid hR; clear hR
  have HF := Lib.hid hf; clear hf
  go_enter Tryz.func53, Tryz.ntmps53
  go_wp2_with (go_at_call 76; refine (indexFunc2 _ _ _ _ _ _ _ _ HR.out HF.out).mono ?_; rintro e w1 ⟨rfl, hb1⟩)
  go_ret
  exact ⟨ret_bool (idxGo_any p xs 0), by (repeat' (first | (with_reducible exact Below.refl _ _) | (with_reducible assumption) | (with_reducible refine Below.alloc ?_ ?_ _) | (with_reducible refine Below.drew ?_) | (with_reducible refine Below.draws ?_ _) | (with_reducible refine Below.setCell ?_ ?_ _) | (refine Below.then ?_ (by with_reducible assumption)) | go_size))⟩
theorem indexFuncS (g : Nat) (lb : Array Value) {α : Type} (val : α → Value) (p : α → Bool) (a : Option Addr) (n c : Nat) (xs : List α) (w : World) (hR : Rd w a n 1 (xs.map fun x => [val x])) (hf : PredOn g lb val p w) :
    Calls Tryz.prog 75 #[.slice a n c, .func (.func g) #[] lb] w fun e w' => e = .returned (.int .i64 (idxGo p 0 xs)) ∧ Below w.heap.size w w' := by
  have hl := hR.length
  have HL := Lib.hid hl; clear hl
  have hs := hR.small
  have HR := Lib.hid hR; clear hR
  have eg := hf.eg
  have HF := Lib.hid hf.gives; clear hf
  generalize hg : idxGo p 0 xs = R
  have HG := Lib.hid hg; clear hg
  go_enter Tryz.func75, Tryz.ntmps75
  go_wp2
  go_loopw [8] (fun i wr => ∃ k : Nat, k ≤ n ∧ i = .int .i64 k ∧ idxGo p k (xs.drop k) = R ∧ Below w.heap.size w wr) (fun i _ => n - (intOf i).toNat)
  case atStart => exact ⟨0, Nat.zero_le _, rfl, HG.out, Below.refl _ _⟩
  case round =>
    obtain ⟨k, hk, rfl, he, hB⟩ := hrel
    have HE := Lib.hid he; clear he
    by_cases hlt : k < n
    · obtain ⟨x, b, off, rfl, hb, h1, HD⟩ := (HR.out.ext hB).nextV k hlt
      have hcall := HF.out x wr hB
      have HB := Lib.hid hB; clear hB
      have HE2 : Hid ((if p x = true then (k : Int) else idxGo p (k + 1) (xs.drop (k + 1))) = R) := by have := HE.out; rw [HD.out] at this; exact this
      cases hq : p x
      · rw [hq] at hcall HE2
        go_wp2_with (go_at_fn g; refine hcall.mono ?_; rintro e w1 ⟨rfl, hb1⟩)
        go_roundw
        case rel => exact ⟨k + 1, by omega, by go_num, by simpa using HE2.out, HB.out.trans (hb1.mono HB.out.size)⟩
        case measure => simp [intOf]; omega
      · rw [hq] at hcall HE2
        have : R = k := by simpa using HE2.out.symm
        subst this
        go_wp2_with (go_at_fn g; refine hcall.mono ?_; rintro e w1 ⟨rfl, hb1⟩)
        go_ret
        exact ⟨rfl, HB.out.trans (hb1.mono HB.out.size)⟩
    · have : R = -1 := by rw [← HE.out, drop_end HL.out (by omega)]; rfl
      subst this
      go_wp2
      go_ret
      exact ⟨rfl, hB⟩
theorem containsFuncS (g : Nat) (lb : Array Value) {α : Type} (val : α → Value) (p : α → Bool) (a : Option Addr) (n c : Nat) (xs : List α) (w : World) (hR : Rd w a n 1 (xs.map fun x => [val x])) (hf : PredOn g lb val p w) :
    Calls Tryz.prog 49 #[.slice a n c, .func (.func g) #[] lb] w fun e w' => e = .returned (.bool (xs.any p)) ∧ Below w.heap.size w w' := by
  have HR := Lib.hid hR; clear hR
  have HF := Lib.hid hf; clear hf
  go_enter Tryz.func49, Tryz.ntmps49
  go_wp2_with (go_at_call 75; refine (indexFuncS _ _ _ _ _ _ _ _ _ HR.out HF.out).mono ?_; rintro e w1 ⟨rfl, hb1⟩)
  go_ret
  exact ⟨ret_bool (idxGo_any p xs 0), by (repeat' (first | (with_reducible exact Below.refl _ _) | (with_reducible assumption) | (with_reducible refine Below.alloc ?_ ?_ _) | (with_reducible refine Below.drew ?_) | (with_reducible refine Below.draws ?_ _) | (with_reducible refine Below.setCell ?_ ?_ _) | (refine Below.then ?_ (by with_reducible assumption)) | go_size))⟩
end Go.Proofs.YtmahagcghpoekaaGreat
