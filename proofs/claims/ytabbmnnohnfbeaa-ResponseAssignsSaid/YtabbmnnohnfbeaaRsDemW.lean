/- The contracts of demand of response (a closure) and of its reference. The conditions: the tasks read as named and are valid. -/
import Derived.Test.YtabbmnnohnfbeaaRsMem
namespace Go.Proofs.Ytabbmnnohnfbeaa
open Go.RowKit
set_option linter.unusedSimpArgs false
set_option linter.unusedVariables false
/-- the place of x -/
theorem indexR_any (a : Option Addr) (n c p : Nat) (xs : List Int) (x : Int) (w : World) (hR : Rd w a n 1 (xs.map enc1)) (hx : xs[p]? = some x) (hn : xs.Nodup) :
    Calls Try.prog 108 #[.slice a n c, .int .i64 x] w fun e w' => e = .returned (.int .i64 (p : Nat)) ∧ w = w' := by
  have hs := hR.small
  have hpl := (List.getElem?_eq_some_iff.1 hx).1
  rw [hR.length] at hpl
  have HR := Lib.hid hR
  have HU : Hid (∀ k y, xs[k]? = some y → y = x → k = p) := Lib.hid (fun k y hk e => by
    obtain ⟨h1, e1⟩ := List.getElem?_eq_some_iff.1 hk
    obtain ⟨h2, e2⟩ := List.getElem?_eq_some_iff.1 hx
    exact (List.getElem_inj hn).1 (by rw [e1, e2, e]))
  have HX := Lib.hid hx
  clear hR hn hx
  go_enter Try.func108, Try.ntmps108
  go_wp2
  go_loop [8] (fun i => ∃ k : Nat, k ≤ p ∧ i = .int .i64 k) (fun i => n - (intOf i).toNat)
  case atStart => exact ⟨0, Nat.zero_le _, rfl⟩
  case round =>
    obtain ⟨k, hk, rfl⟩ := hrel
    have hlt : k < n := by omega
    obtain ⟨y, b, off, rfl, hb, hc, hy⟩ := HR.out.idx k hlt
    by_cases hxy : y = x
    · obtain rfl := HU.out k y hy hxy
      subst hxy
      clear hy
      go_wp2
      go_ret
      exact ⟨rfl, rfl⟩
    · have hxy' : (x == y) = false := by simpa using fun q => hxy (q.symm)
      have hkp : k ≠ p := by
        rintro rfl
        rw [HX.out] at hy
        exact hxy (by simpa using hy.symm)
      clear hy
      go_wp2
      go_round
      case rel => exact ⟨k + 1, by omega, by go_num⟩
      case measure => simp [intOf]; omega
theorem bcost_is {t : Ta} {pa : Option Addr} {pn pc : Nat} {x : Int} {w : World} (hp : Rd w pa pn 2 (t.pcs.map enc2)) (hv : ∀ q ∈ t.pcs, 1 ≤ q.1 ∧ q.1 ≤ 200) (hn : pn ≤ 8) (h : costT t = x) :
    Calls Try.prog 69 #[.agg #[.int .i64 t.pri, .int .i64 t.dl, .int .i64 t.first, .int .i64 t.gap, .int .i64 t.jit, .slice pa pn pc]] w fun e w' => e = .returned (.int .i64 x) ∧ Below w.heap.size w w' := by
  subst h; exact cost_any _ _ _ _ _ pa pn pc t.pcs w hp hv hn
theorem rcost_is {t : Ta} {pa : Option Addr} {pn pc : Nat} {x : Int} {w : World} (hp : Rd w pa pn 2 (t.pcs.map enc2)) (hv : ∀ q ∈ t.pcs, 1 ≤ q.1 ∧ q.1 ≤ 200) (hn : pn ≤ 8) (h : costT t = x) :
    Calls Try.prog 60 #[.agg #[.int .i64 t.pri, .int .i64 t.dl, .int .i64 t.first, .int .i64 t.gap, .int .i64 t.jit, .slice pa pn pc]] w fun e w' => e = .returned (.int .i64 x) ∧ Below w.heap.size w w' := by
  subst h; exact rcost_any _ _ _ _ _ pa pn pc t.pcs w hp hv hn
theorem Blocking_is {a : Option Addr} {n c : Nat} {L : List Ta} {t x e : Int} {w : World} (hL : RdL w a n L) (h : blkgR L t = (x, e)) :
    Calls Try.prog 107 #[.slice a n c, .int .i64 t] w fun en w' => en = rII x e ∧ Below w.heap.size w w' := by
  have := Blocking_any a n c L t w hL
  rw [h] at this; exact this
/-- what the closure of demand has captured -/
structure DemC (L : List Ta) (q : Nat) (a : Option Addr) (n c o h b : Nat) (w : World) : Prop where
  own : w.cell? ⟨o, 0, none⟩ = some (.int .i64 (ownN L q))
  box : w.cell? ⟨b, 0, none⟩ = some (.slice a n c)
  ho : o < w.heap.size
  hb : b < w.heap.size
  hh : h < w.heap.size
  ahead : ∃ (a2 : Option Addr) (c2 : Nat), w.cell? ⟨h, 0, none⟩ = some (.slice a2 (cnt L q) c2) ∧ Rd w a2 (cnt L q) 1 (((rankL L).take (cnt L q)).map enc1)
  rd : RdL w a n L
theorem DemC.ext {L : List Ta} {q : Nat} {a : Option Addr} {n c o h b : Nat} {w w' : World} (hc : DemC L q a n c o h b w) (hb : Below w.heap.size w w') : DemC L q a n c o h b w' := by
  obtain ⟨a2, c2, h1, h2⟩ := hc.ahead
  exact ⟨(hb.cell (p := ⟨o, 0, none⟩) hc.ho).trans hc.own, (hb.cell (p := ⟨b, 0, none⟩) hc.hb).trans hc.box, Nat.lt_of_lt_of_le hc.ho hb.size, Nat.lt_of_lt_of_le hc.hb hb.size, Nat.lt_of_lt_of_le hc.hh hb.size,
    ⟨a2, c2, (hb.cell (p := ⟨h, 0, none⟩) hc.hh).trans h1, h2.ext hb⟩, hc.rd.ext hb⟩
theorem owns_cap {w : World} {B e k n c : Nat} {a : Option Addr} {xs : List Value} (h : w.ownsRow B e k (.slice a n c) n xs) : n ≤ c := by
  rcases h.2 with ⟨hv, h8⟩ | ⟨g, cap, cur, hv, _, _, hle, _⟩
  · omega
  · simp at hv
    obtain ⟨_, rfl⟩ := hv
    omega
/-- a task's cells, in every later world -/
theorem RdL.cells {w : World} {a : Option Addr} {n : Nat} {L : List Ta} (h : RdL w a n L) (k : Nat) (hk : k < n) : ∃ (t : Ta) (b off : Nat) (pa : Option Addr) (pn pc : Nat), a = some ⟨b, off, none⟩ ∧ b < w.heap.size ∧ L[k]? = some t ∧ t.pcs.length = pn ∧ Hid (∀ wx : World, Below w.heap.size w wx →
    wx.cell? ⟨b, off + k * 6, none⟩ = some (.int .i64 t.pri) ∧ wx.cell? ⟨b, off + k * 6 + 1, none⟩ = some (.int .i64 t.dl) ∧ wx.cell? ⟨b, off + k * 6 + 2, none⟩ = some (.int .i64 t.first) ∧ wx.cell? ⟨b, off + k * 6 + 3, none⟩ = some (.int .i64 t.gap) ∧
    wx.cell? ⟨b, off + k * 6 + 4, none⟩ = some (.int .i64 t.jit) ∧ wx.cell? ⟨b, off + k * 6 + 5, none⟩ = some (.slice pa pn pc) ∧ b < wx.heap.size ∧ Rd wx pa pn 2 (t.pcs.map enc2)) := by
  obtain ⟨t, b, off, pa, pn, pc, rfl, hb, c0, c1, c2, c3, c4, c5, hp, _, hg, _⟩ := h.at_ k hk
  exact ⟨t, b, off, pa, pn, pc, rfl, hb, hg, hp.length, fun wx h => ⟨(h.cell (p := ⟨b, off + k * 6, none⟩) hb).trans c0, (h.cell (p := ⟨b, off + k * 6 + 1, none⟩) hb).trans c1, (h.cell (p := ⟨b, off + k * 6 + 2, none⟩) hb).trans c2, (h.cell (p := ⟨b, off + k * 6 + 3, none⟩) hb).trans c3, (h.cell (p := ⟨b, off + k * 6 + 4, none⟩) hb).trans c4, (h.cell (p := ⟨b, off + k * 6 + 5, none⟩) hb).trans c5, Nat.lt_of_lt_of_le hb h.size, hp.ext h⟩⟩
theorem Rd.take1 {w : World} {a : Option Addr} {n k : Nat} {xs : List Int} (h : Rd w a n 1 (xs.map enc1)) (hk : k ≤ n) : Rd w a k 1 ((xs.take k).map enc1) := by
  have hl := h.length
  refine ⟨by simp; omega, Nat.le_trans hk h.small, fun h0 => ?_⟩
  obtain ⟨b, off, rfl, hb, hc⟩ := h.at_ (by omega)
  refine ⟨b, off, rfl, hb, fun i hi j hj => ?_⟩
  have hi' : i < xs.length := by simp at hi; omega
  have := hc i (by simpa using hi') j hj
  rw [this]
  simp
set_option maxRecDepth 10000 in
set_option maxHeartbeats 2000000 in
theorem demand_any (a : Option Addr) (n c q : Nat) (L : List Ta) (w : World) (hL : RdL w a n L) (hv : ValidT L) (hq : q < n) :
    Calls Try.prog 70 #[.slice a n c, .int .i64 (q : Nat)] w fun e w' => ∃ o h b, e = .returned (.func (.func 109) #[] #[.pointer (some ⟨o, 0, none⟩), .pointer (some ⟨h, 0, none⟩), .pointer (some ⟨b, 0, none⟩)]) ∧ DemC L q a n c o h b w' ∧ Below w.heap.size w w' := by
  have hll := hL.length
  have hs := hL.small
  have hn5 := hv.r.len
  rw [hll] at hn5
  obtain ⟨u, b, off, pa, pn, pc, rfl, hb, hg, hpl, HK⟩ := hL.cells q hq
  have hpn := hv.r.pcs u (List.mem_of_getElem? hg)
  rw [hpl] at hpn
  have HPV : Hid (∀ p ∈ u.pcs, 1 ≤ p.1 ∧ p.1 ≤ 200) := Lib.hid (fun p hp => (hv.r.piece u (List.mem_of_getElem? hg) p hp).1)
  have HRK : Hid (ranksR L = (rankL L, 0)) := Lib.hid (by rw [ranksR, hv.rb]; rfl)
  have HBK : Hid (blkgR L q = (blockN L q, 0)) := Lib.hid (by rw [blkgR, isTk_iff.2 ⟨hv.rb, by omega, by omega⟩]; rfl)
  have HPL : Hid ((rankL L)[cnt L q]? = some (q : Int)) := Lib.hid (rank_at (by omega) (by omega))
  have hcq : cnt L q < n := by have := cnt_lt (L := L) (x := q) (by omega) (by omega); omega
  have HND := Lib.hid (rank_nodup L)
  have HRL : Hid ((rankL L).length = n) := Lib.hid (by rw [rank_len, hll])
  have hbk := blockN_bd hv.r q
  have hct := costT_bd hv.r (List.mem_of_getElem? hg)
  have HOW : Hid (ownN L q = costT u + blockN L q) := Lib.hid (by rw [ownN, taAt_of hg])
  have HV := Lib.hid hv
  have HR := Lib.hid hL
  obtain ⟨bn, hbn⟩ : ∃ x, blockN L q = x := ⟨_, rfl⟩
  obtain ⟨cq, hcqe⟩ : ∃ x, cnt L q = x := ⟨_, rfl⟩
  obtain ⟨ct, hcte⟩ : ∃ x, costT u = x := ⟨_, rfl⟩
  obtain ⟨rk, hrke⟩ : ∃ x, rankL L = x := ⟨_, rfl⟩
  have HCT := Lib.hid hcte
  have HCQ := Lib.hid hcqe
  have HRE := Lib.hid hrke
  rw [hbn] at HBK hbk HOW
  rw [hcqe] at HPL hcq
  rw [hcte] at hct HOW
  rw [hrke] at HRK HPL HND HRL
  clear hL hv hll hg hbn hcqe hcte hrke hb hpl
  go_enter Try.func70, Try.ntmps70
  go_wp2_with (first
    | (go_at_call 72; (with_reducible refine (Ranks_is (HR.out.ext (by (repeat' (first | (with_reducible exact Below.refl _ _) | (with_reducible assumption) | (with_reducible refine Below.alloc ?_ ?_ _) | (with_reducible refine Below.drew ?_) | (with_reducible refine Below.draws ?_ _) | (with_reducible refine Below.setCell ?_ ?_ _) | (refine Below.then ?_ (by with_reducible assumption)) | go_size)))) HRK.out).mono ?_); rintro e w1 ⟨a1, n1, c1, rfl, ho1, hb1⟩; have R1 := Lib.hid (ownsI_rd ho1); have hca1 := owns_cap ho1; have hn1 : rk.length = n1 := (ownsI_rd ho1).length; have x0 := (hb1.cell (p := ⟨w.heap.size, 0, none⟩) (by simp)).trans (show _ = some (.slice (some ⟨b, off, none⟩) n c) by simp [go_sem]); have hz1 := hb1.size; have W1 : Hid (Below w.heap.size w w1) := Lib.hid (Below.then (Below.alloc (Below.refl _ _) (Nat.le_refl _) _) hb1); clear ho1 hb1; simp only [World.size_alloc] at hz1)
    | (go_at_call 107; (with_reducible refine (Blocking_is (HR.out.ext (by repeat (first | (with_reducible exact Below.refl _ _) | (refine Below.then ?_ (Hid.out (by with_reducible assumption)))))) HBK.out).mono ?_); rintro e w2 ⟨rfl, hb2⟩; have x1 := (hb2.cell (p := ⟨w.heap.size, 0, none⟩) (by simp only []; omega)).trans x0; have B2 := Lib.hid hb2; have hz2 := hb2.size; have hs3 : w.heap.size < w2.heap.size := (by omega); have hcc : cq ≤ c1 := (by have := HRL.out; omega); obtain ⟨k0, k1, k2, k3, k4, k5, hbw2, hpp⟩ := HK.out w2 (Below.then W1.out hb2); have HPP := Lib.hid hpp; clear hb2 hpp)
    | (go_at_call 108; (with_reducible refine (indexR_any _ _ _ _ _ _ _ (R1.out.ext B2.out) HPL.out HND.out).mono ?_); rintro e w3 ⟨rfl, rfl⟩)
    | (go_at_call 69; (with_reducible refine (bcost_is (HPP.out.ext (Below.alloc (Below.refl _ _) (Nat.le_refl _) _)) HPV.out hpn.2 HCT.out).mono ?_); rintro e w4 ⟨rfl, hb4⟩; have B4 := Lib.hid hb4; have y9 := (hb4.cell (p := ⟨w2.heap.size, 0, none⟩) (by simp)).trans (show _ = some (.slice a1 cq c1) by simp [go_sem]); have y0 := (hb4.cell (p := ⟨w.heap.size, 0, none⟩) (by simp; omega)).trans (show _ = some (.slice (some ⟨b, off, none⟩) n c) by simp [go_sem, *]); have hz4 := hb4.size; simp only [World.size_alloc] at hz4; clear hb4))
  go_ret
  have hW : Below w.heap.size w w4 := Below.then (Below.alloc (Below.then W1.out B2.out) (by omega) _) B4.out
  have hX : Below w4.heap.size w4 (w4.alloc (.cells #[.int .i64 (ct + bn)] 3)) := Below.alloc (Below.refl _ _) (Nat.le_refl _) _
  refine ⟨_, _, _, rfl, ⟨by rw [HOW.out]; simp [go_sem], (hX.cell (p := ⟨w.heap.size, 0, none⟩) (by simp only []; omega)).trans y0, by simp, by simp; omega, by simp; omega, ⟨a1, c1, ?_, ?_⟩, HR.out.ext (hW.trans (hX.mono (by omega)))⟩, hW.trans (hX.mono (by omega))⟩
  · rw [HCQ.out]; exact (hX.cell (p := ⟨w2.heap.size, 0, none⟩) (by simp only []; omega)).trans y9
  · rw [HCQ.out, HRE.out]
    have hB : Below w1.heap.size w1 w4 := Below.then (Below.alloc B2.out B2.out.size _) B4.out
    exact ((R1.out.ext hB).ext hX).take1 (by have := HRL.out; omega)
theorem most_is {f g j v x : Int} {w : World} (hv : vpat f g j = true) (h0 : 0 ≤ v ∧ v ≤ 1000000) (h : mostN g j v = x) : Calls Try.prog 110 #[.agg #[.int .i64 f, .int .i64 g, .int .i64 j], .int .i64 v] w fun e w' => e = rII x 0 ∧ Below w.heap.size w w' := by
  have := most_any f g j v w
  rw [show mostR f g j v = (x, 0) by rw [mostR, hv, inB_iff.2 h0, h]; rfl] at this
  exact this
theorem rmost_is {f g j v x : Int} {w : World} (hv : vpat f g j = true) (h0 : 0 ≤ v ∧ v ≤ 1000000) (h : mostN g j v = x) : Calls Try.prog 112 #[.agg #[.int .i64 f, .int .i64 g, .int .i64 j], .int .i64 v] w fun e w' => e = rII x 0 ∧ Below w.heap.size w w' := by
  have := rmost_any f g j v w
  rw [show mostR f g j v = (x, 0) by rw [mostR, hv, inB_iff.2 h0, h]; rfl] at this
  exact this
theorem demL_cons {L : List Ta} {w : Int} {k : Int} {ks : List Int} {n : Int} : demL L w (k :: ks) n = demL L w ks (n + demT (taAt L k) w) := rfl
set_option maxRecDepth 10000 in
set_option maxHeartbeats 2000000 in
theorem demf_any (a : Option Addr) (n c q o h b : Nat) (L : List Ta) (v : Int) (w : World) (hv : ValidT L) (hq : q < n) (hc : DemC L q a n c o h b w) (h0 : 0 ≤ v ∧ v ≤ 1000000) :
    Calls Try.prog 109 #[.int .i64 v, .pointer (some ⟨o, 0, none⟩), .pointer (some ⟨h, 0, none⟩), .pointer (some ⟨b, 0, none⟩)] w fun e w' => e = .returned (.int .i64 (demN L q v)) ∧ Below w.heap.size w w' := by
  have hll := hc.rd.length
  have hn5 := hv.r.len
  have hs := hc.rd.small
  rw [hll] at hn5
  have hown := ownN_bd hv.r (i := q) (by omega) (by omega)
  obtain ⟨R, hR⟩ : ∃ R, demN L q v = R := ⟨_, rfl⟩
  have hcl := cnt_lt (L := L) (x := q) (by omega) (by omega)
  obtain ⟨a2, c2, hh0, hrd⟩ := hc.ahead
  obtain ⟨ks, hks⟩ : ∃ ks, (rankL L).take (cnt L q) = ks := ⟨_, rfl⟩
  obtain ⟨m, hm⟩ : ∃ m, cnt L q = m := ⟨_, rfl⟩
  obtain ⟨ow, how⟩ : ∃ x, ownN L q = x := ⟨_, rfl⟩
  have HA : Hid (demL L v (ks.drop 0) ow = R) := Lib.hid (by rw [← hR, ← hks, ← how]; exact demN_take (by omega) (by omega))
  have hown2 := hc.own
  rw [how] at hown hown2
  rw [hks, hm] at hrd
  rw [hm] at hh0
  have HKM : Hid (∀ k ∈ ks, 0 ≤ k ∧ k < n) := Lib.hid (fun k hk => by
    rw [← hks] at hk
    have := rank_mem.1 (List.mem_of_mem_take hk)
    rw [hll] at this; exact this)
  have HBD : Hid (∀ (j : Nat) (x : Int), x ≤ demL L v (ks.drop j) x ∧ demL L v (ks.drop j) x ≤ x + 8080008000) := Lib.hid (fun j x => by
    have h1 := demL_bd hv h0 (ks.drop j) x (fun k hk => by
      have := List.mem_of_mem_drop hk
      rw [← hks] at this
      exact rank_mem.1 (List.mem_of_mem_take this))
    have h2 : (ks.drop j).length ≤ 5 := by
      rw [List.length_drop, ← hks, List.length_take, rank_len, hll]; omega
    have h3 : (1616001600 : Int) * ((ks.drop j).length : Int) ≤ 1616001600 * 5 := Int.mul_le_mul_of_nonneg_left (by omega) (by omega)
    omega)
  have hRB : R ≤ 8080009800 := by have := (HBD.out 0 ow).2; rw [HA.out] at this; omega
  have hbb := hc.box
  have hls := hrd.small
  have hlo := hc.ho
  have hlb := hc.hb
  have HRD := Lib.hid hrd
  have HL := Lib.hid hc.rd
  have HLN := Lib.hid hrd.length
  have HV := Lib.hid hv
  rw [hR]
  clear hv hc hll hR hcl hks hm how hrd
  go_enter Try.func109, Try.ntmps109
  go_wp2
  go_loopw [6, 14] (fun u i wr => ∃ (k : Nat) (s : Int), k ≤ m ∧ u = .int .i64 s ∧ i = .int .i64 k ∧ 0 ≤ s ∧ demL L v (ks.drop k) s = R ∧ Below w.heap.size w wr) (fun _ i _ => m - (intOf i).toNat)
  case atStart => exact ⟨0, ow, Nat.zero_le _, rfl, rfl, by omega, HA.out, Below.refl _ _⟩
  case round =>
    clear HA
    obtain ⟨k, s, hk, rfl, rfl, hs0, he, hB⟩ := hrel
    have HE := Lib.hid he; have HB := Lib.hid hB
    have d0 := (hB.cell (p := ⟨b, 0, none⟩) hlb).trans hbb
    have hbr : b < wr.heap.size := Nat.lt_of_lt_of_le hlb hB.size
    clear he hB
    by_cases hlt : k < m
    · obtain ⟨x, b1, o1, rfl, hb1, hc1, hx1⟩ := (HRD.out.ext HB.out).idx k hlt
      obtain ⟨hx0, hxn⟩ := HKM.out x (List.mem_of_getElem? hx1)
      obtain ⟨j, rfl⟩ := Int.eq_ofNat_of_zero_le hx0
      obtain ⟨u, b2, off, pa, pn, pc, rfl, hb2, hg, hpl, HK⟩ := HL.out.cells j (by omega)
      have hum := List.mem_of_getElem? hg
      have hpn := HV.out.r.pcs u hum
      rw [hpl] at hpn
      have HPV : Hid (∀ p ∈ u.pcs, 1 ≤ p.1 ∧ p.1 ≤ 200) := Lib.hid (fun p hp => (HV.out.r.piece u hum p hp).1)
      have HVP := Lib.hid (HV.out.vp u hum)
      obtain ⟨mo, hmo⟩ : ∃ x, mostN u.gap u.jit v = x := ⟨_, rfl⟩
      obtain ⟨ct, hct⟩ : ∃ x, costT u = x := ⟨_, rfl⟩
      have hmb := mostN_bd (HV.out.gap u hum).1 (HV.out.jit u hum) h0
      have hcb := costT_bd HV.out.r hum
      have hdb := demT_bd HV.out hum h0
      have hd2 : demT u v = mo * ct := by rw [demT, hmo, hct]
      rw [hd2] at hdb
      rw [hmo] at hmb
      rw [hct] at hcb
      have HMO := Lib.hid hmo
      have HCT := Lib.hid hct
      have hE := HE.out
      have hkd : ks.drop k = (j : Int) :: ks.drop (k + 1) := by obtain ⟨h1, h2⟩ := List.getElem?_eq_some_iff.1 hx1; rw [List.drop_eq_getElem_cons h1, h2]
      rw [hkd, demL_cons, taAt_of hg, hd2] at hE
      have HE2 := Lib.hid hE
      have hsb := (HBD.out (k + 1) (s + mo * ct)).1
      rw [hE] at hsb
      obtain ⟨k0, k1, k2, k3, k4, k5, hbw2, hpp⟩ := HK.out wr HB.out
      clear hE hkd hx1 hg hum hd2 hpl hmo hct hpp
      go_wp2_with (first
        | (go_at_call 110; (with_reducible refine (most_is HVP.out h0 HMO.out).mono ?_); rintro e w3 ⟨rfl, hb3⟩; have B3 := Lib.hid hb3; have z0 := (hb3.cell (p := ⟨b, 0, none⟩) hbr).trans d0; obtain ⟨j0, j1, j2, j3, j4, j5, hbw3, hpp3⟩ := HK.out w3 (Below.then HB.out hb3); have HPP := Lib.hid hpp3; clear hb3 hpp3)
        | (go_at_call 69; (with_reducible refine (bcost_is HPP.out HPV.out hpn.2 HCT.out).mono ?_); rintro e w4 ⟨rfl, hb4⟩; have B4 := Lib.hid hb4; clear hb4))
      go_roundw
      case rel => exact ⟨k + 1, s + mo * ct, by omega, by go_num, by go_num, by omega, HE2.out, (by repeat (first | (with_reducible exact Below.refl _ _) | (refine Below.then ?_ (Hid.out (by with_reducible assumption)))))⟩
      case measure => simp [intOf]; omega
    · have hE := HE.out
      rw [List.drop_of_length_le (by have := HLN.out; omega)] at hE
      obtain rfl : s = R := hE
      go_wp2
      go_ret
      exact ⟨rfl, HB.out⟩
end Go.Proofs.Ytabbmnnohnfbeaa
