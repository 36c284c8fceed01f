/- The contracts of Load of both sides. The conditions: the tasks read as named. -/
import Derived.Test.YtabbmnnohnfbeaaRsLoad
import Derived.Test.YtabbmnnohnfbeaaRsMem
namespace Go.Proofs.Ytabbmnnohnfbeaa
open Go.RowKit
set_option linter.unusedSimpArgs false
set_option linter.unusedVariables false
def qT (t : Ta) : Q := lowN (costT t).toNat t.gap.toNat
def loadR (L : List Ta) : P2 × Int := if validL L then sumQ (0, 1) (L.map qT) else ((0, 0), 1)
theorem qT_rv {t : Ta} (h0 : 0 ≤ costT t) (h1 : costT t ≤ 1600) (h2 : 1 ≤ t.gap) (h3 : t.gap ≤ 10000) : rvQ (qT t) = true := by
  have hd : ∀ a b : Nat, a / b ≤ a := fun a b => Nat.div_le_self a b
  have a1 := hd (costT t).toNat (Nat.gcd (costT t).toNat t.gap.toNat)
  have a2 := hd t.gap.toNat (Nat.gcd (costT t).toNat t.gap.toNat)
  have a3 : (qT t).1 ≤ 1600 := by unfold qT lowN; simp only []; omega
  have a4 : (qT t).2 ≤ 10000 := by unfold qT lowN; simp only []; omega
  simp [rvQ, rval]; omega
structure LoadOk (t : Ta) : Prop where
  c0 : 0 ≤ costT t
  c1 : costT t ≤ 1600
  g0 : 1 ≤ t.gap
  g1 : t.gap ≤ 10000
  pc : ∀ q ∈ t.pcs, 1 ≤ q.1 ∧ q.1 ≤ 200
  pn : t.pcs.length ≤ 8
theorem LoadOk.ok {t : Ta} (h : LoadOk t) : QOk (qT t) := lowN_ok (by have := h.g0; omega) (qT_rv h.c0 h.c1 h.g0 h.g1)
theorem LoadOk.low {t : Ta} (h : LoadOk t) : lowR (costT t).toNat t.gap.toNat = ((((qT t).1 : Int), ((qT t).2 : Int)), 0) := by
  rw [lowR_eq]
  have := qT_rv h.c0 h.c1 h.g0 h.g1
  unfold qT at this
  rw [if_pos this]; rfl
theorem loadOk {L : List Ta} (hv : ValidT L) {t : Ta} (h : t ∈ L) : LoadOk t := by
  have h1 := costT_bd hv.r h
  have h2 := hv.gap t h
  exact ⟨by omega, h1.2, h2.1, h2.2, fun q hq => (hv.r.piece t h q hq).1, (hv.r.pcs t h).2⟩
def encQ (q : Q) : List Value := enc2 (qI q)
theorem encQ_len (q : Q) : (encQ q).length = 2 := rfl
theorem ERt : Elt Try.prog 98 64 2 16 := Elt.mk' (z := .agg #[.int .i64 0, .int .i64 0]) Try.underlying98 (by kernel_rfl) rfl (by decide)
theorem owns_rdQ {w : World} {B n c : Nat} {a : Option Addr} {qs : List Q} (h : w.ownsRow B 64 2 (.slice a n c) n (qs.flatMap encQ)) : Rd w a n 2 ((qs.map qI).map enc2) := by
  have := Rd.of_owns encQ_len (by decide) h
  rw [List.map_map]; exact this
theorem qb_new (w : World) (x y : Nat) (T : TypeId) : QBox (w.alloc (.cells #[.int .i64 x, .int .i64 y] T)) w.heap.size x y := ⟨by simp, by simp [go_sem], by simp [go_sem]⟩
theorem flatQ (L : List Ta) (k : Nat) (t : Ta) (h : L.drop k = t :: L.drop (k + 1)) : ((L.take (k + 1)).map qT).flatMap encQ = ((L.take k).map qT).flatMap encQ ++ [.int .i64 ((qT t).1 : Int), .int .i64 ((qT t).2 : Int)] := by
  rw [take_of_drop h]; simp [encQ, enc2, qI]
theorem cost_cn {p d fi ga ji : Int} {pa : Option Addr} {pn pc : Nat} {ps : List P2} {cn : Nat} {w : World} (hp : Rd w pa pn 2 (ps.map enc2)) (hv : ∀ q ∈ ps, 1 ≤ q.1 ∧ q.1 ≤ 200) (hn : pn ≤ 8) (h : costP ps = cn) :
    Calls Try.prog 69 #[.agg #[.int .i64 p, .int .i64 d, .int .i64 fi, .int .i64 ga, .int .i64 ji, .slice pa pn pc]] w fun e w' => e = .returned (.int .i64 cn) ∧ Below w.heap.size w w' := by
  have := cost_any p d fi ga ji pa pn pc ps w hp hv hn
  rw [h] at this; exact this
theorem rcost_cn {p d fi ga ji : Int} {pa : Option Addr} {pn pc : Nat} {ps : List P2} {cn : Nat} {w : World} (hp : Rd w pa pn 2 (ps.map enc2)) (hv : ∀ q ∈ ps, 1 ≤ q.1 ∧ q.1 ≤ 200) (hn : pn ≤ 8) (h : costP ps = cn) :
    Calls Try.prog 60 #[.agg #[.int .i64 p, .int .i64 d, .int .i64 fi, .int .i64 ga, .int .i64 ji, .slice pa pn pc]] w fun e w' => e = .returned (.int .i64 cn) ∧ Below w.heap.size w w' := by
  have := rcost_any p d fi ga ji pa pn pc ps w hp hv hn
  rw [h] at this; exact this
set_option maxRecDepth 100000 in
set_option maxHeartbeats 8000000 in
theorem Load_ok (a : Option Addr) (n c : Nat) (L : List Ta) (x y e : Int) (w : World) (hL : RdL w a n L) (hv : validL L = true) (hs : sumQ (0, 1) (L.map qT) = ((x, y), e)) :
    Calls Try.prog 47 #[.slice a n c] w fun en w' => en = .returned (.tuple #[.agg #[.int .i64 x, .int .i64 y], .int .i64 e]) ∧ Below w.heap.size w w' := by
  have hnn := hL.length
  have hn5 : n ≤ 5 := by rw [← hnn]; exact (valid_of hv).r.len
  have HOK0 : Hid (∀ t ∈ L, LoadOk t) := Lib.hid (fun t ht => loadOk (valid_of hv) ht)
  have HR := Lib.hid hL; have HV := Lib.hid hv; have HS := Lib.hid hs; have HNN := Lib.hid hnn
  clear hL hv hs hnn
  have e1 := ERt
  go_enter Try.func47, Try.ntmps47
  go_wp2_with (go_at_call 33; (with_reducible refine (valid_is (HR.out.ext (by (repeat' (first | (with_reducible exact Below.refl _ _) | (with_reducible assumption) | (with_reducible refine Below.alloc ?_ ?_ _) | (with_reducible refine Below.drew ?_) | (with_reducible refine Below.draws ?_ _) | (with_reducible refine Below.setCell ?_ ?_ _) | (refine Below.then ?_ (by with_reducible assumption)) | go_size)))) HV.out).mono ?_); rintro e9 w9 ⟨rfl, hb9⟩; have B9 := Lib.hid (Below.then (show Below w.heap.size w _ by (repeat' (first | (with_reducible exact Below.refl _ _) | (with_reducible assumption) | (with_reducible refine Below.alloc ?_ ?_ _) | (with_reducible refine Below.drew ?_) | (with_reducible refine Below.draws ?_ _) | (with_reducible refine Below.setCell ?_ ?_ _) | (refine Below.then ?_ (by with_reducible assumption)) | go_size))) hb9); have Z9 : Hid (RBox w9 w.heap.size) := Lib.hid (RBox.ext ⟨by simp, by simp [go_sem], by simp [go_sem], by simp [go_sem], by simp [go_sem]⟩ hb9); have HR9 := Lib.hid (HR.out.ext B9.out); have hz9 := hb9.size; simp only [World.size_alloc] at hz9; clear hb9)
  go_loopw [4, 15] (fun v i wr => ∃ (k : Nat) (a' : Option Addr) (c' : Nat), k ≤ n ∧ v = .slice a' k c' ∧ i = .int .i64 k ∧ wr.ownsRow w9.heap.size 64 2 (.slice a' k c') k (((L.take k).map qT).flatMap encQ) ∧ Below w9.heap.size w9 wr) (fun _ i _ => n - (intOf i).toNat)
  case atStart => exact ⟨0, none, 0, Nat.zero_le _, rfl, rfl, World.ownsRow_nil _ _ _ _, by (repeat' (first | (with_reducible exact Below.refl _ _) | (with_reducible assumption) | (with_reducible refine Below.alloc ?_ ?_ _) | (with_reducible refine Below.drew ?_) | (with_reducible refine Below.draws ?_ _) | (with_reducible refine Below.setCell ?_ ?_ _) | (refine Below.then ?_ (by with_reducible assumption)) | go_size))⟩
  case round =>
    obtain ⟨k, a', c', hk, rfl, rfl, hO, hB⟩ := hrel
    have HO := Lib.hid hO; have HB := Lib.hid hB
    have hz := hB.size
    clear hO hB
    by_cases hlt : k < n
    · obtain ⟨t, b, off, pa, pn, pc, rfl, hb0, c0, c1, c2, c3, c4, c5, hp, _, hg, HD⟩ := (HR9.out.ext HB.out).at_ k hlt
      have HOK := Lib.hid (HOK0.out t (List.mem_of_getElem? hg))
      obtain ⟨p0, p1, p2, p3, p4, ps⟩ := t
      obtain ⟨cn, hcn⟩ : ∃ m : Nat, costP ps = m := ⟨(costP ps).toNat, by have : 0 ≤ costP ps := HOK.out.c0; omega⟩
      obtain ⟨gn, hgn⟩ : ∃ m : Nat, p3 = m := ⟨p3.toNat, by have : 1 ≤ p3 := HOK.out.g0; omega⟩
      subst hgn
      have hc1600 : cn ≤ 1600 := by have : costP ps ≤ 1600 := HOK.out.c1; omega
      have hg10 : 1 ≤ gn ∧ gn ≤ 10000 := by have h1 : (1 : Int) ≤ gn := HOK.out.g0; have h2 : (gn : Int) ≤ 10000 := HOK.out.g1; omega
      have HLW : Hid (lowR cn gn = ((((qT ⟨p0, p1, p2, gn, p4, ps⟩).1 : Int), ((qT ⟨p0, p1, p2, gn, p4, ps⟩).2 : Int)), 0)) := Lib.hid (by
        have := HOK.out.low
        have e1 : (costT ⟨p0, p1, p2, (gn : Int), p4, ps⟩).toNat = cn := by have : costT ⟨p0, p1, p2, (gn : Int), p4, ps⟩ = cn := hcn; omega
        rw [e1] at this
        simpa using this)
      have HF := Lib.hid (flatQ L k _ HD.out)
      obtain ⟨qx, hqx⟩ : ∃ x : Nat, (qT ⟨p0, p1, p2, gn, p4, ps⟩).1 = x := ⟨_, rfl⟩
      obtain ⟨qy, hqy⟩ : ∃ x : Nat, (qT ⟨p0, p1, p2, gn, p4, ps⟩).2 = x := ⟨_, rfl⟩
      rw [hqx, hqy] at HLW HF
      have HP := Lib.hid hp
      have HPC := Lib.hid HOK.out.pc
      have hpn : pn ≤ 8 := by have h1 := HOK.out.pn; have h2 := hp.length; simp only [List.length_map] at h1 h2; omega
      have HCN := Lib.hid hcn
      simp only [] at c0 c1 c2 c3 c4 c5
      clear hg HD hcn hqx hqy hp HOK
      have n1 : ¬ b = wr.heap.size := by omega
      have hb0' : b < wr.heap.size + 1 := by omega
      have hb0'' : b < wr.heap.size + 1 + 1 := by omega
      go_upto_region 7 with fail
      go_cut [7, 8] (fun s7 s8 wx => ∃ p : Nat, s7 = .pointer (some ⟨p, 0, none⟩) ∧ QBox wx p qx qy ∧ Below wr.heap.size wr wx)
      case first =>
        go_region_with (first | (go_at_call 69; (with_reducible refine (cost_cn (HP.out.ext (by (repeat' (first | (with_reducible exact Below.refl _ _) | (with_reducible assumption) | (with_reducible refine Below.alloc ?_ ?_ _) | (with_reducible refine Below.drew ?_) | (with_reducible refine Below.draws ?_ _) | (with_reducible refine Below.setCell ?_ ?_ _) | (refine Below.then ?_ (by with_reducible assumption)) | go_size)))) HPC.out hpn HCN.out).mono ?_); rintro e w1 ⟨rfl, hb1⟩; obtain ⟨hc1, hf1, hz1, hr1⟩ := bfacts hb1; (try simp only [World.size_alloc, World.size_setCell, World.size_drew, World.size_drewN] at hz1 hr1); (try have hs1_wr_0 : wr.heap.size < w1.heap.size := by omega); (try have hs1_wr_1 : wr.heap.size + 1 < w1.heap.size := by omega)) | (go_at_call 89; (with_reducible refine (make_is (by omega) (by omega) (by omega) HLW.out).mono ?_); rintro e w2 ⟨rfl, hb2⟩; obtain ⟨hc2, hf2, hz2, hr2⟩ := bfacts hb2; (try simp only [World.size_alloc, World.size_setCell, World.size_drew, World.size_drewN] at hz2 hr2); (try have hs2_wr_0 : wr.heap.size < w2.heap.size := by omega); (try have hs2_wr_1 : wr.heap.size + 1 < w2.heap.size := by omega); (try have hs2_w1_0 : w1.heap.size < w2.heap.size := by omega)))
        all_goals (go_wp2_with fail; go_meet; first | exact ⟨_, rfl, qb_new _ _ _ _, by (repeat' (first | (with_reducible exact Below.refl _ _) | (with_reducible assumption) | (with_reducible refine Below.alloc ?_ ?_ _) | (with_reducible refine Below.drew ?_) | (with_reducible refine Below.draws ?_ _) | (with_reducible refine Below.setCell ?_ ?_ _) | (refine Below.then ?_ (by with_reducible assumption)) | go_size))⟩ | exact ⟨_, rfl, ⟨by simp; omega, by simp [go_sem, *], by simp [go_sem, *]⟩, by (repeat' (first | (with_reducible exact Below.refl _ _) | (with_reducible assumption) | (with_reducible refine Below.alloc ?_ ?_ _) | (with_reducible refine Below.drew ?_) | (with_reducible refine Below.draws ?_ _) | (with_reducible refine Below.setCell ?_ ?_ _) | (refine Below.then ?_ (by with_reducible assumption)) | go_size))⟩)
      case rest =>
        obtain ⟨p, rfl, hq, hBc⟩ := hcut
        have HOC := Lib.hid (owns_ext HO.out hBc)
        have HBC := Lib.hid (Below.then HB.out hBc)
        have hzc := hBc.size
        have q0 := hq.c0; have q1 := hq.c1; have ql := hq.lt
        clear hBc hq
        go_wp2_with (at_builtin; refine wpList_push (B := w9.heap.size) rfl _ _ _ rfl e1 rfl HOC.out rfl rfl (by intro u hu; simp at hu; rcases hu with rfl | rfl <;> rfl) (by omega) (by decide) (by omega) ?_; intro a6 c6 w6 hown6 hb6)
        go_roundw
        case rel => exact ⟨k + 1, a6, c6, by omega, rfl, by go_num, by rw [HF.out]; exact hown6, HBC.out.trans hb6⟩
        case measure => simp [intOf]; omega
    · have hkn : k = n := by omega
      subst hkn
      have hall : L.take k = L := List.take_of_length_le (by rw [HNN.out]; exact Nat.le_refl _)
      rw [hall] at HO
      have HRQ := Lib.hid (owns_rdQ HO.out)
      have Z := Z9.out.ext HB.out
      have HQ : Hid (∀ q ∈ L.map qT, QOk q) := Lib.hid (fun q hq => by
        obtain ⟨t, ht, rfl⟩ := List.mem_map.1 hq
        exact (HOK0.out t ht).ok)
      have lz := Z.lt
      clear Z
      go_wp2_with (go_at_call 90; (with_reducible refine (Sum_is HRQ.out (by omega) HQ.out HS.out).mono ?_); rintro e8 w8 ⟨rfl, hb8⟩; have B8 := Lib.hid hb8; have Z := (Z9.out.ext HB.out).ext hb8; have z0 := Z.c0; have z1 := Z.c1; have f0 := Z.f0; have f1 := Z.f1; clear hb8)
      exact bodyPost_ret (v := .tuple #[.agg #[.int .i64 x, .int .i64 y], .int .i64 e]) (by simp [results, Try.results47, go_sem, z0, z1]) rfl ⟨rfl, Below.setCell (Below.setCell (Below.then B9.out (Below.then HB.out B8.out)) (Nat.le_refl _) _) (Nat.le_refl _) _⟩
end Go.Proofs.Ytabbmnnohnfbeaa
