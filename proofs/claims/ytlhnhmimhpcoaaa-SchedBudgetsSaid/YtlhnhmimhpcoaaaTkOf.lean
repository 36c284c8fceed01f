/- The contract of ranksOf of the program. The conditions: the tasks read as named. -/
import Derived.Test.YtlhnhmimhpcoaaaTkRank
namespace Go.Proofs.Ytlhnhmimhpcoaaa
open Go.RowKit
set_option linter.unusedSimpArgs false
set_option linter.unusedVariables false
/-- the ranks as the program lays them -/
def ofSet : Nat → List Int → List Int → List Int
  | _, O, [] => O
  | p, O, k :: ks => ofSet (p + 1) (O.set k.toNat (p : Int)) ks
theorem ofSet_len : ∀ (ks : List Int) (p : Nat) (O : List Int), (ofSet p O ks).length = O.length
  | [], _, _ => rfl
  | k :: ks, p, O => by rw [ofSet, ofSet_len ks]; simp
theorem ofSet_get {n : Nat} : ∀ (ks : List Int) (p : Nat) (O : List Int), O.length = n → ks.Nodup → (∀ k ∈ ks, 0 ≤ k ∧ k < n) → ∀ x : Nat, x < n → (ofSet p O ks)[x]? = if (x : Int) ∈ ks then some ((p + ks.idxOf (x : Int) : Nat) : Int) else O[x]?
  | [], p, O, _, _, _, x, _ => by simp [ofSet]
  | k :: ks, p, O, hO, hn, hk, x, hx => by
    obtain ⟨hn1, hn2⟩ := List.nodup_cons.1 hn
    rw [ofSet, ofSet_get ks (p + 1) _ (by simpa using hO) hn2 (fun j hj => hk j (by simp [hj])) x hx]
    obtain ⟨k0, k1⟩ := hk k (by simp)
    by_cases e : (x : Int) = k
    · subst e
      rw [if_neg hn1, if_pos (by simp)]
      rw [List.getElem?_set, if_pos (by simp), if_pos (by rw [hO]; exact hx)]
      simp
    · have e2 : k.toNat ≠ x := by omega
      rw [List.getElem?_set, if_neg e2]
      by_cases hm : (x : Int) ∈ ks
      · rw [if_pos hm, if_pos (by simp [hm]), List.idxOf_cons, show (k == (x : Int)) = false from by simpa using (fun (q : k = (x : Int)) => e q.symm)]
        simp; omega
      · rw [if_neg hm, if_neg (by simp [hm, e])]
theorem rank_nodup (L : List Ta) : (rankL L).Nodup := ((rank_perm L).nodup_iff).2 (idxs_nodup _)
theorem ofSet_eq (L : List Ta) : ofSet 0 (List.replicate L.length 0) (rankL L) = ofL L := by
  apply List.ext_getElem?
  intro x
  by_cases hx : x < L.length
  · have hm : (x : Int) ∈ rankL L := rank_mem.2 ⟨by omega, by omega⟩
    rw [ofSet_get (rankL L) 0 _ (by simp) (rank_nodup L) (fun k hk => rank_mem.1 hk) x hx, if_pos hm, ofL_get hx]
    have h1 : (rankL L).idxOf (x : Int) < (rankL L).length := List.idxOf_lt_length_iff.2 hm
    have h2 : (rankL L)[(rankL L).idxOf (x : Int)]? = some (x : Int) := by rw [List.getElem?_eq_getElem h1, List.getElem_idxOf]
    rw [rank_cnt h2, Nat.zero_add]
  · rw [List.getElem?_eq_none (by rw [ofSet_len]; simp; omega), List.getElem?_eq_none (by unfold ofL; simp [idxs_len]; omega)]
theorem ofSet_step {p : Nat} {O R ks : List Int} {k : Int} (h : ofSet p O (k :: ks) = R) : ofSet (p + 1) (O.set k.toNat p) ks = R := h
theorem layC_step {L : List Ta} {C R ks : List Int} {k : Int} (h : layC L C (k :: ks) = R) : layC L (layP k C (taAt L k).pcs) ks = R := h
theorem Rd.pc_at' {w : World} {a : Option Addr} {n : Nat} {ps : List P2} (h : Rd w a n 2 (ps.map enc2)) (k : Nat) (hk : k < n) : ∃ (x y : Int) (b off : Nat), a = some ⟨b, off, none⟩ ∧ b < w.heap.size ∧
    w.cell? ⟨b, off + k * 2, none⟩ = some (.int .i64 x) ∧ w.cell? ⟨b, off + k * 2 + 1, none⟩ = some (.int .i64 y) ∧ ps[k]? = some (x, y) ∧ Hid (ps.drop k = (x, y) :: ps.drop (k + 1)) := by
  obtain ⟨hl, b, off, rfl, hb, h1, h2⟩ := h.two k hk
  exact ⟨_, _, b, off, rfl, hb, h1, h2, List.getElem?_eq_getElem hl, List.drop_eq_getElem_cons hl⟩
abbrev rkV (a : Option Addr) (n c : Nat) (f : Nat → Int) : Value := .agg #[.slice a n c, .int .i64 (f 0), .int .i64 (f 1), .int .i64 (f 2), .int .i64 (f 3), .int .i64 (f 4), .int .i64 (f 5)]
/-- the boxes of the walk: the row of ranks, the struct's box q, the result's cell -/
structure RkW (w wr : World) (n q : Nat) (O C : List Int) : Prop where
  own : wr.ownsRow (w.heap.size + 1) 3 1 (.slice (some ⟨w.heap.size + 1, 0, none⟩) n n) n (O.flatMap enc1)
  q0 : w.heap.size + 1 < q
  q1 : q < wr.heap.size
  s0 : wr.cell? ⟨q, 0, none⟩ = some (.slice (some ⟨w.heap.size + 1, 0, none⟩) n n)
  cs : ∀ j, j < 6 → wr.cell? ⟨q, 1 + j, none⟩ = some (.int .i64 (cAt C j))
  fz : ∀ j, wr.frozen? ⟨q, j, none⟩ = false
  r0 : wr.cell? ⟨w.heap.size, 0, none⟩ = some (.slice none 0 0)
  rs : ∀ j, j < 6 → wr.cell? ⟨w.heap.size, 1 + j, none⟩ = some (.int .i64 0)
  rf : ∀ j, wr.frozen? ⟨w.heap.size, j, none⟩ = false
  cl : C.length = 6
theorem RkW.ext {w wr w' : World} {n q : Nat} {O C : List Int} (h : RkW w wr n q O C) (hb : Below wr.heap.size wr w') : RkW w w' n q O C :=
  have hq := h.q0
  have hq1 := h.q1
  ⟨owns_ext h.own hb, h.q0, Nat.lt_of_lt_of_le h.q1 hb.size, (hb.cell (p := ⟨q, 0, none⟩) hq1).trans h.s0, fun j hj => (hb.cell (p := ⟨q, 1 + j, none⟩) hq1).trans (h.cs j hj), fun j => (hb.frozen (p := ⟨q, j, none⟩) hq1).trans (h.fz j),
    (hb.cell (p := ⟨w.heap.size, 0, none⟩) (by simp only []; omega)).trans h.r0, fun j hj => (hb.cell (p := ⟨w.heap.size, 1 + j, none⟩) (by simp only []; omega)).trans (h.rs j hj), fun j => (hb.frozen (p := ⟨w.heap.size, j, none⟩) (by simp only []; omega)).trans (h.rf j), h.cl⟩
theorem addr_ne {b b' i j : Nat} (h : b ≠ b' ∨ i ≠ j) : (⟨b, i, none⟩ : Addr) ≠ ⟨b', j, none⟩ := by
  intro q; rcases h with h | h
  · exact h (congrArg Addr.block q)
  · exact h (congrArg Addr.off q)
theorem owns_setBox {w : World} {B e k m n c q j : Nat} {v : Value} {xs : List Value} (h : w.ownsRow B e k (.slice (some ⟨m, 0, none⟩) n c) n xs) (hq : m ≠ q) : (w.setCell ⟨q, j, none⟩ v).ownsRow B e k (.slice (some ⟨m, 0, none⟩) n c) n xs :=
  h.kept (row := some q) ⟨rfl, rfl, rfl, by simp [World.setCell], fun k _ hk => Below.heap_setCell _ _ _ _ (fun e => hk (by simp [e]))⟩ (Or.inr (by simpa [Value.ownBlock] using hq))
theorem RkW.setC {w wr : World} {n q : Nat} {O C : List Int} (h : RkW w wr n q O C) (m : Nat) (hm : m < 6) (x : Int) : RkW w (wr.setCell ⟨q, 1 + m, none⟩ (.int .i64 x)) n q O (C.set m x) := by
  have hq := h.q0
  have hcl := h.cl
  refine ⟨owns_setBox h.own (by omega), h.q0, by simpa using h.q1, (World.cell?_setCell_other _ _ _ _ (addr_ne (.inr (by omega)))).trans h.s0, fun j hj => ?_, fun j => by rw [World.frozen?_setCell]; exact h.fz j,
    (World.cell?_setCell_other _ _ _ _ (addr_ne (.inl (by omega)))).trans h.r0, fun j hj => (World.cell?_setCell_other _ _ _ _ (addr_ne (.inl (by omega)))).trans (h.rs j hj), fun j => by rw [World.frozen?_setCell]; exact h.rf j, by simpa using h.cl⟩
  by_cases e : j = m
  · subst e
    have h1 := h.cs j hj
    have h2 : cAt (C.set j x) j = x := by simp [cAt, List.getElem?_set, hcl, hj]
    rw [h2]
    exact World.cell?_setCell_same _ _ _ (by rw [h1])
  · have h2 : cAt (C.set m x) j = cAt C j := by
      unfold cAt; rw [List.getElem?_set, if_neg (fun q => e q.symm)]
    rw [h2]
    exact (World.cell?_setCell_other _ _ _ _ (addr_ne (.inr (by omega)))).trans (h.cs j hj)
theorem RkW.setO {w wr : World} {n q : Nat} {O C : List Int} (h : RkW w wr n q O C) (k : Nat) (x : Int) : RkW w (wr.setCell ⟨w.heap.size + 1, k, none⟩ (.int .i64 x)) n q (O.set k x) C := by
  have hq := h.q0
  exact ⟨ownsI_set h.own k x, h.q0, by simpa using h.q1, (World.cell?_setCell_other _ _ _ _ (addr_ne (.inl (by omega)))).trans h.s0, fun j hj => (World.cell?_setCell_other _ _ _ _ (addr_ne (.inl (by omega)))).trans (h.cs j hj), fun j => by rw [World.frozen?_setCell]; exact h.fz j,
    (World.cell?_setCell_other _ _ _ _ (addr_ne (.inl (by omega)))).trans h.r0, fun j hj => (World.cell?_setCell_other _ _ _ _ (addr_ne (.inl (by omega)))).trans (h.rs j hj), fun j => by rw [World.frozen?_setCell]; exact h.rf j, h.cl⟩
theorem RkW.alloc {w wr : World} {n q : Nat} {O C : List Int} (h : RkW w wr n q O C) (o : Obj) : RkW w (wr.alloc o) n q O C := h.ext (Below.alloc (Below.refl _ _) (Nat.le_refl _) o)
theorem rep_set {k : Nat} (hk : k < 6) : (List.replicate k (-1) ++ List.replicate (6 - k) (0 : Int)).set k (-1) = List.replicate (k + 1) (-1) ++ List.replicate (6 - (k + 1)) 0 := by
  match k, hk with
  | 0, _ => rfl
  | 1, _ => rfl
  | 2, _ => rfl
  | 3, _ => rfl
  | 4, _ => rfl
  | 5, _ => rfl
theorem cAt_six (j : Nat) (hj : j < 6) : cAt (List.replicate 0 (-1) ++ List.replicate (6 - 0) (0 : Int)) j = 0 := by
  match j, hj with
  | 0, _ => rfl
  | 1, _ => rfl
  | 2, _ => rfl
  | 3, _ => rfl
  | 4, _ => rfl
  | 5, _ => rfl
def OutK (w : World) (n : Nat) (L : List Ta) (e : Ending) (w' : World) : Prop :=
  ∃ a c, e = .returned (rkV a n c (fun k => ceilG L (k : Int))) ∧ w'.ownsRow w.heap.size 3 1 (.slice a n c) n ((ofL L).flatMap enc1) ∧ Below w.heap.size w w'
theorem six_cases {j : Nat} (h : j < 6) : j = 0 ∨ j = 1 ∨ j = 2 ∨ j = 3 ∨ j = 4 ∨ j = 5 := by omega
set_option maxRecDepth 10000 in
set_option maxHeartbeats 4000000 in
theorem ranksOf_any (a : Option Addr) (n c : Nat) (L : List Ta) (w : World) (hL : RdL w a n L) (hv : Right L) :
    Calls Try.prog 106 #[.slice a n c] w (OutK w n L) := by
  have hll := hL.length
  have hs := hL.small
  have h5 := hv.len
  rw [hll] at h5
  have HR := Lib.hid hL
  have HLL := Lib.hid hll
  have HV := Lib.hid hv
  obtain ⟨RO, hRO⟩ : ∃ R, ofL L = R := ⟨_, rfl⟩
  obtain ⟨RC, hRC⟩ : ∃ R, layC L (List.replicate 6 (-1)) (rankL L) = R := ⟨_, rfl⟩
  obtain ⟨rk, hrk⟩ : ∃ R, rankL L = R := ⟨_, rfl⟩
  have HOS : Hid (ofSet 0 (List.replicate n 0) (rk.drop 0) = RO) := Lib.hid (by rw [← hRO, ← ofSet_eq, hll, hrk]; rfl)
  have HCS : Hid (layC L (List.replicate 6 (-1)) (rk.drop 0) = RC) := Lib.hid (by rw [← hRC, hrk]; rfl)
  have HCE : Hid (∀ j, j < 6 → cAt RC j = ceilG L (j : Int)) := Lib.hid (fun j hj => by rw [← hRC]; exact layC_ceil hj)
  have HRM : Hid (∀ k ∈ rk, 0 ≤ k ∧ k < n) := Lib.hid (fun k hk => by rw [← hrk] at hk; have := rank_mem.1 hk; rw [hll] at this; exact this)
  have HRL : Hid (rk.length = n) := Lib.hid (by rw [← hrk, rank_len, hll])
  have HRK := Lib.hid hrk
  have HRO := Lib.hid hRO
  clear hL hll hv hrk hRO hRC
  go_enter Try.func106, Try.ntmps106
  go_wp2_with (at_make; refine wpList_mkI rfl _ _ rfl n rfl rfl rfl rfl (by omega) (Nat.le_refl _) ?_; intro w1 hown1 hb1 hlt1; have HO1 := Lib.hid hown1; have HB1 := Lib.hid hb1; have r0 : w1.cell? ⟨w.heap.size, 0, none⟩ = some (.slice none 0 0) := (hb1.cell (p := ⟨w.heap.size, 0, none⟩) (by simp)).trans (by simp [go_sem]); have rs : ∀ j, j < 6 → w1.cell? ⟨w.heap.size, 1 + j, none⟩ = some (.int .i64 0) := (fun j hj => (hb1.cell (p := ⟨w.heap.size, 1 + j, none⟩) (by simp)).trans (by rcases six_cases hj with rfl | rfl | rfl | rfl | rfl | rfl <;> simp [go_sem])); have rf : ∀ j, w1.frozen? ⟨w.heap.size, j, none⟩ = false := (fun j => (hb1.frozen (p := ⟨w.heap.size, j, none⟩) (by simp)).trans (by simp [go_sem])); have R0 := Lib.hid r0; have RS := Lib.hid rs; have RF := Lib.hid rf; clear hown1 hb1 r0 rs rf)
  simp only [World.size_alloc] at HO1 HB1 hlt1
  have hb0 : Below w.heap.size w w1 := Below.trans (by (repeat' (first | (with_reducible exact Below.refl _ _) | (with_reducible assumption) | (with_reducible refine Below.alloc ?_ ?_ _) | (with_reducible refine Below.drew ?_) | (with_reducible refine Below.draws ?_ _) | (with_reducible refine Below.setCell ?_ ?_ _) | (refine Below.then ?_ (by with_reducible assumption)) | go_size))) (HB1.out.mono (by simp))
  have HB0 := Lib.hid hb0
  have HW : Hid (RkW w (w1.alloc (.cells #[.slice (some ⟨w.heap.size + 1, 0, none⟩) n n, .int .i64 0, .int .i64 0, .int .i64 0, .int .i64 0, .int .i64 0, .int .i64 0] 135)) n w1.heap.size (List.replicate n 0) (List.replicate 0 (-1) ++ List.replicate (6 - 0) 0)) := by
    have hba : Below w1.heap.size w1 (w1.alloc (.cells #[.slice (some ⟨w.heap.size + 1, 0, none⟩) n n, .int .i64 0, .int .i64 0, .int .i64 0, .int .i64 0, .int .i64 0, .int .i64 0] 135)) := Below.alloc (Below.refl _ _) (Nat.le_refl _) _
    refine Lib.hid ⟨owns_ext HO1.out hba, hlt1, by simp, by simp [go_sem], fun j hj => ?_, fun j => by simp [go_sem], (hba.cell (p := ⟨w.heap.size, 0, none⟩) (by simp only []; omega)).trans R0.out, fun j hj => (hba.cell (p := ⟨w.heap.size, 1 + j, none⟩) (by simp only []; omega)).trans (RS.out j hj), fun j => (hba.frozen (p := ⟨w.heap.size, j, none⟩) (by simp only []; omega)).trans (RF.out j), rfl⟩
    rw [cAt_six j hj]
    rcases six_cases hj with rfl | rfl | rfl | rfl | rfl | rfl <;> simp [go_sem]
  clear hb0 R0 RS RF HO1
  obtain ⟨q, hq⟩ : ∃ q, q = w1.heap.size := ⟨_, rfl⟩
  rw [← hq] at HW ⊢
  clear hq
  go_loopw [13] (fun i wr => ∃ k : Nat, k ≤ 6 ∧ i = .int .i64 k ∧ RkW w wr n q (List.replicate n 0) (List.replicate k (-1) ++ List.replicate (6 - k) 0) ∧ Below w.heap.size w wr) (fun i _ => 6 - (intOf i).toNat)
  case atStart => exact ⟨0, Nat.zero_le _, rfl, HW.out, Below.alloc HB0.out (by omega) _⟩
  case round =>
    clear HW
    obtain ⟨k, hk, rfl, hW, hB⟩ := hrel
    have HW := Lib.hid hW; have HB := Lib.hid hB
    have hq0 := hW.q0
    clear hW hB
    by_cases hlt : k < 6
    · have c0 := HW.out.cs k hlt
      have f0 := HW.out.fz (1 + k)
      go_wp2_with (first | go_region)
      go_roundw
      case rel => exact ⟨k + 1, by omega, by go_num, by have := HW.out.setC k hlt (-1); rw [rep_set hlt] at this; exact this, HB.out.setCell (p := ⟨q, 1 + k, none⟩) (by simp only []; omega) _⟩
      case measure => simp [intOf]; omega
    · obtain rfl : k = 6 := by omega
      have HW2 : Hid (RkW w wr n q (List.replicate n 0) (List.replicate 6 (-1))) := Lib.hid (by have := HW.out; simpa using this)
      clear HW
      go_wp2_with (go_at_call 101; (with_reducible refine (ranked_any _ _ _ L _ (HR.out.ext HB.out) (by omega)).mono ?_); rw [HRK.out]; rintro e w2 ⟨a2, c2, rfl, ho2, hb2⟩; have HO2 := Lib.hid ho2; have B2 := Lib.hid hb2; clear ho2 hb2)
      have hB2 : Below w.heap.size w w2 := Below.then HB.out B2.out
      have HB2 := Lib.hid hB2
      have HWW := Lib.hid (HW2.out.ext B2.out)
      obtain ⟨bk, hbk⟩ : ∃ b, b = wr.heap.size := ⟨_, rfl⟩
      rw [← hbk] at HO2
      have hqb : q < bk := by rw [hbk]; exact HW2.out.q1
      clear hB2 hbk B2 HB HW2
      go_loopw [23] (fun i wr => ∃ (p : Nat) (O C : List Int), p ≤ n ∧ i = .int .i64 p ∧ RkW w wr n q O C ∧ wr.ownsRow bk 3 1 (.slice a2 n c2) n (rk.flatMap enc1) ∧ ofSet p O (rk.drop p) = RO ∧ layC L C (rk.drop p) = RC ∧ Below w.heap.size w wr) (fun i _ => n - (intOf i).toNat)
      case atStart => exact ⟨0, _, _, Nat.zero_le _, rfl, HWW.out, HO2.out, HOS.out, HCS.out, HB2.out⟩
      case round =>
        clear HWW HO2 HB2 HOS HCS
        obtain ⟨p, O, C, hp, rfl, hW, ho, he1, he2, hB⟩ := hrel
        have HW := Lib.hid hW; have HO := Lib.hid ho; have HE1 := Lib.hid he1; have HE2 := Lib.hid he2; have HB := Lib.hid hB
        have hol := (ownsI_rd hW.own).length
        have hq1 := hW.q1
        clear hW ho he1 he2 hB
        by_cases hlt : p < n
        · obtain ⟨x, b2, o2, rfl, hb2, hc2, hx2⟩ := (ownsI_rd HO.out).idx p hlt
          have hxm := HRM.out x (List.mem_of_getElem? hx2)
          obtain ⟨k, rfl⟩ := Int.eq_ofNat_of_zero_le hxm.1
          have hkn : k < n := by omega
          have hrd : rk.drop p = (k : Int) :: rk.drop (p + 1) := by obtain ⟨h1, h2⟩ := List.getElem?_eq_some_iff.1 hx2; rw [List.drop_eq_getElem_cons h1, h2]
          obtain ⟨u, b, off, pa, pn, pc, rfl, hb, _, _, _, _, _, c5, hpc, _, hg, _⟩ := HR.out.at_ k hkn
          have d5 : ∀ wx : World, Below w.heap.size w wx → wx.cell? ⟨b, off + k * 6 + 5, none⟩ = some (.slice pa pn pc) := fun wx h => (h.cell (p := ⟨b, off + k * 6 + 5, none⟩) hb).trans c5
          have D5 := Lib.hid d5
          have hE1 := HE1.out
          rw [hrd] at hE1
          have hE2 := HE2.out
          rw [hrd] at hE2
          have hE1' := ofSet_step hE1
          have hE2' := layC_step hE2
          rw [taAt_of hg] at hE2'
          rw [Int.toNat_natCast] at hE1'
          have HE3 := Lib.hid hE1'
          have HE4 := Lib.hid hE2'
          have hps := hpc.small
          have HPL := Lib.hid hpc.length
          have HP := Lib.hid hpc
          have HPV : Hid (∀ v ∈ u.pcs, -1 ≤ v.2 ∧ v.2 ≤ 5) := Lib.hid (fun v hv => (HV.out.piece u (List.mem_of_getElem? hg) v hv).2)
          obtain ⟨y0, _, hcy, hfy, _⟩ := ownsI_at HW.out.own k hkn
          have s0 := HW.out.s0
          obtain ⟨CE, hCE⟩ : ∃ CE, layP k C u.pcs = CE := ⟨_, rfl⟩
          rw [hCE] at HE4
          have HLP : Hid (layP k C (u.pcs.drop 0) = CE) := Lib.hid hCE
          have HW3 := Lib.hid (HW.out.setO k p)
          have HO3 := Lib.hid (owns_far (q := w.heap.size + 1) (j := k) HO.out (Nat.lt_trans HW.out.q0 hqb) (.int .i64 p))
          have HB3 := Lib.hid (HB.out.setCell (p := ⟨w.heap.size + 1, k, none⟩) (by simp) (.int .i64 p))
          have c5' := d5 _ HB3.out
          clear hx2 hrd hg hE1 hE2 hE1' hE2' hpc c5 HE1 HE2 hCE HW HO HB d5
          go_wp2_with (first | go_region)
          go_loopw [39] (fun i wr => ∃ (j : Nat) (C : List Int), j ≤ pn ∧ i = .int .i64 j ∧ RkW w wr n q (O.set k p) C ∧ wr.ownsRow bk 3 1 (.slice (some ⟨b2, o2, none⟩) n c2) n (rk.flatMap enc1) ∧ layP k C (u.pcs.drop j) = CE ∧ Below w.heap.size w wr) (fun i _ => pn - (intOf i).toNat)
          case atStart => exact ⟨0, C, Nat.zero_le _, rfl, HW3.out, HO3.out, HLP.out, HB3.out⟩
          case round =>
            clear HW3 HO3 HB3 HLP
            obtain ⟨j, C, hj, rfl, hW, ho, he, hB⟩ := hrel
            have HW := Lib.hid hW; have HO := Lib.hid ho; have HE := Lib.hid he; have HB := Lib.hid hB
            have hq1 := hW.q1
            have hq0 := hW.q0
            clear hW ho he hB
            by_cases hjt : j < pn
            · obtain ⟨x, y, b1, off1, rfl, hbb, e1, e2, hpg, HD⟩ := (HP.out.ext HB.out).pc_at' j hjt
              have hE := HE.out
              rw [HD.out, layP] at hE
              simp only [] at hE
              have hyv := HPV.out (x, y) (List.mem_of_getElem? hpg)
              simp only [] at hyv
              clear hpg HD
              by_cases p1 : 0 ≤ y
              · obtain ⟨m, rfl⟩ := Int.eq_ofNat_of_zero_le p1
                have hm6 : m < 6 := by omega
                rw [Int.toNat_natCast] at hE
                have cm := HW.out.cs m hm6
                have fm := HW.out.fz (1 + m)
                obtain ⟨z, hz⟩ : ∃ z, cAt C m = z := ⟨_, rfl⟩
                have hz' : (C[m]?).getD 0 = z := hz
                rw [hz'] at hE
                rw [hz] at cm
                clear hz hz'
                by_cases p2 : z < 0
                · rw [if_pos ⟨p1, p2⟩] at hE
                  have HE5 := Lib.hid hE
                  clear hE HE
                  go_wp2_with (first | go_region)
                  go_roundw
                  case rel => exact ⟨j + 1, C.set m k, by omega, by go_num, (HW.out.setC m hm6 k).alloc _, owns_ext (owns_far HO.out hqb _) (Below.alloc (Below.refl _ _) (Nat.le_refl _) _), HE5.out, Below.alloc (HB.out.setCell (p := ⟨q, 1 + m, none⟩) (by simp only []; omega) _) (by simpa using HB.out.size) _⟩
                  case measure => simp [intOf]; omega
                · have p2' : decide (z < 0) = false := by simpa using p2
                  rw [if_neg (fun q => p2 q.2)] at hE
                  have HE5 := Lib.hid hE
                  clear hE HE
                  go_wp2_with (first | go_region)
                  go_roundw
                  case rel => exact ⟨j + 1, C, by omega, by go_num, HW.out.alloc _, owns_ext HO.out (Below.alloc (Below.refl _ _) (Nat.le_refl _) _), HE5.out, Below.alloc HB.out HB.out.size _⟩
                  case measure => simp [intOf]; omega
              · have p1' : decide (0 ≤ y) = false := by simpa using p1
                rw [if_neg (fun q => p1 q.1)] at hE
                have HE5 := Lib.hid hE
                clear hE HE
                go_wp2_with (first | go_region)
                go_roundw
                case rel => exact ⟨j + 1, C, by omega, by go_num, HW.out.alloc _, owns_ext HO.out (Below.alloc (Below.refl _ _) (Nat.le_refl _) _), HE5.out, Below.alloc HB.out HB.out.size _⟩
                case measure => simp [intOf]; omega
            · have hE := HE.out
              rw [drop_end HPL.out (by omega), layP] at hE
              subst hE
              go_wp2
              go_roundw
              case rel => exact ⟨p + 1, _, _, by omega, by go_num, HW.out, HO.out, HE3.out, HE4.out, HB.out⟩
              case measure => simp [intOf]; omega
        · have hE1 := HE1.out
          have hE2 := HE2.out
          rw [List.drop_of_length_le (by have := HRL.out; omega)] at hE1 hE2
          have e1 : O = RO := hE1
          have e2 : C = RC := hE2
          subst e1 e2
          have c0 := HW.out.s0
          have d0 := HW.out.r0
          have c1 := HW.out.cs 0 (by omega)
          have c2 := HW.out.cs 1 (by omega)
          have c3 := HW.out.cs 2 (by omega)
          have c4 := HW.out.cs 3 (by omega)
          have c5 := HW.out.cs 4 (by omega)
          have c6 := HW.out.cs 5 (by omega)
          have d1 := HW.out.rs 0 (by omega)
          have d2 := HW.out.rs 1 (by omega)
          have d3 := HW.out.rs 2 (by omega)
          have d4 := HW.out.rs 3 (by omega)
          have d5 := HW.out.rs 4 (by omega)
          have d6 := HW.out.rs 5 (by omega)
          have f0 := HW.out.rf 0
          have f1 := HW.out.rf 1
          have f2 := HW.out.rf 2
          have f3 := HW.out.rf 3
          have f4 := HW.out.rf 4
          have f5 := HW.out.rf 5
          have f6 := HW.out.rf 6
          simp only [Nat.reduceAdd] at c1 c2 c3 c4 c5 c6 d1 d2 d3 d4 d5 d6
          rw [HCE.out 0 (by omega)] at c1
          rw [HCE.out 1 (by omega)] at c2
          rw [HCE.out 2 (by omega)] at c3
          rw [HCE.out 3 (by omega)] at c4
          rw [HCE.out 4 (by omega)] at c5
          rw [HCE.out 5 (by omega)] at c6
          go_wp2
          refine bodyPost_ret (v := rkV (some ⟨w.heap.size + 1, 0, none⟩) n n (fun k => ceilG L (k : Int))) (by simp [results, Try.results106, go_sem, d0, d1, d2, d3, d4, d5, d6]) rfl ⟨_, _, rfl, ?_, ?_⟩
          · rw [HRO.out]
            have hne : w.heap.size + 1 ≠ w.heap.size := by omega
            exact owns_mono (owns_setBox (owns_setBox (owns_setBox (owns_setBox (owns_setBox (owns_setBox (owns_setBox HW.out.own hne) hne) hne) hne) hne) hne) hne) (Nat.le_succ _)
          · exact ((((((HB.out.setCell (Nat.le_refl _) _).setCell (Nat.le_refl _) _).setCell (Nat.le_refl _) _).setCell (Nat.le_refl _) _).setCell (Nat.le_refl _) _).setCell (Nat.le_refl _) _).setCell (Nat.le_refl _) _
end Go.Proofs.Ytlhnhmimhpcoaaa
