/- The contracts of ranked of the program, and of Ahead, Tasks, Ceiling, Ranks of the reference. The conditions: the tasks read as named. The contracts of Ranks, Ceilings of the reference. The conditions: the tasks read as named. The contracts of Blockers, Blocking, Raised of the reference. The conditions: the tasks read as named. The contracts of Blocking, Raised of the reference. The conditions: the tasks read as named. A run in memory, and the machine of the program. The conditions: the run reads as named. -/
import Derived.Test.YtlhnhmimhpcoaaaGreatMg2
import Derived.Test.YtlhnhmimhpcoaaaGreatMg3
import Derived.Test.YtlhnhmimhpcoaaaGreatMg1
namespace Go.Proofs.YtlhnhmimhpcoaaaGreat
open Go.RowKit
set_option linter.unusedSimpArgs false
set_option linter.unusedVariables false
theorem priI_nat {L : List Ta} {x : Int} {t : Ta} (h0 : 0 ≤ x) (h : L[x.toNat]? = some t) : priI L x = t.pri := by simp [priI, taAt, h]
set_option maxHeartbeats 1000000 in
theorem rcmp_any (a : Option Addr) (n c q : Nat) (L : List Ta) (x y : Int) (w : World) (hL : RdL w a n L) (hq : w.cell? ⟨q, 0, none⟩ = some (.slice a n c)) (hqw : q < w.heap.size) (hx : 0 ≤ x ∧ x < n) (hy : 0 ≤ y ∧ y < n) :
    Calls Tryz.prog 113 #[.int .i64 x, .int .i64 y, .pointer (some ⟨q, 0, none⟩)] w fun e w' => e = .returned (.int .i64 (cmpI (priI L y) (priI L x))) ∧ Below w.heap.size w w' := by
  obtain ⟨i, rfl⟩ := Int.eq_ofNat_of_zero_le hx.1
  obtain ⟨j, rfl⟩ := Int.eq_ofNat_of_zero_le hy.1
  have hi : i < n := by omega
  have hj : j < n := by omega
  obtain ⟨t, b, off, pa, pn, pc, rfl, hb, c0, _, _, _, _, _, _, _, hg, _⟩ := hL.at_ i hi
  obtain ⟨u, b2, off2, pa2, pn2, pc2, e2, _, d0, _, _, _, _, _, _, _, hg2, _⟩ := hL.at_ j hj
  simp at e2
  obtain ⟨rfl, rfl⟩ := e2
  have hs := hL.small
  rw [priI_of hg, priI_of hg2]
  clear hL hx hy hg hg2
  go_enter Tryz.func113, Tryz.ntmps113
  go_wp2_with (refine wp_region_later_lit (by kernel_rfl) (by kernel_rfl) ?_; (repeat (go_big_quiet_step ((go_at_call 114; exact later_same (compare_any _ _ _))))); refine wpQuiet_nil ?_; intro w1 hb1)
  go_ret
  exact ⟨rfl, hb1⟩
theorem replicate_cut (n k : Nat) (h : k < n) : List.replicate (n - k) (0 : Int) = 0 :: List.replicate (n - (k + 1)) 0 := by
  rw [show n - k = (n - (k + 1)) + 1 by omega, List.replicate_succ]
theorem idxs_snoc (k : Nat) : idxs (k + 1) = idxs k ++ [(k : Int)] := by simp [idxs, List.range_succ]
theorem ltOf_rank (L : List Ta) : ltOf (fun x y => cmpI (priI L y) (priI L x)) = ltR L := by funext x y; unfold ltOf ltR; rw [cmpI_lt]
set_option maxRecDepth 10000 in
set_option maxHeartbeats 2000000 in
theorem ranked_any (a : Option Addr) (n c : Nat) (L : List Ta) (w : World) (hL : RdL w a n L) (hn : n < 20) :
    Calls Tryz.prog 78 #[.slice a n c] w (OutN w.heap.size n 3 1 w ((rankL L).flatMap enc1)) := by
  have hll := hL.length
  have HR := Lib.hid hL
  have HLL := Lib.hid hll
  clear hL hll
  go_enter Tryz.func78, Tryz.ntmps78
  go_wp2_with (at_make; refine wpList_mkI rfl _ _ rfl n rfl rfl rfl rfl (by omega) (Nat.le_refl _) ?_; intro w1 hown1 hb1 hlt1; have HO1 := Lib.hid hown1; have hc1 : w1.cell? ⟨w.heap.size, 0, none⟩ = some (.slice a n c) := (hb1.cell (p := ⟨w.heap.size, 0, none⟩) (by simp)).trans (by simp [go_sem]); have HB1 := Lib.hid hb1; clear hown1 hb1)
  simp only [World.size_alloc] at HO1 HB1 hlt1
  have HC1 := Lib.hid hc1
  clear hc1
  go_loopw [10] (fun i wr => ∃ k : Nat, k ≤ n ∧ i = .int .i64 k ∧ wr.ownsRow (w.heap.size + 1) 3 1 (.slice (some ⟨w.heap.size + 1, 0, none⟩) n n) n ((idxs k ++ List.replicate (n - k) 0).flatMap enc1) ∧ wr.cell? ⟨w.heap.size, 0, none⟩ = some (.slice a n c) ∧ w.heap.size + 1 < wr.heap.size ∧ Below w.heap.size w wr) (fun i _ => n - (intOf i).toNat)
  case atStart => exact ⟨0, Nat.zero_le _, rfl, HO1.out, HC1.out, hlt1, Below.trans (by (repeat' (first | (with_reducible exact Below.refl _ _) | (with_reducible assumption) | (with_reducible refine Below.alloc ?_ ?_ _) | (with_reducible refine Below.drew ?_) | (with_reducible refine Below.draws ?_ _) | (with_reducible refine Below.setCell ?_ ?_ _) | (refine Below.then ?_ (by with_reducible assumption)) | go_size))) (HB1.out.mono (by simp))⟩
  case round =>
    obtain ⟨k, hk, rfl, hO, hc, hz, hB⟩ := hrel
    have HO := Lib.hid hO; have HB := Lib.hid hB
    clear hO hB HO1 HC1 HB1 hlt1
    by_cases hlt : k < n
    · obtain ⟨x, hx, hcx, hfx, hqx⟩ := ownsI_at HO.out k hlt
      have HO2 : Hid ((wr.setCell ⟨w.heap.size + 1, k, none⟩ (.int .i64 k)).ownsRow (w.heap.size + 1) 3 1 (.slice (some ⟨w.heap.size + 1, 0, none⟩) n n) n ((idxs (k + 1) ++ List.replicate (n - (k + 1)) 0).flatMap enc1)) := by
        have := ownsI_set HO.out k k
        rw [List.set_append_right _ _ (by rw [idxs_len]; exact Nat.le_refl _), idxs_len, Nat.sub_self, replicate_cut n k hlt, List.set_cons_zero] at this
        rw [idxs_snoc, List.append_assoc]
        exact Lib.hid this
      clear hx
      go_wp2_with (first | go_region)
      go_roundw
      case rel => exact ⟨k + 1, by omega, by go_num, HO2.out, (World.cell?_setCell_other _ _ _ _ (fun q => by have := congrArg Addr.block q; simp only [] at this; omega)).trans hc, by simpa using hz, HB.out.setCell (p := ⟨w.heap.size + 1, k, none⟩) (by simp) _⟩
      case measure => simp [intOf]; omega
    · obtain rfl : k = n := by omega
      have hO := HO.out
      rw [Nat.sub_self, List.replicate_zero, List.append_nil] at hO
      have HO3 := Lib.hid hO
      have HCM : Hid (CmpOn 113 #[.pointer (some ⟨w.heap.size, 0, none⟩)] (fun x y => cmpI (priI L y) (priI L x)) (w.heap.size + 1) (idxs k) wr) := by
        refine Lib.hid ⟨fun args w => by kernel_rfl, fun wi x y hg hx hy => ?_⟩
        have hL' : RdL wi a k L := HR.out.ext ((HB.out).grown hg (by omega) (fun j hj => by simp at hj; omega))
        exact rcmp_any a k c w.heap.size L x y wi hL' (hg.cell hc (by simp)) (Nat.lt_of_lt_of_le (by omega) hg.size) (idxs_mem.1 hx) (idxs_mem.1 hy)
      have hcc := Lib.hid hc
      clear hO hc
      go_wp2_with (go_at_call 112; (with_reducible refine (sortStable_any _ _ _ _ _ _ _ _ _ hn HO3.out HCM.out).mono ?_); rintro e w2 ⟨rfl, ho2, hg2⟩; have HO4 := Lib.hid ho2; have HG2 := Lib.hid hg2; clear ho2 hg2)
      go_ret
      refine ⟨_, _, rfl, owns_mono ?_ (Nat.le_succ _), (HB.out).grown HG2.out (by omega) (fun j hj => by simp at hj; omega)⟩
      have := HO4.out
      rw [ltOf_rank] at this
      have e : rankL L = isortL (ltR L) (idxs k) := by unfold rankL; rw [HLL.out]
      rw [e]; exact this
end Go.Proofs.YtlhnhmimhpcoaaaGreat
namespace Go.Proofs.YtlhnhmimhpcoaaaGreat
open Go.RowKit
set_option linter.unusedSimpArgs false
set_option linter.unusedVariables false
/-- a list made by the call, and an error number -/
def OutTE (B : Nat) (w : World) (xs : List Int) (er : Int) (e : Ending) (w' : World) : Prop :=
  ∃ a n c, e = .returned (.tuple #[.slice a n c, .int .i64 er]) ∧ w'.ownsRow B 3 1 (.slice a n c) n (xs.flatMap enc1) ∧ Below B w w'
theorem OutTE.none {B : Nat} {w w' : World} {er : Int} (hb : Below B w w') : OutTE B w [] er (.returned (.tuple #[.slice none 0 0, .int .i64 er])) w' := ⟨_, _, _, rfl, World.ownsRow_nil _ _ _ _, hb⟩
/-- what Ranks gives, what Ceilings gives -/
def ranksR (L : List Ta) : List Int × Int := if rightB L then (rankL L, 0) else ([], 1)
def ceilsL (L : List Ta) : List Int := (List.range 6).map (fun (k : Nat) => ceilG L (k : Int))
def ceilsR (L : List Ta) : List Int × Int := if rightB L then (ceilsL L, 0) else ([], 1)
theorem rankSet_step {L : List Ta} {f i : Nat} {out R : List Int} (h : rankSet L (f + 1) i out = R) : rankSet L f (i + 1) (out.set (cnt L i) i) = R := h
theorem idxs_drop {n j : Nat} (h : j < n) : (idxs n).drop j = (j : Int) :: (idxs n).drop (j + 1) := by
  have hl : j < (idxs n).length := by rw [idxs_len]; exact h
  rw [List.drop_eq_getElem_cons hl]
  congr 1
  have := idxs_get h
  rw [List.getElem?_eq_getElem hl] at this
  exact Option.some.inj this
set_option maxRecDepth 10000 in
set_option maxHeartbeats 2000000 in
theorem rRanks_any (a : Option Addr) (n c : Nat) (L : List Ta) (w : World) (hL : RdL w a n L) :
    Calls Tryz.prog 54 #[.slice a n c] w (OutTE w.heap.size w (ranksR L).1 (ranksR L).2) := by
  have hll := hL.length
  have hs := hL.small
  have HR := Lib.hid hL
  have HLL := Lib.hid hll
  unfold ranksR
  cases hv : rightB L
  · have HV := Lib.hid hv
    clear hL hll hv
    go_enter Tryz.func54, Tryz.ntmps54
    go_wp2_with (go_at_call 89; (with_reducible refine (rTasks_is HR.out HV.out).mono ?_); rintro e w1 ⟨rfl, hb1⟩)
    go_ret2
    exact .none hb1
  · have HV := Lib.hid hv
    have h5 := (right_of hv).len
    rw [hll] at h5
    have HA : Hid (rankSet L (n - 0) 0 (List.replicate n 0) = rankL L) := Lib.hid (by rw [← hll]; exact rankSet_eq L)
    rw [if_pos rfl]
    obtain ⟨R, hR⟩ : ∃ R, rankL L = R := ⟨_, rfl⟩
    simp only []
    rw [hR] at HA ⊢
    clear hL hll hv hR
    go_enter Tryz.func54, Tryz.ntmps54
    go_wp2_with (first
      | (go_at_call 89; (with_reducible refine (rTasks_is HR.out HV.out).mono ?_); rintro e w1 ⟨rfl, hb1⟩; have B1 := Lib.hid hb1; clear hb1)
      | (at_make; refine wpList_mkI rfl _ _ rfl n rfl rfl rfl rfl (by omega) (Nat.le_refl _) ?_; intro w2 hown2 hb2 hlt2; have HO2 := Lib.hid hown2; have B2 := Lib.hid hb2; clear hown2 hb2))
    go_loopw [5] (fun i wr => ∃ (k : Nat) (T : List Int), k ≤ n ∧ i = .int .i64 k ∧ T.length = n ∧ wr.ownsRow w1.heap.size 3 1 (.slice (some ⟨w1.heap.size, 0, none⟩) n n) n (T.flatMap enc1) ∧ rankSet L (n - k) k T = R ∧ Below w.heap.size w wr ∧ w1.heap.size < wr.heap.size) (fun i _ => n - (intOf i).toNat)
    case atStart => exact ⟨0, _, Nat.zero_le _, rfl, by simp, HO2.out, HA.out, (by repeat (first | (with_reducible exact Below.refl _ _) | (refine Below.then ?_ (Hid.out (by with_reducible assumption))))), hlt2⟩
    case round =>
      clear HA HO2
      obtain ⟨k, T, hk, rfl, hT, ho, he, hB, hz⟩ := hrel
      have HO := Lib.hid ho; have HE := Lib.hid he; have HB := Lib.hid hB; have HT := Lib.hid hT
      clear ho he hB hT
      by_cases hlt : k < n
      · have HC0 : Hid ((((idxs n).drop 0).filter (fun q => aheadB L q k)).length + 0 = cnt L k) := Lib.hid (by rw [cnt, HLL.out]; rfl)
        have HCL : Hid (cnt L k < n) := Lib.hid (by have := cnt_lt (L := L) (x := k) (by omega) (by rw [HLL.out]; omega); rw [HLL.out] at this; exact this)
        go_wp2
        go_loopw [6, 7] (fun v i wr' => ∃ (j m : Nat), j ≤ n ∧ v = .int .i64 m ∧ i = .int .i64 j ∧ (((idxs n).drop j).filter (fun q => aheadB L q k)).length + m = cnt L k ∧ Below wr.heap.size wr wr') (fun _ i _ => n - (intOf i).toNat)
        case atStart => exact ⟨0, 0, Nat.zero_le _, rfl, rfl, HC0.out, Below.refl _ _⟩
        case round =>
          clear HC0
          obtain ⟨j, m, hj, rfl, rfl, hc, hB2⟩ := hrel
          have HC := Lib.hid hc; have HB2 := Lib.hid hB2
          have hm : m < 9223372036854775807 := by have := HCL.out; omega
          clear hc hB2
          by_cases hjt : j < n
          · have hc := HC.out
            rw [idxs_drop hjt] at hc
            cases hq : aheadB L j k
            · rw [List.filter_cons_of_neg (by simp [hq])] at hc
              have HC2 := Lib.hid hc; have HQ := Lib.hid hq
              clear hc hq HC
              go_wp2_with (go_at_call 90; (with_reducible refine (rahead_is ((HR.out.ext HB.out).ext HB2.out) ⟨by omega, by omega⟩ ⟨by omega, by omega⟩ HQ.out).mono ?_); rintro e w3 ⟨rfl, hb3⟩)
              go_roundw
              case rel => exact ⟨j + 1, m, by omega, rfl, by go_num, HC2.out, Below.then HB2.out hb3⟩
              case measure => simp [intOf]; omega
            · rw [List.filter_cons_of_pos (by simp [hq])] at hc
              have HC2 : Hid ((((idxs n).drop (j + 1)).filter (fun q => aheadB L q k)).length + (m + 1) = cnt L k) := Lib.hid (by rw [← hc, List.length_cons]; omega)
              have HQ := Lib.hid hq
              clear hc hq HC
              go_wp2_with (go_at_call 90; (with_reducible refine (rahead_is ((HR.out.ext HB.out).ext HB2.out) ⟨by omega, by omega⟩ ⟨by omega, by omega⟩ HQ.out).mono ?_); rintro e w3 ⟨rfl, hb3⟩)
              go_roundw
              case rel => exact ⟨j + 1, m + 1, by omega, by go_num, by go_num, HC2.out, Below.then HB2.out hb3⟩
              case measure => simp [intOf]; omega
          · have hm2 : m = cnt L k := by have := HC.out; rw [List.drop_of_length_le (by rw [idxs_len]; omega)] at this; simpa using this
            have hmn : m < n := by rw [hm2]; exact HCL.out
            have HO1 := Lib.hid (owns_ext HO.out HB2.out)
            obtain ⟨x, hx, hcx, hfx, hqx⟩ := ownsI_at HO1.out m hmn
            have HO3 := Lib.hid (ownsI_set HO1.out m k)
            have hE := rankSet_step (f := n - (k + 1)) (i := k) (out := T) (R := R) (L := L) (by rw [show n - (k + 1) + 1 = n - k by omega]; exact HE.out)
            rw [← hm2] at hE
            have HE3 := Lib.hid hE
            clear hx hE hm2
            go_wp2_with (first | go_region)
            go_roundw
            case rel => exact ⟨k + 1, T.set m k, by omega, by go_num, by rw [List.length_set]; exact HT.out, HO3.out, HE3.out, Below.setCell (Below.then HB.out HB2.out) B1.out.size _, by have := HB2.out.size; simp; omega⟩
            case measure => simp [intOf]; omega
      · have hE := HE.out
        rw [show n - k = 0 by omega, rankSet] at hE
        subst hE
        go_wp2
        go_ret2
        exact ⟨_, _, _, rfl, owns_mono HO.out B1.out.size, HB.out⟩
end Go.Proofs.YtlhnhmimhpcoaaaGreat
namespace Go.Proofs.YtlhnhmimhpcoaaaGreat
open Go.RowKit
set_option linter.unusedSimpArgs false
set_option linter.unusedVariables false
theorem EB : Elt Tryz.prog 27 53 2 16 := Elt.mk' (z := .agg #[.int .i64 0, .int .i64 0]) Tryz.underlying27 (by kernel_rfl) rfl (by decide)
theorem ownsP_snoc {B : Nat} {w : World} {e : Nat} {xs : List P2} {x y : Int} {v : Value} {n : Nat} (h : w.ownsRow B e 2 v n (xs.flatMap enc2 ++ [.int .i64 x, .int .i64 y])) : w.ownsRow B e 2 v n ((xs ++ [(x, y)]).flatMap enc2) := by
  rw [List.flatMap_append]; exact h
theorem ownsP_rd {B : Nat} {w : World} {e : Nat} {xs : List P2} {a : Option Addr} {n c : Nat} (h : w.ownsRow B e 2 (.slice a n c) n (xs.flatMap enc2)) : Rd w a n 2 (xs.map enc2) := Rd.of_owns enc2_len (by decide) h
/-- a task of valid tasks -/
def isTk (L : List Ta) (t : Int) : Bool := rightB L && inB t 0 ((L.length : Int) - 1)
theorem isTk_iff {L : List Ta} {t : Int} : isTk L t = true ↔ rightB L = true ∧ 0 ≤ t ∧ t < L.length := by
  unfold isTk; rw [Bool.and_eq_true, inB_iff]; constructor <;> (rintro ⟨h1, h2, h3⟩; exact ⟨h1, by omega, by omega⟩)
def blksR (L : List Ta) (t : Int) : List P2 × Int := if isTk L t then (blockL L t, 0) else ([], 1)
theorem blkP_len (L : List Ta) (t j : Int) : ∀ (ps : List P2) (k : Nat), (blkP L t j k ps).length ≤ ps.length
  | [], _ => by simp [blkP]
  | p :: ps, k => by
    have := blkP_len L t j ps (k + 1)
    rw [blkP]; split <;> simp <;> omega
theorem taAt_mem {L : List Ta} {k : Nat} (h : k < L.length) : taAt L k ∈ L := by
  rw [taAt_of (List.getElem?_eq_getElem h)]; exact List.getElem_mem h
theorem blkFrom_len {L : List Ta} (hv : Right L) (t : Int) : ∀ (f j : Nat), j + f ≤ L.length → (blkFrom L t f j).length ≤ 8 * f
  | 0, _, _ => by simp [blkFrom]
  | f + 1, j, h => by
    have h1 := blkFrom_len hv t f (j + 1) (by omega)
    have h2 := blkP_len L t j (taAt L j).pcs 0
    have h3 := (hv.pcs _ (taAt_mem (L := L) (k := j) (by omega))).2
    rw [blkFrom, List.length_append]
    split
    · omega
    · simp; omega
theorem blockL_len {L : List Ta} (hv : Right L) (t : Int) : (blockL L t).length ≤ 40 := by
  have := blkFrom_len hv t L.length 0 (by omega)
  have := hv.len
  unfold blockL; omega
def OutBE (B : Nat) (w : World) (xs : List P2) (er : Int) (e : Ending) (w' : World) : Prop :=
  ∃ a n c, e = .returned (.tuple #[.slice a n c, .int .i64 er]) ∧ w'.ownsRow B 53 2 (.slice a n c) n (xs.flatMap enc2) ∧ Below B w w'
theorem OutBE.none {B : Nat} {w w' : World} {er : Int} (hb : Below B w w') : OutBE B w [] er (.returned (.tuple #[.slice none 0 0, .int .i64 er])) w' := ⟨_, _, _, rfl, World.ownsRow_nil _ _ _ _, hb⟩
theorem blkFrom_step {L : List Ta} {t : Int} {f j : Nat} : blkFrom L t (f + 1) j = (if aheadB L t j = true then blkP L t j 0 (taAt L j).pcs else []) ++ blkFrom L t f (j + 1) := rfl
theorem Rd.piece {w : World} {a : Option Addr} {n : Nat} {ps : List P2} (h : Rd w a n 2 (ps.map enc2)) (k : Nat) (hk : k < n) : ∃ (p : P2) (b off : Nat), a = some ⟨b, off, none⟩ ∧ b < w.heap.size ∧
    w.cell? ⟨b, off + k * 2, none⟩ = some (.int .i64 p.1) ∧ w.cell? ⟨b, off + k * 2 + 1, none⟩ = some (.int .i64 p.2) ∧ ps[k]? = some p ∧ Hid (ps.drop k = p :: ps.drop (k + 1)) := by
  obtain ⟨hl, b, off, rfl, hb, h1, h2⟩ := h.two k hk
  exact ⟨_, b, off, rfl, hb, h1, h2, List.getElem?_eq_getElem hl, List.drop_eq_getElem_cons hl⟩
end Go.Proofs.YtlhnhmimhpcoaaaGreat
namespace Go.Proofs.YtlhnhmimhpcoaaaGreat
open Go.RowKit
set_option linter.unusedSimpArgs false
set_option linter.unusedVariables false
def blkgR (L : List Ta) (t : Int) : Int × Int := if isTk L t then (blockN L t, 0) else (0, 1)
def maxB (L : List Ta) (m : Int) (bs : List P2) : Int := bs.foldl (fun m b => max m (ticksAt L b)) m
theorem maxB_cons (L : List Ta) (m : Int) (b : P2) (bs : List P2) : maxB L m (b :: bs) = maxB L (max m (ticksAt L b)) bs := rfl
/-- what a blocker says about the tasks in memory -/
theorem RdL.blk {w : World} {a : Option Addr} {n : Nat} {L : List Ta} {t : Int} {b : P2} (h : RdL w a n L) (hb : IsBlk L t b) : ∃ (j k : Nat) (g off pb poff : Nat) (pn pc : Nat) (p : P2), b = ((j : Int), (k : Int)) ∧ j < n ∧ k < pn ∧ a = some ⟨g, off, none⟩ ∧ g < w.heap.size ∧ pb < w.heap.size ∧
    w.cell? ⟨g, off + j * 6 + 5, none⟩ = some (.slice (some ⟨pb, poff, none⟩) pn pc) ∧ w.cell? ⟨pb, poff + k * 2, none⟩ = some (.int .i64 p.1) ∧ w.cell? ⟨pb, poff + k * 2 + 1, none⟩ = some (.int .i64 p.2) ∧ ticksAt L b = p.1 ∧ pn ≤ 9223372036854775807 := by
  obtain ⟨j, hj⟩ := Int.eq_ofNat_of_zero_le hb.j0
  obtain ⟨k, hk⟩ := Int.eq_ofNat_of_zero_le hb.k0
  have hjn : j < n := by have := hb.j1; rw [h.length, hj] at this; omega
  obtain ⟨u, g, off, pa, pn, pc, rfl, hg, c0, c1, c2, c3, c4, c5, hp, _, hget, _⟩ := h.at_ j hjn
  have hkn : k < pn := by
    have := hb.k1
    rw [hj, taAt_of hget, hp.length, hk] at this
    omega
  obtain ⟨p, pb, poff, rfl, hpb, e1, e2, hpg, _⟩ := hp.piece k hkn
  refine ⟨j, k, g, off, pb, poff, pn, pc, p, by rw [← hj, ← hk], hjn, hkn, rfl, hg, hpb, c5, e1, e2, ?_, hp.small⟩
  rw [ticksAt, hj, taAt_of hget, hk, Int.toNat_natCast, hpg]; rfl
/-- what Raised gives -/
def raisedR (L : List Ta) (t p : Int) : Int × Int :=
  if isTk L t && inB p 0 (((taAt L t).pcs.length : Int) - 1) then
    (if ((((taAt L t).pcs)[p.toNat]?).getD default).2 < 0 then t else ceilG L ((((taAt L t).pcs)[p.toNat]?).getD default).2, 0)
  else (0, 1)
set_option maxRecDepth 10000 in
set_option maxHeartbeats 2000000 in
theorem rRaised_any (a : Option Addr) (n c : Nat) (L : List Ta) (t p : Int) (w : World) (hL : RdL w a n L) :
    Calls Tryz.prog 122 #[.slice a n c, .int .i64 t, .int .i64 p] w fun e w' => e = rII (raisedR L t p).1 (raisedR L t p).2 ∧ Below w.heap.size w w' := by
  have hll := hL.length
  have hs := hL.small
  have HR := Lib.hid hL
  unfold raisedR isTk
  rw [hll]
  cases hv : rightB L
  · have HV := Lib.hid hv
    rw [Bool.false_and, Bool.false_and]
    clear hL hv hll
    go_enter Tryz.func122, Tryz.ntmps122
    go_wp2_with (go_at_call 89; (with_reducible refine (rTasks_is HR.out HV.out).mono ?_); rintro e w1 ⟨rfl, hb1⟩; have B1 := Lib.hid hb1; clear hb1)
    go_ret2
    exact ⟨rII_eq rfl rfl, B1.out⟩
  · have HV := Lib.hid hv
    rw [Bool.true_and]
    by_cases h0 : t < 0
    · rw [if_neg (by rw [Bool.and_eq_true, inB_iff]; omega)]
      clear hL hv hll
      go_enter Tryz.func122, Tryz.ntmps122
      go_wp2_with (go_at_call 89; (with_reducible refine (rTasks_is HR.out HV.out).mono ?_); rintro e w1 ⟨rfl, hb1⟩; have B1 := Lib.hid hb1; clear hb1)
      go_ret2
      exact ⟨rII_eq rfl rfl, B1.out⟩
    · have h0' : decide (t < 0) = false := by simpa using h0
      by_cases h1 : (n : Int) ≤ t
      · rw [if_neg (by rw [Bool.and_eq_true, inB_iff]; omega)]
        clear hL hv hll
        go_enter Tryz.func122, Tryz.ntmps122
        go_wp2_with (go_at_call 89; (with_reducible refine (rTasks_is HR.out HV.out).mono ?_); rintro e w1 ⟨rfl, hb1⟩; have B1 := Lib.hid hb1; clear hb1)
        go_ret2
        exact ⟨rII_eq rfl rfl, B1.out⟩
      · obtain ⟨q, rfl⟩ := Int.eq_ofNat_of_zero_le (Int.not_lt.1 h0)
        have hqn : q < n := by omega
        have h1' : decide ((n : Int) ≤ (q : Int)) = false := by simpa using h1
        have h1'' : decide (n ≤ q) = false := by simp; omega
        obtain ⟨u, b, off, pa, pn, pc, rfl, hb, _, _, _, _, _, c5, hp, _, hg, _⟩ := hL.at_ q hqn
        rw [taAt_of hg, hp.length, show inB (q : Int) 0 ((n : Int) - 1) = true from inB_iff.2 (by omega), Bool.true_and]
        have hps := hp.small
        have C5 : Hid (∀ w1 : World, Below w.heap.size w w1 → w1.cell? ⟨b, off + q * 6 + 5, none⟩ = some (.slice pa pn pc)) := Lib.hid (fun w1 h => (h.cell (p := ⟨b, off + q * 6 + 5, none⟩) hb).trans c5)
        by_cases h2 : p < 0
        · rw [if_neg (by rw [inB_iff]; omega)]
          clear hL hv hll hg hp c5
          go_enter Tryz.func122, Tryz.ntmps122
          go_wp2_with (go_at_call 89; (with_reducible refine (rTasks_is HR.out HV.out).mono ?_); rintro e w1 ⟨rfl, hb1⟩; have B1 := Lib.hid hb1; have c5 := C5.out _ hb1; clear hb1)
          go_ret2
          exact ⟨rII_eq rfl rfl, B1.out⟩
        · have h2' : decide (p < 0) = false := by simpa using h2
          by_cases h3 : (pn : Int) ≤ p
          · rw [if_neg (by rw [inB_iff]; omega)]
            clear hL hv hll hg hp c5
            go_enter Tryz.func122, Tryz.ntmps122
            go_wp2_with (go_at_call 89; (with_reducible refine (rTasks_is HR.out HV.out).mono ?_); rintro e w1 ⟨rfl, hb1⟩; have B1 := Lib.hid hb1; have c5 := C5.out _ hb1; clear hb1)
            go_ret2
            exact ⟨rII_eq rfl rfl, B1.out⟩
          · obtain ⟨j, rfl⟩ := Int.eq_ofNat_of_zero_le (Int.not_lt.1 h2)
            have hjn : j < pn := by omega
            have h3' : decide ((pn : Int) ≤ (j : Int)) = false := by simpa using h3
            have h3'' : decide (pn ≤ j) = false := by simp; omega
            obtain ⟨v, b1, off1, rfl, hb1, e1, e2, hpg, _⟩ := hp.piece j hjn
            rw [if_pos (by rw [inB_iff]; omega), Int.toNat_natCast, hpg]
            obtain ⟨y, hy⟩ : ∃ y, v.2 = y := ⟨_, rfl⟩
            have E2 : Hid (∀ w1 : World, Below w.heap.size w w1 → w1.cell? ⟨b1, off1 + j * 2 + 1, none⟩ = some (.int .i64 y)) := Lib.hid (fun w1 h => (h.cell (p := ⟨b1, off1 + j * 2 + 1, none⟩) hb1).trans (by rw [← hy]; exact e2))
            simp only [Option.getD_some]
            rw [hy]
            clear hL hv hll hg hp c5 e1 e2 hpg hy
            by_cases h4 : y < 0
            · rw [if_pos h4]
              go_enter Tryz.func122, Tryz.ntmps122
              go_wp2_with (go_at_call 89; (with_reducible refine (rTasks_is HR.out HV.out).mono ?_); rintro e w1 ⟨rfl, hb1⟩; have B1 := Lib.hid hb1; have c5 := C5.out _ hb1; have c6 := E2.out _ hb1; clear hb1)
              go_ret2
              exact ⟨rII_eq rfl rfl, B1.out⟩
            · have h4' : decide (y < 0) = false := by simpa using h4
              rw [if_neg h4]
              obtain ⟨x, hx⟩ : ∃ x, ceilG L y = x := ⟨_, rfl⟩
              have HX := Lib.hid hx
              rw [hx]
              clear hx
              go_enter Tryz.func122, Tryz.ntmps122
              go_wp2_with (first
                | (go_at_call 89; (with_reducible refine (rTasks_is HR.out HV.out).mono ?_); rintro e w1 ⟨rfl, hb1⟩; have B1 := Lib.hid hb1; have c5 := C5.out _ hb1; have c6 := E2.out _ hb1; clear hb1)
                | (go_at_call 128; (with_reducible refine (rCeil_is (HR.out.ext B1.out) HX.out).mono ?_); rintro e w2 ⟨rfl, hb2⟩; have B2 := Lib.hid hb2; clear hb2))
              go_ret2
              exact ⟨rII_eq rfl rfl, Below.then B1.out B2.out⟩
end Go.Proofs.YtlhnhmimhpcoaaaGreat
namespace Go.Proofs.YtlhnhmimhpcoaaaGreat
open Go.RowKit
set_option linter.unusedSimpArgs false
set_option linter.unusedVariables false
/-- where the parts of a run lie -/
structure RunH where
  tA : Option Addr
  tN : Nat
  tC : Nat
  eA : Option Addr
  eN : Nat
  eC : Nat
  bA : Option Addr
  bN : Nat
  bC : Nat
  sA : Option Addr
  sN : Nat
  sC : Nat
def evAt (evs : List (List P2)) (k : Nat) : List P2 := (evs[k]?).getD []
/-- a slice of lists of pairs -/
structure Evs (w : World) (a : Option Addr) (n : Nat) (evs : List (List P2)) : Prop where
  len : evs.length = n
  sm : n ≤ 9223372036854775807
  at_ : ∀ k, k < n → ∃ (b off : Nat) (ea : Option Addr) (en ec : Nat), a = some ⟨b, off, none⟩ ∧ b < w.heap.size ∧ w.cell? ⟨b, off + k, none⟩ = some (.slice ea en ec) ∧ Rd w ea en 2 ((evAt evs k).map enc2)
theorem Evs.ext {w w' : World} {a : Option Addr} {n : Nat} {evs : List (List P2)} (h : Evs w a n evs) (hb : Below w.heap.size w w') : Evs w' a n evs :=
  ⟨h.len, h.sm, fun k hk => by
    obtain ⟨b, off, ea, en, ec, e, h1, h2, h3⟩ := h.at_ k hk
    exact ⟨b, off, ea, en, ec, e, Nat.lt_of_lt_of_le h1 hb.size, (hb.cell (p := ⟨b, off + k, none⟩) h1).trans h2, h3.ext hb⟩⟩
structure RdRun (w : World) (H : RunH) (R : Rn) : Prop where
  t : RdL w H.tA H.tN R.L
  e : Evs w H.eA H.eN R.ev
  b : Rd w H.bA H.bN 1 (R.bu.map enc1)
  s : Rd w H.sA H.sN 2 (R.sg.map enc2)
theorem RdRun.ext {w w' : World} {H : RunH} {R : Rn} (h : RdRun w H R) (hb : Below w.heap.size w w') : RdRun w' H R := ⟨h.t.ext hb, h.e.ext hb, h.b.ext hb, h.s.ext hb⟩
def encE (e : En) : List Value := [.int .i64 e.m, .int .i64 e.k, .int .i64 e.w, .int .i64 e.a, .int .i64 e.b]
theorem encE_len (e : En) : (encE e).length = 5 := rfl
def encJ (j : Jb) : List Value := [.int .i64 j.p, .int .i64 j.t, .int .i64 j.d, .bool j.s]
theorem EEn : Elt Tryz.prog 54 58 5 40 := Elt.mk' (z := .agg #[.int .i64 0, .int .i64 0, .int .i64 0, .int .i64 0, .int .i64 0]) Tryz.underlying54 (by kernel_rfl) rfl (by decide)
/-- the machine's boxes -/
structure MPar where
  w0 : World
  H : RunH
  R : Rn
  K : Nat
  p : Nat
  W : Nat
  J : Nat
  rb : Nat
  O : List Int
structure MLay (M : MPar) : Prop where
  p : M.w0.heap.size ≤ M.p ∧ M.p < M.K
  W : M.w0.heap.size ≤ M.W ∧ M.W < M.K
  J : M.w0.heap.size ≤ M.J ∧ M.J < M.K
  r : M.w0.heap.size ≤ M.rb ∧ M.rb < M.K
  ne : M.p ≠ M.W ∧ M.p ≠ M.J ∧ M.p ≠ M.rb ∧ M.W ≠ M.J ∧ M.W ≠ M.rb ∧ M.J ≠ M.rb
structure Mach (M : MPar) (w : World) (s : Ms) : Prop where
  c0 : w.cell? ⟨M.p, 0, none⟩ = some (.slice M.H.tA M.H.tN M.H.tC)
  c1 : w.cell? ⟨M.p, 1, none⟩ = some (.int .i64 M.R.fr)
  c2 : w.cell? ⟨M.p, 2, none⟩ = some (.int .i64 M.R.sl)
  c3 : w.cell? ⟨M.p, 3, none⟩ = some (.slice M.H.eA M.H.eN M.H.eC)
  c4 : w.cell? ⟨M.p, 4, none⟩ = some (.slice M.H.bA M.H.bN M.H.bC)
  c5 : w.cell? ⟨M.p, 5, none⟩ = some (.slice M.H.sA M.H.sN M.H.sC)
  c6 : w.cell? ⟨M.p, 6, none⟩ = some (.slice (some ⟨M.rb, 0, none⟩) M.R.L.length M.R.L.length)
  c7 : w.cell? ⟨M.p, 7, none⟩ = some (.slice (some ⟨M.W, 0, none⟩) M.R.L.length M.R.L.length)
  c8 : w.cell? ⟨M.p, 8, none⟩ = some (.slice (some ⟨M.J, 0, none⟩) M.R.L.length M.R.L.length)
  fp : ∀ j, w.frozen? ⟨M.p, j, none⟩ = false
  en : ∃ (a : Option Addr) (m c : Nat), w.cell? ⟨M.p, 9, none⟩ = some (.slice a m c) ∧ w.ownsRow M.K 58 5 (.slice a m c) m (s.o.flatMap encE)
  rk : ∀ i, i < M.R.L.length → ∃ x, M.O[i]? = some x ∧ w.cell? ⟨M.rb, i, none⟩ = some (.int .i64 x)
  fr : ∀ j, w.frozen? ⟨M.rb, j, none⟩ = false
  qu : ∃ h : Nat → Hdr, (∀ i, i < M.R.L.length → w.cell? ⟨M.W, i, none⟩ = some (sl (h i))) ∧ IRows M.K w M.R.L.length h s.qa
  fw : ∀ j, w.frozen? ⟨M.W, j, none⟩ = false
  jb : ∀ i, i < M.R.L.length → ∀ j, j < 4 → w.cell? ⟨M.J, i * 4 + j, none⟩ = (encJ (s.ja i))[j]?
  fj : ∀ j, w.frozen? ⟨M.J, j, none⟩ = false
  kl : M.K ≤ w.heap.size
  ql : s.q.length = M.R.L.length
  jl : s.j.length = M.R.L.length
  lb : Below M.w0.heap.size M.w0 w
theorem addr_neS {b b' i j : Nat} (h : b ≠ b' ∨ i ≠ j) : (⟨b, i, none⟩ : Addr) ≠ ⟨b', j, none⟩ := by
  intro q; rcases h with h | h
  · exact h (congrArg Addr.block q)
  · exact h (congrArg Addr.off q)
section
variable {M : MPar} {w w' : World} {s s' : Ms}
/-- all but the entries and the queues -/
theorem Mach.keep (h : Mach M w s) (hl : MLay M) (hb : Below M.K w w')
    (hen : ∃ (a : Option Addr) (m c : Nat), w'.cell? ⟨M.p, 9, none⟩ = some (.slice a m c) ∧ w'.ownsRow M.K 58 5 (.slice a m c) m (s'.o.flatMap encE))
    (hq : ∃ h : Nat → Hdr, (∀ i, i < M.R.L.length → w'.cell? ⟨M.W, i, none⟩ = some (sl (h i))) ∧ IRows M.K w' M.R.L.length h s'.qa) (hj : s'.j = s.j) (hql : s'.q.length = s.q.length) : Mach M w' s' := by
  have cp : ∀ j, w'.cell? ⟨M.p, j, none⟩ = w.cell? ⟨M.p, j, none⟩ := fun j => hb.cell (p := ⟨M.p, j, none⟩) hl.p.2
  have hja : ∀ i, s'.ja i = s.ja i := fun i => by unfold Ms.ja; rw [hj]
  exact ⟨(cp 0).trans h.c0, (cp 1).trans h.c1, (cp 2).trans h.c2, (cp 3).trans h.c3, (cp 4).trans h.c4, (cp 5).trans h.c5, (cp 6).trans h.c6, (cp 7).trans h.c7, (cp 8).trans h.c8,
    fun j => (hb.frozen (p := ⟨M.p, j, none⟩) hl.p.2).trans (h.fp j), hen,
    fun i hi => by obtain ⟨x, h1, h2⟩ := h.rk i hi; exact ⟨x, h1, (hb.cell (p := ⟨M.rb, i, none⟩) hl.r.2).trans h2⟩,
    fun j => (hb.frozen (p := ⟨M.rb, j, none⟩) hl.r.2).trans (h.fr j), hq, fun j => (hb.frozen (p := ⟨M.W, j, none⟩) hl.W.2).trans (h.fw j),
    fun i hi j hj4 => by rw [hja]; exact (hb.cell (p := ⟨M.J, i * 4 + j, none⟩) hl.J.2).trans (h.jb i hi j hj4), fun j => (hb.frozen (p := ⟨M.J, j, none⟩) hl.J.2).trans (h.fj j),
    Nat.le_trans h.kl hb.size, hql.trans h.ql, by rw [hj]; exact h.jl, h.lb.trans (hb.mono (Nat.le_trans hl.p.1 (Nat.le_of_lt hl.p.2)))⟩
theorem Mach.ext (h : Mach M w s) (hl : MLay M) (hb : Below w.heap.size w w') : Mach M w' s := by
  have hk := h.kl
  have hp := hl.p
  have hW := hl.W
  refine h.keep hl (hb.mono hk) ?_ ?_ rfl rfl
  · obtain ⟨a, m, c, h1, h2⟩ := h.en
    exact ⟨a, m, c, (hb.cell (p := ⟨M.p, 9, none⟩) (by simp only []; omega)).trans h1, owns_ext h2 hb⟩
  · obtain ⟨g, h1, h2⟩ := h.qu
    exact ⟨g, fun i hi => (hb.cell (p := ⟨M.W, i, none⟩) (by simp only []; omega)).trans (h1 i hi), h2.ext hb⟩
/-- an entry has been laid -/
theorem Mach.entry (h : Mach M w s) (hl : MLay M) {a a' : Option Addr} {m c c' : Nat} {e : En} {o : Obj} (h1 : w.cell? ⟨M.p, 9, none⟩ = some (.slice a m c)) (h2 : w.ownsRow M.K 58 5 (.slice a m c) m (s.o.flatMap encE))
    (hown : w'.ownsRow M.K 58 5 (.slice a' (m + 1) c') (m + 1) (s.o.flatMap encE ++ encE e)) (hg : (w.alloc o).grownBy w' (Value.slice a m c).ownBlock) :
    Mach M (w'.setCell ⟨M.p, 9, none⟩ (.slice a' (m + 1) c')) (s.wr e) := by
  have hk := h.kl
  have hp := hl.p
  have hb : Below M.K w w' := ((Below.refl M.K w).alloc hk o).trans (grown_below (h2.alloc o) hg (by rw [World.size_alloc]; omega))
  have hq : ∃ g : Nat → Hdr, (∀ i, i < M.R.L.length → w'.cell? ⟨M.W, i, none⟩ = some (sl (g i))) ∧ IRows M.K w' M.R.L.length g s.qa := by
    obtain ⟨g, g1, g2⟩ := h.qu
    exact ⟨g, fun i hi => (hb.cell (p := ⟨M.W, i, none⟩) hl.W.2).trans (g1 i hi), ⟨fun i hi => owns_kept ((g2.own i hi).alloc o) (h2.alloc o) (by decide) hg, g2.apart⟩⟩
  have h9 : w'.cell? ⟨M.p, 9, none⟩ = some (.slice a m c) := (hb.cell (p := ⟨M.p, 9, none⟩) hp.2).trans h1
  have cp : ∀ j, j ≠ 9 → (w'.setCell ⟨M.p, 9, none⟩ (.slice a' (m + 1) c')).cell? ⟨M.p, j, none⟩ = w.cell? ⟨M.p, j, none⟩ := fun j hj => (World.cell?_setCell_other _ _ _ _ (addr_neS (.inr (fun q => hj q.symm)))).trans (hb.cell (p := ⟨M.p, j, none⟩) hp.2)
  have co : ∀ b j, b ≠ M.p → (w'.setCell ⟨M.p, 9, none⟩ (.slice a' (m + 1) c')).cell? ⟨b, j, none⟩ = w'.cell? ⟨b, j, none⟩ := fun b j hb => World.cell?_setCell_other _ _ _ _ (addr_neS (.inl (fun q => hb q.symm)))
  obtain ⟨n1, n2, n3, n4, n5, n6⟩ := hl.ne
  refine ⟨(cp 0 (by decide)).trans h.c0, (cp 1 (by decide)).trans h.c1, (cp 2 (by decide)).trans h.c2, (cp 3 (by decide)).trans h.c3, (cp 4 (by decide)).trans h.c4, (cp 5 (by decide)).trans h.c5, (cp 6 (by decide)).trans h.c6, (cp 7 (by decide)).trans h.c7, (cp 8 (by decide)).trans h.c8,
    fun j => by rw [World.frozen?_setCell]; exact (hb.frozen (p := ⟨M.p, j, none⟩) hp.2).trans (h.fp j), ⟨a', m + 1, c', World.cell?_setCell_same _ _ _ h9, ?_⟩,
    fun i hi => ?_, fun j => by rw [World.frozen?_setCell]; exact (hb.frozen (p := ⟨M.rb, j, none⟩) hl.r.2).trans (h.fr j), ?_, fun j => by rw [World.frozen?_setCell]; exact (hb.frozen (p := ⟨M.W, j, none⟩) hl.W.2).trans (h.fw j),
    fun i hi j hj4 => ?_, fun j => by rw [World.frozen?_setCell]; exact (hb.frozen (p := ⟨M.J, j, none⟩) hl.J.2).trans (h.fj j), by have := hb.size; simp; omega, h.ql, h.jl, ?_⟩
  · have : (s.wr e).o.flatMap encE = s.o.flatMap encE ++ encE e := by simp [Ms.wr]
    rw [this]
    exact owns_far hown hp.2 _
  · obtain ⟨x, g1, g2⟩ := h.rk i hi
    exact ⟨x, g1, (co M.rb i (fun q => n3 q.symm)).trans ((hb.cell (p := ⟨M.rb, i, none⟩) hl.r.2).trans g2)⟩
  · obtain ⟨g, g1, g2⟩ := hq
    exact ⟨g, fun i hi => (co M.W i (fun q => n1 q.symm)).trans (g1 i hi), g2.far hp.2 _⟩
  · exact (co M.J _ (fun q => n2 q.symm)).trans ((hb.cell (p := ⟨M.J, i * 4 + j, none⟩) hl.J.2).trans (h.jb i hi j hj4))
  · exact (h.lb.trans (hb.mono (by omega))).setCell (p := ⟨M.p, 9, none⟩) hp.1 _
/-- a cell of a job has been laid -/
theorem Mach.job (h : Mach M w s) (hl : MLay M) {i : Nat} (hi : i < M.R.L.length) {j : Nat} (hj : j < 4) {v : Value} {b : Jb} (he : encJ b = (encJ (s.ja i)).set j v) :
    Mach M (w.setCell ⟨M.J, i * 4 + j, none⟩ v) { s with j := s.j.set i b } := by
  have hk := h.kl
  obtain ⟨n1, n2, n3, n4, n5, n6⟩ := hl.ne
  have co : ∀ b k, b ≠ M.J → (w.setCell ⟨M.J, i * 4 + j, none⟩ v).cell? ⟨b, k, none⟩ = w.cell? ⟨b, k, none⟩ := fun b k hb => World.cell?_setCell_other _ _ _ _ (addr_neS (.inl (fun q => hb q.symm)))
  have cp := fun k => co M.p k n2
  refine ⟨(cp 0).trans h.c0, (cp 1).trans h.c1, (cp 2).trans h.c2, (cp 3).trans h.c3, (cp 4).trans h.c4, (cp 5).trans h.c5, (cp 6).trans h.c6, (cp 7).trans h.c7, (cp 8).trans h.c8,
    fun k => by rw [World.frozen?_setCell]; exact h.fp k, ?_, fun k hk => ?_, fun k => by rw [World.frozen?_setCell]; exact h.fr k, ?_, fun k => by rw [World.frozen?_setCell]; exact h.fw k, fun k hk k' hk4 => ?_, fun k => by rw [World.frozen?_setCell]; exact h.fj k,
    by simpa using hk, h.ql, by simpa using h.jl, h.lb.setCell (p := ⟨M.J, i * 4 + j, none⟩) hl.J.1 _⟩
  · obtain ⟨a, m, c, g1, g2⟩ := h.en
    exact ⟨a, m, c, (cp 9).trans g1, owns_far g2 hl.J.2 _⟩
  · obtain ⟨x, g1, g2⟩ := h.rk k hk
    exact ⟨x, g1, (co M.rb k (fun q => n6 q.symm)).trans g2⟩
  · obtain ⟨g, g1, g2⟩ := h.qu
    exact ⟨g, fun k hk => (co M.W k n4).trans (g1 k hk), g2.far hl.J.2 _⟩
  · rw [ja_set (by rw [h.jl]; exact hi)]
    by_cases e : k = i
    · subst e
      rw [if_pos rfl, he, List.getElem?_set]
      by_cases e2 : j = k'
      · subst e2
        rw [if_pos rfl, if_pos (by simpa [encJ] using hj)]
        have := h.jb k hk j hj
        have hlt : j < (encJ (s.ja k)).length := by simpa [encJ] using hj
        rw [List.getElem?_eq_getElem hlt] at this
        exact World.cell?_setCell_same _ _ _ this
      · rw [if_neg e2]
        exact (World.cell?_setCell_other _ _ _ _ (addr_neS (.inr (by omega)))).trans (h.jb k hk k' hk4)
    · rw [if_neg e]
      exact (World.cell?_setCell_other _ _ _ _ (addr_neS (.inr (by omega)))).trans (h.jb k hk k' hk4)
/-- a queue has been laid anew: the row i, its header -/
theorem Mach.queue (h : Mach M w s) (hl : MLay M) {i : Nat} (hi : i < M.R.L.length) {g : Nat → Hdr} {d : Hdr} {q : List Int} (hb : Below M.K w w')
    (hen : ∀ (a : Option Addr) (m c : Nat), w.ownsRow M.K 58 5 (.slice a m c) m (s.o.flatMap encE) → w'.ownsRow M.K 58 5 (.slice a m c) m (s.o.flatMap encE))
    (hg : ∀ k, k < M.R.L.length → w.cell? ⟨M.W, k, none⟩ = some (sl (g k))) (hr : IRows M.K w' M.R.L.length (updF g i d) (updF s.qa i q)) :
    Mach M (w'.setCell ⟨M.W, i, none⟩ (sl d)) { s with q := s.q.set i q } := by
  have hk := h.kl
  have hp := hl.p
  obtain ⟨n1, n2, n3, n4, n5, n6⟩ := hl.ne
  have co : ∀ b k, b ≠ M.W → b < M.K → (w'.setCell ⟨M.W, i, none⟩ (sl d)).cell? ⟨b, k, none⟩ = w.cell? ⟨b, k, none⟩ := fun b k hbn hbk => (World.cell?_setCell_other _ _ _ _ (addr_neS (.inl (fun q => hbn q.symm)))).trans (hb.cell (p := ⟨b, k, none⟩) hbk)
  have cp := fun k => co M.p k n1 hp.2
  refine ⟨(cp 0).trans h.c0, (cp 1).trans h.c1, (cp 2).trans h.c2, (cp 3).trans h.c3, (cp 4).trans h.c4, (cp 5).trans h.c5, (cp 6).trans h.c6, (cp 7).trans h.c7, (cp 8).trans h.c8,
    fun k => by rw [World.frozen?_setCell]; exact (hb.frozen (p := ⟨M.p, k, none⟩) hp.2).trans (h.fp k), ?_, fun k hk => ?_, fun k => by rw [World.frozen?_setCell]; exact (hb.frozen (p := ⟨M.rb, k, none⟩) hl.r.2).trans (h.fr k), ?_,
    fun k => by rw [World.frozen?_setCell]; exact (hb.frozen (p := ⟨M.W, k, none⟩) hl.W.2).trans (h.fw k), fun k hk k' hk4 => (co M.J _ (fun q => n4 q.symm) hl.J.2).trans (h.jb k hk k' hk4), fun k => by rw [World.frozen?_setCell]; exact (hb.frozen (p := ⟨M.J, k, none⟩) hl.J.2).trans (h.fj k),
    by have := hb.size; simp; omega, by simpa using h.ql, h.jl, (h.lb.trans (hb.mono (by omega))).setCell (p := ⟨M.W, i, none⟩) hl.W.1 _⟩
  · obtain ⟨a, m, c, g1, g2⟩ := h.en
    exact ⟨a, m, c, (cp 9).trans g1, owns_far (hen a m c g2) hl.W.2 _⟩
  · obtain ⟨x, g1, g2⟩ := h.rk k hk
    exact ⟨x, g1, (co M.rb k (fun q => n5 q.symm) hl.r.2).trans g2⟩
  · refine ⟨updF g i d, fun k hk => ?_, ?_⟩
    · by_cases e : k = i
      · subst e
        rw [updF_same]
        exact World.cell?_setCell_same _ _ _ ((hb.cell (p := ⟨M.W, k, none⟩) hl.W.2).trans (hg k hk))
      · rw [updF_other _ _ e]
        exact (World.cell?_setCell_other _ _ _ _ (addr_neS (.inr (fun q => e q.symm)))).trans ((hb.cell (p := ⟨M.W, k, none⟩) hl.W.2).trans (hg k hk))
    · have e : Ms.qa { s with q := s.q.set i q } = updF s.qa i q := by
        funext k
        rw [qa_set (q := s.q) (by rw [h.ql]; exact hi)]
        rfl
      rw [e]
      exact hr.far hl.W.2 _
end
end Go.Proofs.YtlhnhmimhpcoaaaGreat
