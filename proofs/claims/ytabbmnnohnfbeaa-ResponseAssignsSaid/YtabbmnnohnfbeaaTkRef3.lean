/- The contracts of Blockers, Blocking, Raised of the reference. The conditions: the tasks read as named. -/
import Derived.Test.YtabbmnnohnfbeaaTkRef2
namespace Go.Proofs.Ytabbmnnohnfbeaa
open Go.RowKit
set_option linter.unusedSimpArgs false
set_option linter.unusedVariables false
theorem EB : Elt Try.prog 71 74 2 16 := Elt.mk' (z := .agg #[.int .i64 0, .int .i64 0]) Try.underlying71 (by kernel_rfl) rfl (by decide)
theorem ownsP_snoc {B : Nat} {w : World} {e : Nat} {xs : List P2} {x y : Int} {v : Value} {n : Nat} (h : w.ownsRow B e 2 v n (xs.flatMap enc2 ++ [.int .i64 x, .int .i64 y])) : w.ownsRow B e 2 v n ((xs ++ [(x, y)]).flatMap enc2) := by
  rw [List.flatMap_append]; exact h
theorem ownsP_rd {B : Nat} {w : World} {e : Nat} {xs : List P2} {a : Option Addr} {n c : Nat} (h : w.ownsRow B e 2 (.slice a n c) n (xs.flatMap enc2)) : Rd w a n 2 (xs.map enc2) := Rd.of_owns enc2_len (by decide) h
/-- a task of valid tasks -/
def isTk (L : List Ta) (t : Int) : Bool := rightB L && inB t 0 ((L.length : Int) - 1)
theorem isTk_iff {L : List Ta} {t : Int} : isTk L t = true ↔ rightB L = true ∧ 0 ≤ t ∧ t < L.length := by
  unfold isTk; rw [Bool.and_eq_true, inB_iff]; constructor <;> (rintro ⟨h1, h2, h3⟩; exact ⟨h1, by omega, by omega⟩)
def blksR (L : List Ta) (t : Int) : List P2 × Int := if isTk L t then (blockL L t, 0) else ([], 1)
theorem blkP_len (L : List Ta) (t j : Int) : ∀ (ps : List P2) (k : Nat), (blkP L t j k ps).length ≤ ps.length
  | [], _ => by simp [blkP]
  | p :: ps, k => by
    have := blkP_len L t j ps (k + 1)
    rw [blkP]; split <;> simp <;> omega
theorem taAt_mem {L : List Ta} {k : Nat} (h : k < L.length) : taAt L k ∈ L := by
  rw [taAt_of (List.getElem?_eq_getElem h)]; exact List.getElem_mem h
theorem blkFrom_len {L : List Ta} (hv : Right L) (t : Int) : ∀ (f j : Nat), j + f ≤ L.length → (blkFrom L t f j).length ≤ 8 * f
  | 0, _, _ => by simp [blkFrom]
  | f + 1, j, h => by
    have h1 := blkFrom_len hv t f (j + 1) (by omega)
    have h2 := blkP_len L t j (taAt L j).pcs 0
    have h3 := (hv.pcs _ (taAt_mem (L := L) (k := j) (by omega))).2
    rw [blkFrom, List.length_append]
    split
    · omega
    · simp; omega
theorem blockL_len {L : List Ta} (hv : Right L) (t : Int) : (blockL L t).length ≤ 40 := by
  have := blkFrom_len hv t L.length 0 (by omega)
  have := hv.len
  unfold blockL; omega
def OutBE (B : Nat) (w : World) (xs : List P2) (er : Int) (e : Ending) (w' : World) : Prop :=
  ∃ a n c, e = .returned (.tuple #[.slice a n c, .int .i64 er]) ∧ w'.ownsRow B 74 2 (.slice a n c) n (xs.flatMap enc2) ∧ Below B w w'
theorem OutBE.none {B : Nat} {w w' : World} {er : Int} (hb : Below B w w') : OutBE B w [] er (.returned (.tuple #[.slice none 0 0, .int .i64 er])) w' := ⟨_, _, _, rfl, World.ownsRow_nil _ _ _ _, hb⟩
theorem blkFrom_step {L : List Ta} {t : Int} {f j : Nat} : blkFrom L t (f + 1) j = (if aheadB L t j = true then blkP L t j 0 (taAt L j).pcs else []) ++ blkFrom L t f (j + 1) := rfl
theorem Rd.piece {w : World} {a : Option Addr} {n : Nat} {ps : List P2} (h : Rd w a n 2 (ps.map enc2)) (k : Nat) (hk : k < n) : ∃ (p : P2) (b off : Nat), a = some ⟨b, off, none⟩ ∧ b < w.heap.size ∧
    w.cell? ⟨b, off + k * 2, none⟩ = some (.int .i64 p.1) ∧ w.cell? ⟨b, off + k * 2 + 1, none⟩ = some (.int .i64 p.2) ∧ ps[k]? = some p ∧ Hid (ps.drop k = p :: ps.drop (k + 1)) := by
  obtain ⟨hl, b, off, rfl, hb, h1, h2⟩ := h.two k hk
  exact ⟨_, b, off, rfl, hb, h1, h2, List.getElem?_eq_getElem hl, List.drop_eq_getElem_cons hl⟩
set_option maxRecDepth 10000 in
set_option maxHeartbeats 4000000 in
theorem rBlockers_any (a : Option Addr) (n c : Nat) (L : List Ta) (t : Int) (w : World) (hL : RdL w a n L) :
    Calls Try.prog 61 #[.slice a n c, .int .i64 t] w (OutBE w.heap.size w (blksR L t).1 (blksR L t).2) := by
  have hll := hL.length
  have hs := hL.small
  have HR := Lib.hid hL
  unfold blksR isTk
  rw [hll]
  cases hv : rightB L
  · have HV := Lib.hid hv
    rw [Bool.false_and]
    clear hL hv hll
    go_enter Try.func61, Try.ntmps61
    go_wp2_with (go_at_call 58; (with_reducible refine (rTasks_is HR.out HV.out).mono ?_); rintro e w1 ⟨rfl, hb1⟩; have B1 := Lib.hid hb1; clear hb1)
    go_ret2
    exact .none B1.out
  · have HV := Lib.hid hv
    rw [Bool.true_and]
    by_cases h0 : t < 0
    · rw [if_neg (by rw [inB_iff]; omega)]
      clear hL hv hll
      go_enter Try.func61, Try.ntmps61
      go_wp2_with (go_at_call 58; (with_reducible refine (rTasks_is HR.out HV.out).mono ?_); rintro e w1 ⟨rfl, hb1⟩; have B1 := Lib.hid hb1; clear hb1)
      go_ret2
      exact .none B1.out
    · by_cases h1 : (n : Int) ≤ t
      · rw [if_neg (by rw [inB_iff]; omega)]
        have h0' : decide (t < 0) = false := by simpa using h0
        clear hL hv hll
        go_enter Try.func61, Try.ntmps61
        go_wp2_with (go_at_call 58; (with_reducible refine (rTasks_is HR.out HV.out).mono ?_); rintro e w1 ⟨rfl, hb1⟩; have B1 := Lib.hid hb1; clear hb1)
        go_ret2
        exact .none B1.out
      · rw [if_pos (by rw [inB_iff]; omega)]
        obtain ⟨q, rfl⟩ := Int.eq_ofNat_of_zero_le (Int.not_lt.1 h0)
        have hqn : q < n := by omega
        have h1' : decide ((n : Int) ≤ (q : Int)) = false := by simpa using h1
        have h1'' : decide (n ≤ q) = false := by simp; omega
        simp only []
        obtain ⟨R, hR⟩ : ∃ R, blockL L q = R := ⟨_, rfl⟩
        have hRl : R.length ≤ 40 := by rw [← hR]; exact blockL_len (right_of hv) _
        have HA : Hid ([] ++ blkFrom L q (n - 0) 0 = R) := Lib.hid (by rw [← hR, blockL, hll]; rfl)
        have HCI : Hid (∀ l : Int, -1 ≤ ceilG L l ∧ ceilG L l < n) := Lib.hid (fun l => by have := isCeil L l; rw [hll] at this; exact ⟨this.lo, this.hi⟩)
        have HCP : Hid (∀ (k : Nat) (u : Ta) (j : Nat) (p : P2), L[k]? = some u → u.pcs[j]? = some p → 0 ≤ ceilG L p.2) := Lib.hid (fun k u j p hk hj => by
          have hc := isCeil L p.2
          rcases Int.lt_or_le (ceilG L p.2) 0 with h | h
          · exact absurd ⟨p, by rw [taAt_of hk]; exact List.mem_of_getElem? hj, rfl⟩ (hc.none_ h k (List.getElem?_eq_some_iff.1 hk).1)
          · exact h)
        rw [hR]
        clear hL hv hll hR h0 h1
        have e1 := EB
        go_enter Try.func61, Try.ntmps61
        go_wp2_with (go_at_call 58; (with_reducible refine (rTasks_is HR.out HV.out).mono ?_); rintro e w1 ⟨rfl, hb1⟩; have B1 := Lib.hid hb1; clear hb1)
        go_loopw [6, 7] (fun v i wr => ∃ (k : Nat) (T : List P2) (a' : Option Addr) (c' : Nat), k ≤ n ∧ v = .slice a' T.length c' ∧ i = .int .i64 k ∧ wr.ownsRow w.heap.size 74 2 (.slice a' T.length c') T.length (T.flatMap enc2) ∧ T ++ blkFrom L q (n - k) k = R ∧ Below w.heap.size w wr) (fun _ i _ => n - (intOf i).toNat)
        case atStart => exact ⟨0, [], none, 0, Nat.zero_le _, rfl, rfl, World.ownsRow_nil _ _ _ _, HA.out, B1.out⟩
        case round =>
          clear HA
          obtain ⟨k, T, a', c', hk, rfl, rfl, ho, he, hB⟩ := hrel
          have HO := Lib.hid ho; have HE := Lib.hid he; have HB := Lib.hid hB
          clear ho he hB
          by_cases hlt : k < n
          · obtain ⟨u, b, off, pa, pn, pc, rfl, hb, c0, c1, c2, c3, c4, c5, hp, _, hg, HD⟩ := HR.out.at_ k hlt
            have hE := HE.out
            rw [show n - k = (n - (k + 1)) + 1 by omega, blkFrom_step, taAt_of hg] at hE
            have hps := hp.small
            have HPL := Lib.hid hp.length
            have HP := Lib.hid hp
            have HCK : Hid (∀ (j : Nat) (p : P2), u.pcs[j]? = some p → 0 ≤ ceilG L p.2) := Lib.hid (fun j p => HCP.out k u j p hg)
            cases hq : aheadB L q k
            · rw [hq] at hE
              have HE2 : Hid (T ++ blkFrom L q (n - (k + 1)) (k + 1) = R) := Lib.hid (by simpa using hE)
              have HQ := Lib.hid hq
              clear hg HD hp hE HE hq
              go_wp2
              go_loopw [6, 8] (fun v i wr' => v = .slice a' T.length c' ∧ i = .int .i64 0 ∧ wr'.ownsRow w.heap.size 74 2 (.slice a' T.length c') T.length (T.flatMap enc2) ∧ Below w.heap.size w wr') (fun _ i _ => 1 - (intOf i).toNat)
              case atStart => exact ⟨rfl, rfl, HO.out, HB.out⟩
              case round =>
                obtain ⟨rfl, rfl, ho, hB2⟩ := hrel
                have HO2 := Lib.hid ho; have HB2 := Lib.hid hB2
                have d5 := (hB2.cell (p := ⟨b, off + k * 6 + 5, none⟩) hb).trans c5
                clear hB2 ho
                by_cases hpn : 0 < pn
                · have hpn' : (0 : Int) < (pn : Int) := by omega
                  go_wp2_with (go_at_call 59; (with_reducible refine (rahead_is (HR.out.ext HB2.out) ⟨by omega, by omega⟩ ⟨by omega, by omega⟩ HQ.out).mono ?_); rintro e w3 ⟨rfl, hb3⟩; have B3 := Lib.hid hb3; clear hb3)
                  go_roundw
                  case rel => exact ⟨k + 1, T, a', c', by omega, rfl, by go_num, owns_ext HO2.out B3.out, HE2.out, Below.then HB2.out B3.out⟩
                  case measure => simp [intOf]; omega
                · have hpn' : decide ((0 : Int) < (pn : Int)) = false := by simp; omega
                  have hpn'' : decide (0 < pn) = false := by simp; omega
                  go_wp2
                  go_roundw
                  case rel => exact ⟨k + 1, T, a', c', by omega, rfl, by go_num, HO2.out, HE2.out, HB2.out⟩
                  case measure => simp [intOf]; omega
            · rw [hq] at hE
              have HE2 : Hid (T ++ (blkP L q k 0 (u.pcs.drop 0) ++ blkFrom L q (n - (k + 1)) (k + 1)) = R) := Lib.hid (by simpa using hE)
              have HQ := Lib.hid hq
              clear hg HD hp hE HE hq
              go_wp2
              go_loopw [6, 8] (fun v i wr' => ∃ (j : Nat) (T : List P2) (a' : Option Addr) (c' : Nat), j ≤ pn ∧ v = .slice a' T.length c' ∧ i = .int .i64 j ∧ wr'.ownsRow w.heap.size 74 2 (.slice a' T.length c') T.length (T.flatMap enc2) ∧ T ++ (blkP L q k j (u.pcs.drop j) ++ blkFrom L q (n - (k + 1)) (k + 1)) = R ∧ Below w.heap.size w wr') (fun _ i _ => pn - (intOf i).toNat)
              case atStart => exact ⟨0, T, a', c', Nat.zero_le _, rfl, rfl, HO.out, HE2.out, HB.out⟩
              case round =>
                clear HE2 HO
                obtain ⟨j, T, a', c', hj, rfl, rfl, ho, he, hB2⟩ := hrel
                have HO := Lib.hid ho; have HE2 := Lib.hid he; have HB2 := Lib.hid hB2
                have d5 := (hB2.cell (p := ⟨b, off + k * 6 + 5, none⟩) hb).trans c5
                have hTl : T.length ≤ 40 := by have := congrArg List.length he; simp at this; omega
                clear ho he hB2
                by_cases hjt : j < pn
                · obtain ⟨p, b1, off1, rfl, hbb, e2, e3, hpg, HD2⟩ := (HP.out.ext HB2.out).piece j hjt
                  have hc0 := HCK.out j p hpg
                  have hc1 := (HCI.out p.2).2
                  have hE := HE2.out
                  rw [HD2.out, blkP] at hE
                  obtain ⟨y, hy⟩ : ∃ y, p.2 = y := ⟨_, rfl⟩
                  obtain ⟨cl, hcl⟩ : ∃ cl, ceilG L y = cl := ⟨_, rfl⟩
                  rw [hy] at hE e3 hc0 hc1
                  rw [hcl] at hE hc0 hc1
                  clear hpg HD2 hy
                  have HC := Lib.hid hcl
                  clear hcl
                  by_cases p1 : 0 ≤ y
                  · cases hq2 : aheadB L q cl
                    · rw [if_pos ⟨p1, hq2⟩] at hE
                      have HE3 : Hid ((T ++ [((k : Int), (j : Int))]) ++ (blkP L q k (j + 1) (u.pcs.drop (j + 1)) ++ blkFrom L q (n - (k + 1)) (k + 1)) = R) := Lib.hid (by rw [← hE]; simp)
                      have HQ2 := Lib.hid hq2
                      clear hE hq2 HE2
                      go_wp2_with (first
                        | (go_at_call 59; (with_reducible refine (rahead_is (HR.out.ext HB2.out) ⟨by omega, by omega⟩ ⟨by omega, by omega⟩ HQ.out).mono ?_); rintro e w3 ⟨rfl, hb3⟩; have B3 := Lib.hid hb3; have hz3 : w.heap.size ≤ w3.heap.size := (show Below w.heap.size w w3 from (by repeat (first | (with_reducible exact Below.refl _ _) | (refine Below.then ?_ (Hid.out (by with_reducible assumption)))))).size; have x5 := (hb3.cell (p := ⟨b, off + k * 6 + 5, none⟩) (Nat.lt_of_lt_of_le hb HB2.out.size)).trans d5; have x3 := (hb3.cell (p := ⟨b1, off1 + j * 2 + 1, none⟩) hbb).trans e3; clear hb3)
                        | (go_at_call 104; (with_reducible refine (rCeil_is ((HR.out.ext HB2.out).ext B3.out) HC.out).mono ?_); rintro e w4 ⟨rfl, hb4⟩; have B4 := Lib.hid hb4; clear hb4)
                        | (go_at_call 59; (with_reducible refine (rahead_is (((HR.out.ext HB2.out).ext B3.out).ext B4.out) ⟨by omega, by omega⟩ ⟨by omega, by omega⟩ HQ2.out).mono ?_); rintro e w5 ⟨rfl, hb5⟩; have B5 := Lib.hid hb5; have HO5 := Lib.hid (owns_ext HO.out (Below.then B3.out (Below.then B4.out hb5))); clear hb5; have hz5 : w.heap.size ≤ w5.heap.size := (show Below w.heap.size w w5 from (by repeat (first | (with_reducible exact Below.refl _ _) | (refine Below.then ?_ (Hid.out (by with_reducible assumption)))))).size)
                        | (at_builtin; go_loud (refine wpList_push (B := w.heap.size) rfl _ _ _ rfl e1 rfl HO5.out rfl rfl (by intro u hu; simp at hu; rcases hu with rfl | rfl <;> rfl) (by omega) (by decide) hz5 ?_); intro a6 c6 w6 hown6 hb6; have HO6 := Lib.hid (ownsP_snoc hown6); have HB6 := Lib.hid hb6; clear hown6 hb6))
                      go_roundw
                      case rel => exact ⟨j + 1, T ++ [((k : Int), (j : Int))], a6, c6, by omega, by first | rfl | simp, by go_num, by first | exact HO6.out | (rw [List.length_append]; exact HO6.out), HE3.out, ((HB2.out.trans ((B3.out.mono HB2.out.size))).trans (Below.mono (Below.then B4.out B5.out) hz3)).trans HB6.out⟩
                      case measure => simp [intOf]; omega
                    · rw [if_neg (by rw [hq2]; simp)] at hE
                      have HE3 := Lib.hid hE
                      have HQ2 := Lib.hid hq2
                      clear hE hq2 HE2
                      go_wp2_with (first
                        | (go_at_call 59; (with_reducible refine (rahead_is (HR.out.ext HB2.out) ⟨by omega, by omega⟩ ⟨by omega, by omega⟩ HQ.out).mono ?_); rintro e w3 ⟨rfl, hb3⟩; have B3 := Lib.hid hb3; have hz3 : w.heap.size ≤ w3.heap.size := (show Below w.heap.size w w3 from (by repeat (first | (with_reducible exact Below.refl _ _) | (refine Below.then ?_ (Hid.out (by with_reducible assumption)))))).size; have x5 := (hb3.cell (p := ⟨b, off + k * 6 + 5, none⟩) (Nat.lt_of_lt_of_le hb HB2.out.size)).trans d5; have x3 := (hb3.cell (p := ⟨b1, off1 + j * 2 + 1, none⟩) hbb).trans e3; clear hb3)
                        | (go_at_call 104; (with_reducible refine (rCeil_is ((HR.out.ext HB2.out).ext B3.out) HC.out).mono ?_); rintro e w4 ⟨rfl, hb4⟩; have B4 := Lib.hid hb4; clear hb4)
                        | (go_at_call 59; (with_reducible refine (rahead_is (((HR.out.ext HB2.out).ext B3.out).ext B4.out) ⟨by omega, by omega⟩ ⟨by omega, by omega⟩ HQ2.out).mono ?_); rintro e w5 ⟨rfl, hb5⟩; have B5 := Lib.hid hb5; clear hb5))
                      go_roundw
                      case rel => exact ⟨j + 1, T, a', c', by omega, rfl, by go_num, owns_ext HO.out (Below.then B3.out (Below.then B4.out B5.out)), HE3.out, (by repeat (first | (with_reducible exact Below.refl _ _) | (refine Below.then ?_ (Hid.out (by with_reducible assumption)))))⟩
                      case measure => simp [intOf]; omega
                  · have p1' : decide (0 ≤ y) = false := by simpa using p1
                    rw [if_neg (fun q => p1 q.1)] at hE
                    have HE3 := Lib.hid hE
                    clear hE HE2
                    go_wp2_with (go_at_call 59; (with_reducible refine (rahead_is (HR.out.ext HB2.out) ⟨by omega, by omega⟩ ⟨by omega, by omega⟩ HQ.out).mono ?_); rintro e w3 ⟨rfl, hb3⟩; have B3 := Lib.hid hb3; have hz3 : w.heap.size ≤ w3.heap.size := (show Below w.heap.size w w3 from (by repeat (first | (with_reducible exact Below.refl _ _) | (refine Below.then ?_ (Hid.out (by with_reducible assumption)))))).size; have x5 := (hb3.cell (p := ⟨b, off + k * 6 + 5, none⟩) (Nat.lt_of_lt_of_le hb HB2.out.size)).trans d5; have x3 := (hb3.cell (p := ⟨b1, off1 + j * 2 + 1, none⟩) hbb).trans e3; clear hb3)
                    go_roundw
                    case rel => exact ⟨j + 1, T, a', c', by omega, rfl, by go_num, owns_ext HO.out B3.out, HE3.out, (by repeat (first | (with_reducible exact Below.refl _ _) | (refine Below.then ?_ (Hid.out (by with_reducible assumption)))))⟩
                    case measure => simp [intOf]; omega
                · have hE := HE2.out
                  rw [drop_end HPL.out (by omega), blkP, List.nil_append] at hE
                  have HE3 := Lib.hid hE
                  clear hE
                  go_wp2
                  go_roundw
                  case rel => exact ⟨k + 1, T, a', c', by omega, rfl, by go_num, HO.out, HE3.out, HB2.out⟩
                  case measure => simp [intOf]; omega
          · have hE := HE.out
            rw [show n - k = 0 by omega, blkFrom, List.append_nil] at hE
            subst hE
            go_wp2
            go_ret2
            exact ⟨_, _, _, rfl, HO.out, HB.out⟩
end Go.Proofs.Ytabbmnnohnfbeaa
