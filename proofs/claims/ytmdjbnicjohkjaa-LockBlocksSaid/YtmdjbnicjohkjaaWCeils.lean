/- The walk of LockCeilings: it returns true. The conditions: the tasks read as named; their lists are no longer than memory bears. -/
import Derived.Test.YtmdjbnicjohkjaaTkCopy
import Derived.Laws.StructEq
namespace Go.Proofs.Ytmdjbnicjohkjaa
open Go.RowKit
set_option linter.unusedSimpArgs false
set_option linter.unusedVariables false
theorem eqPc (a b x y : Int) (w : World) : (Op.equalIn 10000 64 (.agg #[.int .i64 a, .int .i64 b]) (.agg #[.int .i64 x, .int .i64 y])).run Try.prog w = .ok (a == x && b == y) w := by
  have hS : Try.prog.underlying 64 = some (.struct (Try.prog.fieldsOf 64)) := by kernel_rfl
  have hp : Try.prog.stoodInHeld 64 = false := by kernel_rfl
  have u3 := Try.underlying3
  have a3 := Try.isAgg3
  have z3 := Try.sizeOf3
  rw [show (10000 : Nat) = 9999 + 1 from rfl, run_equalIn_agg w 9999 64 _ _ hS hp]
  simp only [Program.fieldsOf, Try.underlying64]
  go_simp
  by_cases e1 : a = x <;> by_cases e2 : b = y <;> simp [e1, e2]
theorem Ranks_is {a : Option Addr} {n c : Nat} {L : List Ta} {xs : List Int} {e : Int} {w : World} (hL : RdL w a n L) (h : ranksR L = (xs, e)) : Calls Try.prog 40 #[.slice a n c] w (OutTE w.heap.size w xs e) := by
  have := Ranks_any a n c L w hL
  rw [h] at this; exact this
theorem rRanks_is {a : Option Addr} {n c : Nat} {L : List Ta} {xs : List Int} {e : Int} {w : World} (hL : RdL w a n L) (h : ranksR L = (xs, e)) : Calls Try.prog 41 #[.slice a n c] w (OutTE w.heap.size w xs e) := by
  have := rRanks_any a n c L w hL
  rw [h] at this; exact this
theorem Ceils_is {a : Option Addr} {n c : Nat} {L : List Ta} {xs : List Int} {e : Int} {w : World} (hL : RdL w a n L) (h : ceilsR L = (xs, e)) : Calls Try.prog 42 #[.slice a n c] w (OutRE w xs e) := by
  have := Ceils_any a n c L w hL
  rw [h] at this; exact this
theorem rCeils_is {a : Option Addr} {n c : Nat} {L : List Ta} {xs : List Int} {e : Int} {w : World} (hL : RdL w a n L) (h : ceilsR L = (xs, e)) : Calls Try.prog 43 #[.slice a n c] w (OutTE w.heap.size w xs e) := by
  have := rCeils_any a n c L w hL
  rw [h] at this; exact this
theorem ceilsL_get {L : List Ta} {m : Nat} (h : m < 6) : (ceilsL L)[m]? = some (ceilG L m) := by
  unfold ceilsL; rw [List.getElem?_map, List.getElem?_range h]; rfl
set_option maxRecDepth 100000 in
set_option maxHeartbeats 8000000 in
theorem lockCeilings_walk {w : World} (a : Option Addr) (n c : Nat) (L : List Ta) (hL : RdL w a n L) (hT : ∀ t ∈ L, t.pcs.length ≤ 281474976710656) (hN : NilOk a n c) :
    Calls Try.prog 10 #[.slice a n c] w fun e w' => e = .returned (.bool true) ∧ Below w.heap.size w w' := by
  have HM := Lib.hid (many_any a n c L w hL hT)
  have HR := Lib.hid hL
  cases hm : manyL n L
  · rw [hm] at HM
    obtain ⟨hn, hP⟩ := manyL_no hm
    have HP : Hid (∀ t ∈ L, t.pcs.length ≤ 1000) := Lib.hid (fun t ht => by have := hP t ht; omega)
    have HN := Lib.hid hN
    obtain ⟨RA, re, hra⟩ : ∃ x e, ranksR L = (x, e) := ⟨_, _, rfl⟩
    obtain ⟨CA, ce, hca⟩ : ∃ x e, ceilsR L = (x, e) := ⟨_, _, rfl⟩
    have HRA := Lib.hid hra
    have HCA := Lib.hid hca
    have HCE : Hid (ce = 0 → CA = ceilsL L ∧ Right L) := Lib.hid (fun h => by
      unfold ceilsR at hca
      split at hca
      · rename_i hr
        simp at hca
        exact ⟨hca.1.symm, right_of hr⟩
      · simp at hca; omega)
    clear hL hT hm hra hca hP hN
    have hEq := eqPc
    have hGd := fun (op : BinOp) (x y : Operand) (xs ys : Array Value) (w : World) => run_eqGuard_agg (P := Try.prog) w op 64 x y xs ys (by kernel_rfl)
    go_enter Try.func10, Try.ntmps10
    go_wp2_with (first
      | (go_at_call 34; refine (HM.out).mono ?_; rintro e w1 ⟨rfl, rfl⟩)
      | (go_at_call 39; (with_reducible refine (copied_T _ _ _ L (by omega) HP.out _ HR.out HN.out).mono ?_); rintro e w1 ⟨a1, c1, rfl, ho1, hb1⟩; have HK := Lib.hid ho1; have B1 := Lib.hid hb1; clear ho1 hb1)
      | (go_at_call 40; (with_reducible refine (Ranks_is HK.out HRA.out).mono ?_); rintro e w2 ⟨a2, n2, c2, rfl, ho2, hb2⟩; have R2 := Lib.hid (ownsI_rd ho2); have B2 := Lib.hid hb2; clear ho2 hb2)
      | (go_at_call 41; (with_reducible refine (rRanks_is (HR.out.ext (by repeat (first | (with_reducible exact Below.refl _ _) | (refine Below.then ?_ (Hid.out (by with_reducible assumption)))))) HRA.out).mono ?_); rintro e w3 ⟨a3, n3, c3, rfl, ho3, hb3⟩; have R3 := Lib.hid (ownsI_rd ho3); have B3 := Lib.hid hb3; clear ho3 hb3)
      | (go_at_call 42; (with_reducible refine (Ceils_is (HK.out.ext (by repeat (first | (with_reducible exact Below.refl _ _) | (refine Below.then ?_ (Hid.out (by with_reducible assumption)))))) HCA.out).mono ?_); rintro e w4 ⟨a4, n4, c4, rfl, ho4, hb4⟩; have R4 := Lib.hid ho4; have B4 := Lib.hid hb4; clear ho4 hb4)
      | (go_at_call 43; (with_reducible refine (rCeils_is (HR.out.ext (by repeat (first | (with_reducible exact Below.refl _ _) | (refine Below.then ?_ (Hid.out (by with_reducible assumption)))))) HCA.out).mono ?_); rintro e w5 ⟨a5, n5, c5, rfl, ho5, hb5⟩; have R5 := Lib.hid (ownsI_rd ho5); have B5 := Lib.hid hb5; clear ho5 hb5)
      | (go_at_call 24; first
          | ((with_reducible refine (ints_eq _ _ _ _ _ _ RA _ (R2.out.ext (by repeat (first | (with_reducible exact Below.refl _ _) | (refine Below.then ?_ (Hid.out (by with_reducible assumption)))))) (R3.out.ext (by repeat (first | (with_reducible exact Below.refl _ _) | (refine Below.then ?_ (Hid.out (by with_reducible assumption))))))).mono ?_); rintro e w6 ⟨rfl, hb6⟩; have B6 := Lib.hid hb6; clear hb6)
          | ((with_reducible refine (ints_eq _ _ _ _ _ _ CA _ (R4.out.ext (by repeat (first | (with_reducible exact Below.refl _ _) | (refine Below.then ?_ (Hid.out (by with_reducible assumption)))))) (R5.out.ext (by repeat (first | (with_reducible exact Below.refl _ _) | (refine Below.then ?_ (Hid.out (by with_reducible assumption))))))).mono ?_); rintro e w7 ⟨rfl, hb7⟩; have B7 := Lib.hid hb7; clear hb7)))
    go_loopw [12] (fun v wr => ∃ k : Nat, k ≤ n ∧ v = .int .i64 k ∧ Below w7.heap.size w7 wr) (fun v _ => n - (intOf v).toNat)
    case atStart => exact ⟨0, Nat.zero_le _, rfl, Below.refl _ _⟩
    case round =>
      obtain ⟨k, hk, rfl, hB⟩ := hrel
      have HB := Lib.hid hB
      clear hB
      by_cases hlt : k < n
      · obtain ⟨u, b, off, pa, pn, pc, rfl, hb, _, _, _, _, _, c5, hp, _, hg, _⟩ := (HR.out.ext (show Below w.heap.size w wr from (by repeat (first | (with_reducible exact Below.refl _ _) | (refine Below.then ?_ (Hid.out (by with_reducible assumption))))))).at_ k hlt
        obtain ⟨u', b', off', pa', pn', pc', rfl, hb', _, _, _, _, _, c5', hp', _, hg', _⟩ := (HK.out.ext (show Below w1.heap.size w1 wr from (by repeat (first | (with_reducible exact Below.refl _ _) | (refine Below.then ?_ (Hid.out (by with_reducible assumption))))))).at_ k hlt
        obtain rfl : u = u' := by rw [hg] at hg'; simpa using hg'
        obtain rfl : pn = pn' := by rw [← hp.length, ← hp'.length]
        have hps := hp.small
        have HQ := Lib.hid hp
        have HQ' := Lib.hid hp'
        have HPC : Hid (∀ (j : Nat) (z : P2), u.pcs[j]? = some z → ce = 0 → 0 ≤ z.2 → ∃ m : Nat, z.2 = m ∧ m < 6 ∧ CA[m]? = some (ceilG L m) ∧ 0 ≤ ceilG L m ∧ ceilG L m < n ∧ aheadB L k (ceilG L m) = false) := Lib.hid (fun j z hz h0 h1 => by
          obtain ⟨e1, e2⟩ := HCE.out h0
          obtain ⟨m, hm⟩ := Int.eq_ofNat_of_zero_le h1
          have h3 := (e2.piece u (List.mem_of_getElem? hg) z (List.mem_of_getElem? hz)).2
          have h4 := ceil_used hg hz
          rw [hm, HR.out.length] at h4
          refine ⟨m, hm, by omega, by rw [e1]; exact ceilsL_get (by omega), h4.1, h4.2.1, aheadB_no.2 h4.2.2⟩)
        have C5 : Hid (∀ w1 : World, Below wr.heap.size wr w1 → w1.cell? ⟨b, off + k * 6 + 5, none⟩ = some (.slice pa pn pc)) := Lib.hid (fun w1 h => (h.cell (p := ⟨b, off + k * 6 + 5, none⟩) hb).trans c5)
        have C6 : Hid (∀ w1 : World, Below wr.heap.size wr w1 → w1.cell? ⟨b', off' + k * 6 + 5, none⟩ = some (.slice pa' pn pc')) := Lib.hid (fun w1 h => (h.cell (p := ⟨b', off' + k * 6 + 5, none⟩) hb').trans c5')
        clear hg hg' hp hp'
        go_wp2_with (refine wp_region_later_lit (by kernel_rfl) (by kernel_rfl) ?_; (repeat (go_big_quiet_step (fail))); refine wpQuiet_nil ?_; intro w8 hb8)
        go_loopw [13] (fun v wr' => ∃ m : Nat, m ≤ pn ∧ v = .int .i64 m ∧ Below wr.heap.size wr wr') (fun v _ => pn - (intOf v).toNat)
        case atStart => exact ⟨0, Nat.zero_le _, rfl, hb8⟩
        case round =>
          clear hb8
          obtain ⟨j, hj, rfl, hB2⟩ := hrel
          have HB2 := Lib.hid hB2
          have d5 := C5.out _ hB2
          have d6 := C6.out _ hB2
          have hbq : b < wr.heap.size := Nat.lt_of_lt_of_le hb hB2.size
          have hbq' : b' < wr.heap.size := Nat.lt_of_lt_of_le hb' hB2.size
          clear hB2
          by_cases hjt : j < pn
          · obtain ⟨z1, z2, b1, off1, rfl, hb1, e1, e2, hz, _⟩ := (HQ.out.ext HB2.out).pc_at j hjt
            obtain ⟨y1, y2, b2, off2, rfl, hb2, f1, f2, hz', _⟩ := (HQ'.out.ext HB2.out).pc_at j hjt
            rw [hz] at hz'
            simp only [Option.some.injEq, Prod.mk.injEq] at hz'
            obtain ⟨rfl, rfl⟩ := hz'
            have hpc := HPC.out j (z1, z2) hz
            simp only [] at hpc
            clear hz
            by_cases h0 : ce = 0
            · subst h0
              by_cases h1 : 0 ≤ z2
              · obtain ⟨m, rfl, hm6, hcm, hx0, hx1, hxa⟩ := hpc rfl h1
                have hn4 : m < n4 := by have := R4.out.length; have := (List.getElem?_eq_some_iff.1 hcm).1; omega
                obtain ⟨x, bl, ol, rfl, hbl, hcx, hx⟩ := (R4.out.ext (show Below w4.heap.size w4 wr from (by repeat (first | (with_reducible exact Below.refl _ _) | (refine Below.then ?_ (Hid.out (by with_reducible assumption))))))).idx m hn4
                rw [hcm] at hx
                obtain rfl : ceilG L m = x := by simpa using hx
                have hs4 := R4.out.small
                obtain ⟨x, hxx⟩ : ∃ x, ceilG L m = x := ⟨_, rfl⟩
                rw [hxx] at hx0 hx1 hxa hcx
                have hx0' : decide (x < 0) = false := decide_eq_false (by omega)
                have HXA := Lib.hid hxa
                clear hpc hcm hx hxa hxx
                go_wp2_with (first
                  | ((refine wp_region_later_lit (by kernel_rfl) (by kernel_rfl) ?_; (repeat (go_big_quiet_step (fail))); refine wpQuiet_nil ?_; intro w10 hb10); have g5 := (hb10.cell (p := ⟨b, off + k * 6 + 5, none⟩) hbq).trans d5; have g2 := (hb10.cell (p := ⟨b1, off1 + j * 2 + 1, none⟩) hb1).trans e2; have hbl' := Nat.lt_of_lt_of_le hbl hb10.size; have hcx' := (hb10.cell (p := ⟨bl, ol + m, none⟩) hbl).trans hcx; have B10 := Lib.hid hb10)
                  | (go_at_call 37; (with_reducible refine (rahead_is (HR.out.ext (by repeat (first | (with_reducible exact Below.refl _ _) | (refine Below.then ?_ (Hid.out (by with_reducible assumption)))))) ⟨by omega, by omega⟩ ⟨hx0, hx1⟩ HXA.out).mono ?_); rintro e w11 ⟨rfl, hb11⟩; have B11 := Lib.hid hb11; clear hb11))
                go_roundw
                case rel => exact ⟨j + 1, by omega, by go_num, (by repeat (first | (with_reducible exact Below.refl _ _) | (refine Below.then ?_ (Hid.out (by with_reducible assumption)))))⟩
                case measure => simp [intOf]; omega
              · have h1' : decide (0 ≤ z2) = false := by simpa using h1
                clear hpc
                go_wp2_with ((refine wp_region_later_lit (by kernel_rfl) (by kernel_rfl) ?_; (repeat (go_big_quiet_step (fail))); refine wpQuiet_nil ?_; intro w10 hb10); have g5 := (hb10.cell (p := ⟨b, off + k * 6 + 5, none⟩) hbq).trans d5; have g2 := (hb10.cell (p := ⟨b1, off1 + j * 2 + 1, none⟩) hb1).trans e2)
                go_roundw
                case rel => exact ⟨j + 1, by omega, by go_num, Below.then HB2.out hb10⟩
                case measure => simp [intOf]; omega
            · have h0' : (ce == 0) = false := by simpa using h0
              clear hpc
              go_wp2_with ((refine wp_region_later_lit (by kernel_rfl) (by kernel_rfl) ?_; (repeat (go_big_quiet_step (fail))); refine wpQuiet_nil ?_; intro w10 hb10); have g5 := (hb10.cell (p := ⟨b, off + k * 6 + 5, none⟩) hbq).trans d5; have g2 := (hb10.cell (p := ⟨b1, off1 + j * 2 + 1, none⟩) hb1).trans e2)
              go_roundw
              case rel => exact ⟨j + 1, by omega, by go_num, Below.then HB2.out hb10⟩
              case measure => simp [intOf]; omega
          · go_wp2
            go_roundw
            case rel => exact ⟨k + 1, by omega, by go_num, Below.then HB.out HB2.out⟩
            case measure => simp [intOf]; omega
      · go_wp2_with (go_at_call 14; (with_reducible refine (sane_any _).mono ?_); rintro e w9 ⟨rfl, hb9⟩; have B9 := Lib.hid hb9; clear hb9)
        go_ret
        exact ⟨rfl, (by repeat (first | (with_reducible exact Below.refl _ _) | (refine Below.then ?_ (Hid.out (by with_reducible assumption)))))⟩
  · rw [hm] at HM
    clear hL hT hm
    go_enter Try.func10, Try.ntmps10
    go_wp2_with (first
      | (go_at_call 34; refine (HM.out).mono ?_; rintro e w1 ⟨rfl, rfl⟩)
      | (go_at_call 14; (with_reducible refine (sane_any _).mono ?_); rintro e w9 ⟨rfl, hb9⟩; have B9 := Lib.hid hb9; clear hb9))
    go_ret
    exact ⟨rfl, (by repeat (first | (with_reducible exact Below.refl _ _) | (refine Below.then ?_ (Hid.out (by with_reducible assumption)))))⟩
end Go.Proofs.Ytmdjbnicjohkjaa
