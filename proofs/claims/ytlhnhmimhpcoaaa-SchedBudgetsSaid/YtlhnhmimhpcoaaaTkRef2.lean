/- The contracts of Ranks, Ceilings of the reference. The conditions: the tasks read as named. -/
import Derived.Test.YtlhnhmimhpcoaaaTkRef
import Derived.Test.YtlhnhmimhpcoaaaTkRank
namespace Go.Proofs.Ytlhnhmimhpcoaaa
open Go.RowKit
set_option linter.unusedSimpArgs false
set_option linter.unusedVariables false
/-- a list made by the call, and an error number -/
def OutTE (B : Nat) (w : World) (xs : List Int) (er : Int) (e : Ending) (w' : World) : Prop :=
  ∃ a n c, e = .returned (.tuple #[.slice a n c, .int .i64 er]) ∧ w'.ownsRow B 3 1 (.slice a n c) n (xs.flatMap enc1) ∧ Below B w w'
theorem OutTE.none {B : Nat} {w w' : World} {er : Int} (hb : Below B w w') : OutTE B w [] er (.returned (.tuple #[.slice none 0 0, .int .i64 er])) w' := ⟨_, _, _, rfl, World.ownsRow_nil _ _ _ _, hb⟩
/-- what Ranks gives, what Ceilings gives -/
def ranksR (L : List Ta) : List Int × Int := if rightB L then (rankL L, 0) else ([], 1)
def ceilsL (L : List Ta) : List Int := (List.range 6).map (fun (k : Nat) => ceilG L (k : Int))
def ceilsR (L : List Ta) : List Int × Int := if rightB L then (ceilsL L, 0) else ([], 1)
theorem rankSet_step {L : List Ta} {f i : Nat} {out R : List Int} (h : rankSet L (f + 1) i out = R) : rankSet L f (i + 1) (out.set (cnt L i) i) = R := h
theorem idxs_drop {n j : Nat} (h : j < n) : (idxs n).drop j = (j : Int) :: (idxs n).drop (j + 1) := by
  have hl : j < (idxs n).length := by rw [idxs_len]; exact h
  rw [List.drop_eq_getElem_cons hl]
  congr 1
  have := idxs_get h
  rw [List.getElem?_eq_getElem hl] at this
  exact Option.some.inj this
set_option maxRecDepth 10000 in
set_option maxHeartbeats 2000000 in
theorem rRanks_any (a : Option Addr) (n c : Nat) (L : List Ta) (w : World) (hL : RdL w a n L) :
    Calls Try.prog 24 #[.slice a n c] w (OutTE w.heap.size w (ranksR L).1 (ranksR L).2) := by
  have hll := hL.length
  have hs := hL.small
  have HR := Lib.hid hL
  have HLL := Lib.hid hll
  unfold ranksR
  cases hv : rightB L
  · have HV := Lib.hid hv
    clear hL hll hv
    go_enter Try.func24, Try.ntmps24
    go_wp2_with (go_at_call 67; (with_reducible refine (rTasks_is HR.out HV.out).mono ?_); rintro e w1 ⟨rfl, hb1⟩)
    go_ret2
    exact .none hb1
  · have HV := Lib.hid hv
    have h5 := (right_of hv).len
    rw [hll] at h5
    have HA : Hid (rankSet L (n - 0) 0 (List.replicate n 0) = rankL L) := Lib.hid (by rw [← hll]; exact rankSet_eq L)
    rw [if_pos rfl]
    obtain ⟨R, hR⟩ : ∃ R, rankL L = R := ⟨_, rfl⟩
    simp only []
    rw [hR] at HA ⊢
    clear hL hll hv hR
    go_enter Try.func24, Try.ntmps24
    go_wp2_with (first
      | (go_at_call 67; (with_reducible refine (rTasks_is HR.out HV.out).mono ?_); rintro e w1 ⟨rfl, hb1⟩; have B1 := Lib.hid hb1; clear hb1)
      | (at_make; refine wpList_mkI rfl _ _ rfl n rfl rfl rfl rfl (by omega) (Nat.le_refl _) ?_; intro w2 hown2 hb2 hlt2; have HO2 := Lib.hid hown2; have B2 := Lib.hid hb2; clear hown2 hb2))
    go_loopw [5] (fun i wr => ∃ (k : Nat) (T : List Int), k ≤ n ∧ i = .int .i64 k ∧ T.length = n ∧ wr.ownsRow w1.heap.size 3 1 (.slice (some ⟨w1.heap.size, 0, none⟩) n n) n (T.flatMap enc1) ∧ rankSet L (n - k) k T = R ∧ Below w.heap.size w wr ∧ w1.heap.size < wr.heap.size) (fun i _ => n - (intOf i).toNat)
    case atStart => exact ⟨0, _, Nat.zero_le _, rfl, by simp, HO2.out, HA.out, (by repeat (first | (with_reducible exact Below.refl _ _) | (refine Below.then ?_ (Hid.out (by with_reducible assumption))))), hlt2⟩
    case round =>
      clear HA HO2
      obtain ⟨k, T, hk, rfl, hT, ho, he, hB, hz⟩ := hrel
      have HO := Lib.hid ho; have HE := Lib.hid he; have HB := Lib.hid hB; have HT := Lib.hid hT
      clear ho he hB hT
      by_cases hlt : k < n
      · have HC0 : Hid ((((idxs n).drop 0).filter (fun q => aheadB L q k)).length + 0 = cnt L k) := Lib.hid (by rw [cnt, HLL.out]; rfl)
        have HCL : Hid (cnt L k < n) := Lib.hid (by have := cnt_lt (L := L) (x := k) (by omega) (by rw [HLL.out]; omega); rw [HLL.out] at this; exact this)
        go_wp2
        go_loopw [6, 7] (fun v i wr' => ∃ (j m : Nat), j ≤ n ∧ v = .int .i64 m ∧ i = .int .i64 j ∧ (((idxs n).drop j).filter (fun q => aheadB L q k)).length + m = cnt L k ∧ Below wr.heap.size wr wr') (fun _ i _ => n - (intOf i).toNat)
        case atStart => exact ⟨0, 0, Nat.zero_le _, rfl, rfl, HC0.out, Below.refl _ _⟩
        case round =>
          clear HC0
          obtain ⟨j, m, hj, rfl, rfl, hc, hB2⟩ := hrel
          have HC := Lib.hid hc; have HB2 := Lib.hid hB2
          have hm : m < 9223372036854775807 := by have := HCL.out; omega
          clear hc hB2
          by_cases hjt : j < n
          · have hc := HC.out
            rw [idxs_drop hjt] at hc
            cases hq : aheadB L j k
            · rw [List.filter_cons_of_neg (by simp [hq])] at hc
              have HC2 := Lib.hid hc; have HQ := Lib.hid hq
              clear hc hq HC
              go_wp2_with (go_at_call 68; (with_reducible refine (rahead_is ((HR.out.ext HB.out).ext HB2.out) ⟨by omega, by omega⟩ ⟨by omega, by omega⟩ HQ.out).mono ?_); rintro e w3 ⟨rfl, hb3⟩)
              go_roundw
              case rel => exact ⟨j + 1, m, by omega, rfl, by go_num, HC2.out, Below.then HB2.out hb3⟩
              case measure => simp [intOf]; omega
            · rw [List.filter_cons_of_pos (by simp [hq])] at hc
              have HC2 : Hid ((((idxs n).drop (j + 1)).filter (fun q => aheadB L q k)).length + (m + 1) = cnt L k) := Lib.hid (by rw [← hc, List.length_cons]; omega)
              have HQ := Lib.hid hq
              clear hc hq HC
              go_wp2_with (go_at_call 68; (with_reducible refine (rahead_is ((HR.out.ext HB.out).ext HB2.out) ⟨by omega, by omega⟩ ⟨by omega, by omega⟩ HQ.out).mono ?_); rintro e w3 ⟨rfl, hb3⟩)
              go_roundw
              case rel => exact ⟨j + 1, m + 1, by omega, by go_num, by go_num, HC2.out, Below.then HB2.out hb3⟩
              case measure => simp [intOf]; omega
          · have hm2 : m = cnt L k := by have := HC.out; rw [List.drop_of_length_le (by rw [idxs_len]; omega)] at this; simpa using this
            have hmn : m < n := by rw [hm2]; exact HCL.out
            have HO1 := Lib.hid (owns_ext HO.out HB2.out)
            obtain ⟨x, hx, hcx, hfx, hqx⟩ := ownsI_at HO1.out m hmn
            have HO3 := Lib.hid (ownsI_set HO1.out m k)
            have hE := rankSet_step (f := n - (k + 1)) (i := k) (out := T) (R := R) (L := L) (by rw [show n - (k + 1) + 1 = n - k by omega]; exact HE.out)
            rw [← hm2] at hE
            have HE3 := Lib.hid hE
            clear hx hE hm2
            go_wp2_with (first | go_region)
            go_roundw
            case rel => exact ⟨k + 1, T.set m k, by omega, by go_num, by rw [List.length_set]; exact HT.out, HO3.out, HE3.out, Below.setCell (Below.then HB.out HB2.out) B1.out.size _, by have := HB2.out.size; simp; omega⟩
            case measure => simp [intOf]; omega
      · have hE := HE.out
        rw [show n - k = 0 by omega, rankSet] at hE
        subst hE
        go_wp2
        go_ret2
        exact ⟨_, _, _, rfl, owns_mono HO.out B1.out.size, HB.out⟩
end Go.Proofs.Ytlhnhmimhpcoaaa
