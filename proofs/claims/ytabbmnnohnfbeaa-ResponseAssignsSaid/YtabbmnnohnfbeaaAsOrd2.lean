/- ordered of both sides. The conditions: the tasks and the order read as named and are few. -/
import Derived.Test.YtabbmnnohnfbeaaAsOrd
namespace Go.Proofs.Ytabbmnnohnfbeaa
open Go.RowKit
set_option linter.unusedSimpArgs false
set_option linter.unusedVariables false
set_option maxRecDepth 100000 in
set_option maxHeartbeats 4000000 in
theorem ordered_M (a : Option Addr) (n c : Nat) (L : List Ta) (b : Option Addr) (m d : Nat) (o : List Int) (hn : n ≤ 5) (hP : ∀ t ∈ L, t.pcs.length ≤ 1000) (w : World) (hL : RdL w a n L) (hN : NilOk a n c) (hO : Rd w b m 1 (o.map enc1)) (hm : m ≤ 5) (ho : ∀ k ∈ o, 0 ≤ k ∧ k < n) :
    Calls Try.prog 98 #[.slice a n c, .slice b m d] w (OutM w n (ordL L o)) := by
  have HR := Lib.hid hL; have HP := Lib.hid hP; have HNN := Lib.hid hN; have HO := Lib.hid hO; have HRG := Lib.hid ho
  have HOL := Lib.hid hO.length
  have HLL := Lib.hid hL.length
  obtain ⟨R, hR⟩ : ∃ R, ordL L o = R := ⟨_, rfl⟩
  have HA : Hid (ordFrom m 0 (o.drop 0) L = R) := Lib.hid (by rw [← hR, ordL, hO.length]; rfl)
  rw [hR]
  clear hL hP hN hO ho hR
  go_enter Try.func98, Try.ntmps98
  go_wp2_with (go_at_call 129; (with_reducible refine (pcopied_M _ _ _ L (by omega) HP.out _ HR.out HNN.out).mono ?_); rintro e w1 ⟨a1, c1, g1, rfl, hm1, hg1, hb1⟩; have HM1 := Lib.hid hm1; have HG1 := Lib.hid hg1; have B1 := Lib.hid hb1; clear hm1 hb1 hg1)
  go_loopw [12] (fun i wr => ∃ (r : Nat) (g : List TaV), r ≤ m ∧ i = .int .i64 r ∧ MutT w.heap.size wr a1 n c1 g ∧ ordFrom m r (o.drop r) (g.map TaV.ta) = R ∧ Below w.heap.size w wr) (fun i _ => m - (intOf i).toNat)
  case atStart => exact ⟨0, g1, Nat.zero_le _, rfl, HM1.out, by rw [HG1.out]; exact HA.out, B1.out⟩
  case round =>
    obtain ⟨r, g, hr, rfl, hmm, he, hB⟩ := hrel
    have HM := Lib.hid hmm; have HE := Lib.hid he; have HB := Lib.hid hB
    have hgl := hmm.rd.length
    clear hmm he hB HM1 HG1 B1 HA
    by_cases hlt : r < m
    · obtain ⟨x, b1, o1, rfl, hb1, hc1, hx1⟩ := (HO.out.ext HB.out).idx r hlt
      obtain ⟨hx0, hxn⟩ := HRG.out x (List.mem_of_getElem? hx1)
      obtain ⟨k, rfl⟩ := Int.eq_ofNat_of_zero_le hx0
      have hkn : k < n := by omega
      obtain ⟨q, rfl, hq1, hq2⟩ := HM.out.addr (by omega)
      obtain ⟨t, ht⟩ : ∃ t, g[k]? = some t := ⟨_, List.getElem?_eq_getElem (by omega)⟩
      obtain ⟨c0, f0⟩ := HM.out.at_ ht 0 (by omega)
      obtain ⟨pri, dl, fi, ga, ji, ta, tn, tc, ps⟩ := t
      simp [encTa] at c0
      simp only [Nat.add_zero] at f0
      have hE := HE.out
      have hod : o.drop r = (k : Int) :: o.drop (r + 1) := by obtain ⟨h1, h2⟩ := List.getElem?_eq_some_iff.1 hx1; rw [List.drop_eq_getElem_cons h1, h2]
      rw [hod, ordFrom] at hE
      have hset : (g.set k ⟨(m : Int) - 1 - r, dl, fi, ga, ji, ta, tn, tc, ps⟩).map TaV.ta = setPri (g.map TaV.ta) k ((m : Int) - 1 - r) := by
        rw [set_map, setPri, taAt_of (by rw [List.getElem?_map, ht]; rfl), Int.toNat_natCast]; rfl
      rw [← hset] at hE
      have HE2 := Lib.hid hE
      have M : MutT w.heap.size (wr.setCell ⟨q, k * 6, none⟩ (.int .i64 ((m : Int) - 1 - r))) (some ⟨q, 0, none⟩) n c1 (g.set k ⟨(m : Int) - 1 - r, dl, fi, ga, ji, ta, tn, tc, ps⟩) := HM.out.set ht 0 (by omega) (.int .i64 ((m : Int) - 1 - r)) rfl rfl rfl rfl rfl
      have HM2 := Lib.hid M
      have hwr1 : IntKind.i64.wrap ((m : Int) - 1) = (m : Int) - 1 := IntWalk.i64_in _ (by omega)
      have hwr2 : IntKind.i64.wrap ((m : Int) - 1 - r) = (m : Int) - 1 - r := IntWalk.i64_in _ (by omega)
      clear hE hset hod hx1 ht M HE
      go_wp2_with fail
      go_roundw
      case rel => exact ⟨r + 1, _, by omega, by go_num, HM2.out, HE2.out, HB.out.setCell hq1 _⟩
      case measure => simp [intOf]; omega
    · have hE := HE.out
      rw [List.drop_of_length_le (by rw [HOL.out]; omega), ordFrom] at hE
      have HE2 := Lib.hid hE
      clear hE
      go_wp2_with fail
      go_ret
      exact ⟨_, _, _, rfl, HM.out, HE2.out, HB.out⟩
set_option maxRecDepth 100000 in
set_option maxHeartbeats 4000000 in
theorem rordered_M (a : Option Addr) (n c : Nat) (L : List Ta) (b : Option Addr) (m d : Nat) (o : List Int) (hn : n ≤ 5) (hP : ∀ t ∈ L, t.pcs.length ≤ 1000) (w : World) (hL : RdL w a n L) (hN : NilOk a n c) (hO : Rd w b m 1 (o.map enc1)) (hm : m ≤ 5) (ho : ∀ k ∈ o, 0 ≤ k ∧ k < n) :
    Calls Try.prog 102 #[.slice a n c, .slice b m d] w (OutM w n (ordL L o)) := by
  have HR := Lib.hid hL; have HP := Lib.hid hP; have HNN := Lib.hid hN; have HO := Lib.hid hO; have HRG := Lib.hid ho
  have HOL := Lib.hid hO.length
  have HLL := Lib.hid hL.length
  obtain ⟨R, hR⟩ : ∃ R, ordL L o = R := ⟨_, rfl⟩
  have HA : Hid (ordFrom m 0 (o.drop 0) L = R) := Lib.hid (by rw [← hR, ordL, hO.length]; rfl)
  rw [hR]
  clear hL hP hN hO ho hR
  go_enter Try.func102, Try.ntmps102
  go_wp2_with (go_at_call 29; (with_reducible refine (copied_M _ _ _ L (by omega) HP.out _ HR.out HNN.out).mono ?_); rintro e w1 ⟨a1, c1, g1, rfl, hm1, hg1, hb1⟩; have HM1 := Lib.hid hm1; have HG1 := Lib.hid hg1; have B1 := Lib.hid hb1; clear hm1 hb1 hg1)
  go_loopw [6] (fun i wr => ∃ (r : Nat) (g : List TaV), r ≤ m ∧ i = .int .i64 r ∧ MutT w.heap.size wr a1 n c1 g ∧ ordFrom m r (o.drop r) (g.map TaV.ta) = R ∧ Below w.heap.size w wr) (fun i _ => m - (intOf i).toNat)
  case atStart => exact ⟨0, g1, Nat.zero_le _, rfl, HM1.out, by rw [HG1.out]; exact HA.out, B1.out⟩
  case round =>
    obtain ⟨r, g, hr, rfl, hmm, he, hB⟩ := hrel
    have HM := Lib.hid hmm; have HE := Lib.hid he; have HB := Lib.hid hB
    have hgl := hmm.rd.length
    clear hmm he hB HM1 HG1 B1 HA
    by_cases hlt : r < m
    · obtain ⟨x, b1, o1, rfl, hb1, hc1, hx1⟩ := (HO.out.ext HB.out).idx r hlt
      obtain ⟨hx0, hxn⟩ := HRG.out x (List.mem_of_getElem? hx1)
      obtain ⟨k, rfl⟩ := Int.eq_ofNat_of_zero_le hx0
      have hkn : k < n := by omega
      obtain ⟨q, rfl, hq1, hq2⟩ := HM.out.addr (by omega)
      obtain ⟨t, ht⟩ : ∃ t, g[k]? = some t := ⟨_, List.getElem?_eq_getElem (by omega)⟩
      obtain ⟨c0, f0⟩ := HM.out.at_ ht 0 (by omega)
      obtain ⟨pri, dl, fi, ga, ji, ta, tn, tc, ps⟩ := t
      simp [encTa] at c0
      simp only [Nat.add_zero] at f0
      have hE := HE.out
      have hod : o.drop r = (k : Int) :: o.drop (r + 1) := by obtain ⟨h1, h2⟩ := List.getElem?_eq_some_iff.1 hx1; rw [List.drop_eq_getElem_cons h1, h2]
      rw [hod, ordFrom] at hE
      have hset : (g.set k ⟨(m : Int) - 1 - r, dl, fi, ga, ji, ta, tn, tc, ps⟩).map TaV.ta = setPri (g.map TaV.ta) k ((m : Int) - 1 - r) := by
        rw [set_map, setPri, taAt_of (by rw [List.getElem?_map, ht]; rfl), Int.toNat_natCast]; rfl
      rw [← hset] at hE
      have HE2 := Lib.hid hE
      have M : MutT w.heap.size (wr.setCell ⟨q, k * 6, none⟩ (.int .i64 ((m : Int) - 1 - r))) (some ⟨q, 0, none⟩) n c1 (g.set k ⟨(m : Int) - 1 - r, dl, fi, ga, ji, ta, tn, tc, ps⟩) := HM.out.set ht 0 (by omega) (.int .i64 ((m : Int) - 1 - r)) rfl rfl rfl rfl rfl
      have HM2 := Lib.hid M
      have hwr1 : IntKind.i64.wrap ((m : Int) - 1) = (m : Int) - 1 := IntWalk.i64_in _ (by omega)
      have hwr2 : IntKind.i64.wrap ((m : Int) - 1 - r) = (m : Int) - 1 - r := IntWalk.i64_in _ (by omega)
      clear hE hset hod hx1 ht M HE
      go_wp2_with fail
      go_roundw
      case rel => exact ⟨r + 1, _, by omega, by go_num, HM2.out, HE2.out, HB.out.setCell hq1 _⟩
      case measure => simp [intOf]; omega
    · have hE := HE.out
      rw [List.drop_of_length_le (by rw [HOL.out]; omega), ordFrom] at hE
      have HE2 := Lib.hid hE
      clear hE
      go_wp2_with fail
      go_ret
      exact ⟨_, _, _, rfl, HM.out, HE2.out, HB.out⟩
end Go.Proofs.Ytabbmnnohnfbeaa
