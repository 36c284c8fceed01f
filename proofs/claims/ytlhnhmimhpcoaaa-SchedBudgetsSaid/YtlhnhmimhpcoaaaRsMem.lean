/- The contracts of Valid and cost of response and of its reference. The conditions: the tasks read as named. -/
import Derived.Test.YtlhnhmimhpcoaaaRsDem
import Derived.Test.YtlhnhmimhpcoaaaSpVal
import Derived.Test.YtlhnhmimhpcoaaaTkBlk
namespace Go.Proofs.Ytlhnhmimhpcoaaa
open Go.RowKit
set_option linter.unusedSimpArgs false
set_option linter.unusedVariables false
set_option maxHeartbeats 1000000 in
theorem cost_any (p d fi ga ji : Int) (pa : Option Addr) (pn pc : Nat) (ps : List P2) (w : World) (hp : Rd w pa pn 2 (ps.map enc2)) (hv : ∀ q ∈ ps, 1 ≤ q.1 ∧ q.1 ≤ 200) (hn : pn ≤ 8) :
    Calls Try.prog 90 #[.agg #[.int .i64 p, .int .i64 d, .int .i64 fi, .int .i64 ga, .int .i64 ji, .slice pa pn pc]] w fun e w' => e = .returned (.int .i64 (costP ps)) ∧ Below w.heap.size w w' := by
  have hb := costP_bd ps hv
  have hl := hp.length
  rw [hl] at hb
  obtain ⟨R, hR⟩ : ∃ R, costP ps = R := ⟨_, rfl⟩
  have HA : Hid (0 + costP (ps.drop 0) = R) := Lib.hid (by rw [Int.zero_add]; exact hR)
  have HQ : Hid (∀ k : Nat, 0 ≤ costP (ps.drop k)) := Lib.hid (fun k => by
    have := costP_bd (ps.drop k) (fun q hq => hv q (List.mem_of_mem_drop hq))
    omega)
  rw [hR] at hb ⊢
  have HP := Lib.hid hp
  have HL := Lib.hid hl
  have HV := Lib.hid hv
  clear hp hl hR hv
  go_enter Try.func90, Try.ntmps90
  go_wp2
  go_loopw [3, 9] (fun v i wr => ∃ (k : Nat) (m : Int), k ≤ pn ∧ v = .int .i64 m ∧ i = .int .i64 k ∧ 0 ≤ m ∧ m + costP (ps.drop k) = R ∧ Below w.heap.size w wr) (fun _ i _ => pn - (intOf i).toNat)
  case atStart => exact ⟨0, 0, Nat.zero_le _, rfl, rfl, by omega, HA.out, by (repeat' (first | (with_reducible exact Below.refl _ _) | (with_reducible assumption) | (with_reducible refine Below.alloc ?_ ?_ _) | (with_reducible refine Below.drew ?_) | (with_reducible refine Below.draws ?_ _) | (with_reducible refine Below.setCell ?_ ?_ _) | (refine Below.then ?_ (by with_reducible assumption)) | go_size))⟩
  case round =>
    clear HA
    obtain ⟨k, m, hk, rfl, rfl, hm, he, hB⟩ := hrel
    have HE := Lib.hid he; have HB := Lib.hid hB
    clear he hB
    by_cases hlt : k < pn
    · obtain ⟨x, y, b, off, rfl, hbb, e1, e2, hpg, HD⟩ := (HP.out.ext HB.out).pc_at k hlt
      have hE := HE.out
      rw [costP_drop hpg] at hE
      have hx := HV.out (x, y) (List.mem_of_getElem? hpg)
      have hr := HQ.out (k + 1)
      simp only [] at hE hx
      have HE2 : Hid (m + x + costP (ps.drop (k + 1)) = R) := Lib.hid (by omega)
      have hmx : m + x ≤ 1600 := by omega
      clear hpg HD hE
      go_wp2
      go_roundw
      case rel => exact ⟨k + 1, m + x, by omega, rfl, by go_num, by omega, HE2.out, Below.alloc HB.out HB.out.size _⟩
      case measure => simp [intOf]; omega
    · have hE := HE.out
      rw [drop_end HL.out (by omega), costP, Int.add_zero] at hE
      subst hE
      go_wp2
      go_ret
      exact ⟨rfl, HB.out⟩
set_option maxHeartbeats 1000000 in
theorem rcost_any (p d fi ga ji : Int) (pa : Option Addr) (pn pc : Nat) (ps : List P2) (w : World) (hp : Rd w pa pn 2 (ps.map enc2)) (hv : ∀ q ∈ ps, 1 ≤ q.1 ∧ q.1 ≤ 200) (hn : pn ≤ 8) :
    Calls Try.prog 92 #[.agg #[.int .i64 p, .int .i64 d, .int .i64 fi, .int .i64 ga, .int .i64 ji, .slice pa pn pc]] w fun e w' => e = .returned (.int .i64 (costP ps)) ∧ Below w.heap.size w w' := by
  have hb := costP_bd ps hv
  have hl := hp.length
  rw [hl] at hb
  obtain ⟨R, hR⟩ : ∃ R, costP ps = R := ⟨_, rfl⟩
  have HA : Hid (0 + costP (ps.drop 0) = R) := Lib.hid (by rw [Int.zero_add]; exact hR)
  have HQ : Hid (∀ k : Nat, 0 ≤ costP (ps.drop k)) := Lib.hid (fun k => by
    have := costP_bd (ps.drop k) (fun q hq => hv q (List.mem_of_mem_drop hq))
    omega)
  rw [hR] at hb ⊢
  have hps := hp.small
  have HP := Lib.hid (hp.ext (Below.alloc (Below.refl _ _) (Nat.le_refl _) (.cells #[.int .i64 p, .int .i64 d, .int .i64 fi, .int .i64 ga, .int .i64 ji, .slice pa pn pc] 50)))
  have HL := Lib.hid hl
  have HV := Lib.hid hv
  clear hp hl hR hv
  go_enter Try.func92, Try.ntmps92
  go_wp2
  go_loop [3, 4] (fun v i => ∃ (k : Nat) (m : Int), k ≤ pn ∧ v = .int .i64 m ∧ i = .int .i64 k ∧ 0 ≤ m ∧ m + costP (ps.drop k) = R) (fun _ i => pn - (intOf i).toNat)
  case atStart => exact ⟨0, 0, Nat.zero_le _, rfl, rfl, by omega, HA.out⟩
  case round =>
    clear HA
    obtain ⟨k, m, hk, rfl, rfl, hm, he⟩ := hrel
    have HE := Lib.hid he
    clear he
    by_cases hlt : k < pn
    · obtain ⟨x, y, b, off, rfl, hbb, e1, e2, hpg, HD⟩ := HP.out.pc_at k hlt
      have hE := HE.out
      rw [costP_drop hpg] at hE
      have hx := HV.out (x, y) (List.mem_of_getElem? hpg)
      have hr := HQ.out (k + 1)
      simp only [] at hE hx
      have HE2 : Hid (m + x + costP (ps.drop (k + 1)) = R) := Lib.hid (by omega)
      have hmx : m + x ≤ 1600 := by omega
      clear hpg HD hE
      go_wp2
      go_round
      case rel => exact ⟨k + 1, m + x, by omega, rfl, by go_num, by omega, HE2.out⟩
      case measure => simp [intOf]; omega
    · have hE := HE.out
      rw [drop_end HL.out (by omega), costP, Int.add_zero] at hE
      subst hE
      go_wp2
      go_ret
      exact ⟨rfl, by (repeat' (first | (with_reducible exact Below.refl _ _) | (with_reducible assumption) | (with_reducible refine Below.alloc ?_ ?_ _) | (with_reducible refine Below.drew ?_) | (with_reducible refine Below.draws ?_ _) | (with_reducible refine Below.setCell ?_ ?_ _) | (refine Below.then ?_ (by with_reducible assumption)) | go_size))⟩
theorem avalid_is {f g j : Int} {b : Bool} {w : World} (h : vpat f g j = b) : Calls Try.prog 88 #[.agg #[.int .i64 f, .int .i64 g, .int .i64 j]] w fun e w' => e = .returned (.bool b) ∧ Below w.heap.size w w' := by subst h; exact valid_any f g j w
theorem arvalid_is {f g j : Int} {b : Bool} {w : World} (h : vpat f g j = b) : Calls Try.prog 86 #[.agg #[.int .i64 f, .int .i64 g, .int .i64 j]] w fun e w' => e = .returned (.bool b) ∧ Below w.heap.size w w' := by subst h; exact rvalid_any f g j w
theorem patF_any (t : TaV) (w : World) : Calls Try.prog 94 #[valTa t] w fun e w' => e = .returned (.bool (!patB t.ta)) ∧ Below w.heap.size w w' := by
  obtain ⟨pri, dl, fi, ga, ji, a, n, c, pcs⟩ := t
  obtain ⟨R, hR⟩ : ∃ R, patB (TaV.ta ⟨pri, dl, fi, ga, ji, a, n, c, pcs⟩) = R := ⟨_, rfl⟩
  rw [hR]
  have hR' : (vpat fi ga ji && (decide (1 ≤ dl) && decide (dl ≤ ga))) = R := hR
  obtain ⟨v, hv⟩ : ∃ v, vpat fi ga ji = v := ⟨_, rfl⟩
  have HV := Lib.hid hv
  rw [hv] at hR'
  clear hR hv
  cases v
  · obtain rfl : R = false := by rw [← hR']; rfl
    clear hR'
    go_enter Try.func94, Try.ntmps94
    go_wp2_with (go_at_call 88; (with_reducible refine (avalid_is HV.out).mono ?_); rintro e w1 ⟨rfl, hb1⟩; have B1 := Lib.hid hb1; clear hb1)
    go_ret
    exact ⟨rfl, Below.then (Below.alloc (Below.refl _ _) (Nat.le_refl _) _) B1.out⟩
  · by_cases h1 : dl < 1
    · obtain rfl : R = false := by rw [← hR', decide_eq_false (show ¬ 1 ≤ dl by omega)]; rfl
      clear hR'
      go_enter Try.func94, Try.ntmps94
      go_wp2_with (go_at_call 88; (with_reducible refine (avalid_is HV.out).mono ?_); rintro e w1 ⟨rfl, hb1⟩; have B1 := Lib.hid hb1; have c1 := (hb1.cell (p := ⟨w.heap.size, 1, none⟩) (by simp)).trans (show _ = some (.int .i64 dl) by simp [go_sem]); have c3 := (hb1.cell (p := ⟨w.heap.size, 3, none⟩) (by simp)).trans (show _ = some (.int .i64 ga) by simp [go_sem]); clear hb1)
      go_ret
      exact ⟨rfl, Below.then (Below.alloc (Below.refl _ _) (Nat.le_refl _) _) B1.out⟩
    · have h1' : decide (dl < 1) = false := by simpa using h1
      have h2 : decide (ga < dl) = !R := by
        rw [← hR', decide_eq_true (show 1 ≤ dl by omega)]
        by_cases q : dl ≤ ga
        · rw [decide_eq_true q, decide_eq_false (by omega)]; rfl
        · rw [decide_eq_false q, decide_eq_true (by omega)]; rfl
      clear hR'
      go_enter Try.func94, Try.ntmps94
      go_wp2_with (go_at_call 88; (with_reducible refine (avalid_is HV.out).mono ?_); rintro e w1 ⟨rfl, hb1⟩; have B1 := Lib.hid hb1; have c1 := (hb1.cell (p := ⟨w.heap.size, 1, none⟩) (by simp)).trans (show _ = some (.int .i64 dl) by simp [go_sem]); have c3 := (hb1.cell (p := ⟨w.heap.size, 3, none⟩) (by simp)).trans (show _ = some (.int .i64 ga) by simp [go_sem]); clear hb1)
      go_ret
      exact ⟨rfl, Below.then (Below.alloc (Below.refl _ _) (Nat.le_refl _) _) B1.out⟩
theorem Ranks_is {a : Option Addr} {n c : Nat} {L : List Ta} {xs : List Int} {e : Int} {w : World} (hL : RdL w a n L) (h : ranksR L = (xs, e)) : Calls Try.prog 70 #[.slice a n c] w (OutTE w.heap.size w xs e) := by
  have := Ranks_any a n c L w hL
  rw [h] at this; exact this
theorem valid_any' (a : Option Addr) (n c : Nat) (L : List Ta) (w : World) (hL : RdL w a n L) : Calls Try.prog 56 #[.slice a n c] w fun e w' => e = .returned (.bool (validL L)) ∧ Below w.heap.size w w' := by
  have HR := Lib.hid hL
  unfold validL
  obtain ⟨rk, re, hrk⟩ : ∃ x e, ranksR L = (x, e) := ⟨_, _, rfl⟩
  have HRK := Lib.hid hrk
  cases hr : rightB L
  · obtain rfl : re = 1 := by rw [ranksR, hr] at hrk; simp at hrk; exact hrk.2.symm
    clear hL hrk hr
    go_enter Try.func56, Try.ntmps56
    go_wp2_with (go_at_call 70; (with_reducible refine (Ranks_is HR.out HRK.out).mono ?_); rintro e w1 ⟨a1, n1, c1, rfl, ho1, hb1⟩; have B1 := Lib.hid hb1; clear ho1 hb1)
    go_ret
    exact ⟨rfl, B1.out⟩
  · obtain rfl : re = 0 := by rw [ranksR, hr] at hrk; simp at hrk; exact hrk.2.symm
    obtain ⟨R, hR⟩ : ∃ R, L.all patB = R := ⟨_, rfl⟩
    have HC : Hid (∀ w1 : World, Below w.heap.size w w1 → Calls Try.prog 93 #[.slice a n c, .func (.func 94) #[] #[]] w1 fun e w' => e = .returned (.bool (!R)) ∧ Below w1.heap.size w1 w') := Lib.hid (fun w1 hb => by
      obtain ⟨g, hG, hg⟩ := hL.ext hb
      have := tk_con 94 #[] (fun t => !patB t.ta) a n c g w1 hG.rd ⟨fun args w => by kernel_rfl, fun x hx w' hb => patF_any x w'⟩
      rw [any_not (fun t : TaV => patB t.ta)] at this
      have e : g.all (fun t => patB t.ta) = R := by rw [← hR, ← hg, List.all_map]; rfl
      rw [e] at this
      exact this)
    rw [Bool.true_and, hR]
    clear hL hrk hr hR
    go_enter Try.func56, Try.ntmps56
    go_wp2_with (first
      | (go_at_call 70; (with_reducible refine (Ranks_is HR.out HRK.out).mono ?_); rintro e w1 ⟨a1, n1, c1, rfl, ho1, hb1⟩; have B1 := Lib.hid hb1; clear ho1 hb1)
      | (go_at_call 93; (with_reducible refine (HC.out _ B1.out).mono ?_); rintro e w2 ⟨rfl, hb2⟩; have B2 := Lib.hid hb2; clear hb2))
    go_ret
    exact ⟨ret_bool (by simp), (by repeat (first | (with_reducible exact Below.refl _ _) | (refine Below.then ?_ (Hid.out (by with_reducible assumption)))))⟩
theorem valid_is {a : Option Addr} {n c : Nat} {L : List Ta} {b : Bool} {w : World} (hL : RdL w a n L) (h : validL L = b) : Calls Try.prog 56 #[.slice a n c] w fun e w' => e = .returned (.bool b) ∧ Below w.heap.size w w' := by subst h; exact valid_any' a n c L w hL
set_option maxRecDepth 10000 in
set_option maxHeartbeats 2000000 in
theorem rValid_any (a : Option Addr) (n c : Nat) (L : List Ta) (w : World) (hL : RdL w a n L) : Calls Try.prog 50 #[.slice a n c] w fun e w' => e = .returned (.bool (validL L)) ∧ Below w.heap.size w w' := by
  have hll := hL.length
  have hs := hL.small
  have HR := Lib.hid hL
  have HLL := Lib.hid hll
  unfold validL
  cases hr : rightB L
  · have HV := Lib.hid hr
    clear hL hll hr
    go_enter Try.func50, Try.ntmps50
    go_wp2_with (go_at_call 67; (with_reducible refine (rTasks_is HR.out HV.out).mono ?_); rintro e w1 ⟨rfl, hb1⟩; have B1 := Lib.hid hb1; clear hb1)
    go_ret
    exact ⟨rfl, B1.out⟩
  · have HV := Lib.hid hr
    rw [Bool.true_and]
    obtain ⟨R, hR⟩ : ∃ R, L.all patB = R := ⟨_, rfl⟩
    have HA : Hid ((L.drop 0).all patB = R) := Lib.hid hR
    rw [hR]
    clear hL hll hr hR
    go_enter Try.func50, Try.ntmps50
    go_wp2_with (go_at_call 67; (with_reducible refine (rTasks_is HR.out HV.out).mono ?_); rintro e w1 ⟨rfl, hb1⟩; have B1 := Lib.hid hb1; clear hb1)
    go_loopw [3] (fun i wr => ∃ k : Nat, k ≤ n ∧ i = .int .i64 k ∧ (L.drop k).all patB = R ∧ Below w.heap.size w wr) (fun i _ => n - (intOf i).toNat)
    case atStart => exact ⟨0, Nat.zero_le _, rfl, HA.out, B1.out⟩
    case round =>
      clear HA
      obtain ⟨k, hk, rfl, he, hB⟩ := hrel
      have HE := Lib.hid he; have HB := Lib.hid hB
      clear he hB
      by_cases hlt : k < n
      · obtain ⟨t, b, off, pa, pn, pc, rfl, hb, c0, c1, c2, c3, c4, c5, hp, _, hg, HD⟩ := (HR.out.ext HB.out).at_ k hlt
        have hE := HE.out
        rw [HD.out, List.all_cons] at hE
        obtain ⟨pri, dl, fi, ga, ji, pcs⟩ := t
        simp only [] at c0 c1 c2 c3 c4
        have hE' : (vpat fi ga ji && (decide (1 ≤ dl) && decide (dl ≤ ga)) && (L.drop (k + 1)).all patB) = R := hE
        obtain ⟨v, hv⟩ : ∃ v, vpat fi ga ji = v := ⟨_, rfl⟩
        have HVP := Lib.hid hv
        rw [hv] at hE'
        clear hE hv hg HD hp
        cases v
        · obtain rfl : R = false := by rw [← hE']; rfl
          clear hE'
          go_wp2_with (refine wp_region_later_lit (by kernel_rfl) (by kernel_rfl) ?_; (repeat (go_big_quiet_step ((go_at_call 86; exact later_of (arvalid_is HVP.out))))); refine wpQuiet_nil ?_; intro w3 hb3)
          go_ret
          exact ⟨rfl, Below.then HB.out hb3⟩
        · by_cases h1 : dl < 1
          · obtain rfl : R = false := by rw [← hE', decide_eq_false (show ¬ 1 ≤ dl by omega)]; rfl
            clear hE'
            go_wp2_with (refine wp_region_later_lit (by kernel_rfl) (by kernel_rfl) ?_; (repeat (go_big_quiet_step ((go_at_call 86; exact later_of (arvalid_is HVP.out))))); refine wpQuiet_nil ?_; intro w3 hb3)
            go_ret
            exact ⟨rfl, Below.then HB.out hb3⟩
          · have h1' : decide (dl < 1) = false := by simpa using h1
            by_cases h2 : ga < dl
            · obtain rfl : R = false := by rw [← hE', decide_eq_false (show ¬ dl ≤ ga by omega)]; simp
              clear hE'
              go_wp2_with (refine wp_region_later_lit (by kernel_rfl) (by kernel_rfl) ?_; (repeat (go_big_quiet_step ((go_at_call 86; exact later_of (arvalid_is HVP.out))))); refine wpQuiet_nil ?_; intro w3 hb3)
              go_ret
              exact ⟨rfl, Below.then HB.out hb3⟩
            · have h2' : decide (ga < dl) = false := by simpa using h2
              have HE2 : Hid ((L.drop (k + 1)).all patB = R) := Lib.hid (by rw [← hE', decide_eq_true (show 1 ≤ dl by omega), decide_eq_true (show dl ≤ ga by omega)]; simp)
              clear hE'
              go_wp2_with (refine wp_region_later_lit (by kernel_rfl) (by kernel_rfl) ?_; (repeat (go_big_quiet_step ((go_at_call 86; exact later_of (arvalid_is HVP.out))))); refine wpQuiet_nil ?_; intro w3 hb3)
              go_roundw
              case rel => exact ⟨k + 1, by omega, by go_num, HE2.out, Below.then HB.out hb3⟩
              case measure => simp [intOf]; omega
      · have hE := HE.out
        rw [drop_end HLL.out (by omega), List.all_nil] at hE
        subst hE
        go_wp2
        go_ret
        exact ⟨rfl, HB.out⟩
theorem rValid_is {a : Option Addr} {n c : Nat} {L : List Ta} {b : Bool} {w : World} (hL : RdL w a n L) (h : validL L = b) : Calls Try.prog 50 #[.slice a n c] w fun e w' => e = .returned (.bool b) ∧ Below w.heap.size w w' := by subst h; exact rValid_any a n c L w hL
end Go.Proofs.Ytlhnhmimhpcoaaa
