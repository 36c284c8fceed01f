/- The contracts of First and Responses of response and of its reference. The conditions: the tasks read as named. -/
import Derived.Test.YtabbmnnohnfbeaaRsTop
namespace Go.Proofs.Ytabbmnnohnfbeaa
open Go.RowKit
set_option linter.unusedSimpArgs false
set_option linter.unusedVariables false
def firstL (L : List Ta) (F S : Int) : List Int → Int × Int
  | [] => (0, 3)
  | k :: ks => if meetB L F S k then firstL L F S ks else (k, 0)
def firstR (L : List Ta) (F S : Int) : Int × Int := if okB L F S then firstL L F S (rankL L) else (0, 1)
def respsR (L : List Ta) (F S : Int) : List Int × Int := if okB L F S then ((List.range L.length).map (fun k => respN L F S k), 0) else ([], 1)
theorem firstL_cons {L : List Ta} {F S k : Int} {ks : List Int} : firstL L F S (k :: ks) = if meetB L F S k then firstL L F S ks else (k, 0) := rfl
theorem rRanks_is {a : Option Addr} {n c : Nat} {L : List Ta} {xs : List Int} {e : Int} {w : World} (hL : RdL w a n L) (h : ranksR L = (xs, e)) : Calls Try.prog 23 #[.slice a n c] w (OutTE w.heap.size w xs e) := by
  have := rRanks_any a n c L w hL
  rw [h] at this; exact this
set_option maxHeartbeats 2000000 in
theorem First_any (a : Option Addr) (n c : Nat) (L : List Ta) (F S : Int) (w : World) (hL : RdL w a n L) :
    Calls Try.prog 38 #[.slice a n c, .agg #[.int .i64 F, .int .i64 S]] w fun e w' => e = rII (firstR L F S).1 (firstR L F S).2 ∧ Below w.heap.size w w' := by
  have hll := hL.length
  have HR := Lib.hid hL
  unfold firstR
  cases ho : okB L F S
  · have HO := Lib.hid ho
    clear hL hll ho
    go_enter Try.func38, Try.ntmps38
    go_wp2_with (go_at_call 52; (with_reducible refine (right25_is (HR.out.ext (Below.alloc (Below.refl _ _) (Nat.le_refl _) _)) HO.out).mono ?_); rintro e w1 ⟨rfl, hb1⟩; have B1 := Lib.hid hb1; have c0 := (hb1.cell (p := ⟨w.heap.size, 0, none⟩) (by simp)).trans (show _ = some (.int .i64 F) by simp [go_sem]); have c1 := (hb1.cell (p := ⟨w.heap.size, 1, none⟩) (by simp)).trans (show _ = some (.int .i64 S) by simp [go_sem]); have hz1 := hb1.size; clear hb1)
    go_ret2
    exact ⟨rII_eq rfl rfl, (Below.then (Below.alloc (Below.refl _ _) (Nat.le_refl _) _) B1.out)⟩
  · have HO := Lib.hid ho
    obtain ⟨hv, hs⟩ := ok_of ho
    have HV := Lib.hid hv
    have HS := Lib.hid hs
    rw [if_pos rfl]
    obtain ⟨rk, hrk⟩ : ∃ x, rankL L = x := ⟨_, rfl⟩
    have HRK : Hid (ranksR L = (rk, 0)) := Lib.hid (by rw [ranksR, hv.rb, hrk]; rfl)
    have HRM : Hid (∀ x ∈ rk, 0 ≤ x ∧ x < n) := Lib.hid (fun x hx => by rw [← hrk] at hx; have := rank_mem.1 hx; rw [hll] at this; exact this)
    obtain ⟨X, hX⟩ : ∃ X, firstL L F S rk = X := ⟨_, rfl⟩
    have HA : Hid (firstL L F S (rk.drop 0) = X) := Lib.hid hX
    rw [hrk, hX]
    obtain ⟨x0, y0⟩ := X
    clear hL hll ho hv hs hrk hX
    go_enter Try.func38, Try.ntmps38
    go_wp2_with (first | (go_at_call 52; (with_reducible refine (right25_is (HR.out.ext (Below.alloc (Below.refl _ _) (Nat.le_refl _) _)) HO.out).mono ?_); rintro e w1 ⟨rfl, hb1⟩; have B1 := Lib.hid hb1; have c0 := (hb1.cell (p := ⟨w.heap.size, 0, none⟩) (by simp)).trans (show _ = some (.int .i64 F) by simp [go_sem]); have c1 := (hb1.cell (p := ⟨w.heap.size, 1, none⟩) (by simp)).trans (show _ = some (.int .i64 S) by simp [go_sem]); have hz1 := hb1.size; clear hb1) | (go_at_call 72; (with_reducible refine (Ranks_is ((HR.out.ext (Below.alloc (Below.refl _ _) (Nat.le_refl _) _)).ext B1.out) HRK.out).mono ?_); rintro e w2 ⟨a2, n2, c2, rfl, ho2, hb2⟩; have HRD := Lib.hid (ownsI_rd ho2); have hn2 : rk.length = n2 := (ownsI_rd ho2).length; have hs2 := (ownsI_rd ho2).small; have B2 := Lib.hid hb2; have d0 := (hb2.cell (p := ⟨w.heap.size, 0, none⟩) (by simp only [World.size_alloc] at hz1; simp only []; omega)).trans c0; have d1 := (hb2.cell (p := ⟨w.heap.size, 1, none⟩) (by simp only [World.size_alloc] at hz1; simp only []; omega)).trans c1; have hz2 := hb2.size; clear ho2 hb2))
    go_loopw [21] (fun i wr => ∃ k : Nat, k ≤ n2 ∧ i = .int .i64 k ∧ firstL L F S (rk.drop k) = (x0, y0) ∧ Below w2.heap.size w2 wr) (fun i _ => n2 - (intOf i).toNat)
    case atStart => exact ⟨0, Nat.zero_le _, rfl, HA.out, Below.refl _ _⟩
    case round =>
      clear HA
      obtain ⟨k, hk, rfl, he, hB⟩ := hrel
      have HE := Lib.hid he; have HB := Lib.hid hB
      have hzw : w.heap.size < w2.heap.size := by simp only [World.size_alloc] at hz1; omega
      have e0 := (hB.cell (p := ⟨w.heap.size, 0, none⟩) (by simp only []; omega)).trans d0
      have e1 := (hB.cell (p := ⟨w.heap.size, 1, none⟩) (by simp only []; omega)).trans d1
      have hzr : w.heap.size < wr.heap.size := Nat.lt_of_lt_of_le hzw hB.size
      clear he hB
      by_cases hlt : k < n2
      · obtain ⟨x, bl, ol, rfl, hbl, hcx, hx⟩ := (HRD.out.ext HB.out).idx k hlt
        obtain ⟨hx0, hx1⟩ := HRM.out x (List.mem_of_getElem? hx)
        obtain ⟨j, rfl⟩ := Int.eq_ofNat_of_zero_le hx0
        have hxn : j < n := by omega
        have hE := HE.out
        have hkd : rk.drop k = (j : Int) :: rk.drop (k + 1) := by obtain ⟨h1, h2⟩ := List.getElem?_eq_some_iff.1 hx; rw [List.drop_eq_getElem_cons h1, h2]
        rw [hkd, firstL_cons] at hE
        obtain ⟨m, hm⟩ : ∃ m, meetB L F S j = m := ⟨_, rfl⟩
        have HM := Lib.hid hm
        have HRR := Lib.hid (((HR.out.ext (Below.alloc (Below.refl _ _) (Nat.le_refl _) _)).ext B1.out).ext B2.out)
        rw [hm] at hE
        clear hm hkd hx
        cases m
        · simp at hE
          obtain ⟨rfl, rfl⟩ := hE
          go_wp2_with (go_at_call 80; (with_reducible refine (meets_is ((((HR.out.ext (Below.alloc (Below.refl _ _) (Nat.le_refl _) _)).ext B1.out).ext B2.out).ext HB.out) HV.out HS.out hxn HM.out).mono ?_); rintro e w3 ⟨rfl, hb3⟩; have B3 := Lib.hid hb3; clear hb3)
          go_ret2
          exact ⟨rII_eq rfl rfl, Below.then (Below.then (Below.then (Below.alloc (Below.refl _ _) (Nat.le_refl _) _) B1.out) B2.out) (Below.then HB.out B3.out)⟩
        · have HE2 : Hid (firstL L F S (rk.drop (k + 1)) = (x0, y0)) := Lib.hid (by simpa using hE)
          clear hE
          go_wp2_with (go_at_call 80; (with_reducible refine (meets_is ((((HR.out.ext (Below.alloc (Below.refl _ _) (Nat.le_refl _) _)).ext B1.out).ext B2.out).ext HB.out) HV.out HS.out hxn HM.out).mono ?_); rintro e w3 ⟨rfl, hb3⟩; have B3 := Lib.hid hb3; clear hb3)
          go_roundw
          case rel => exact ⟨k + 1, by omega, by go_num, HE2.out, Below.then HB.out B3.out⟩
          case measure => simp [intOf]; omega
      · have hE := HE.out
        rw [List.drop_of_length_le (by omega), firstL] at hE
        simp only [Prod.mk.injEq] at hE
        obtain ⟨rfl, rfl⟩ := hE
        go_wp2
        go_ret2
        exact ⟨rII_eq rfl rfl, Below.then (Below.then (Below.then (Below.alloc (Below.refl _ _) (Nat.le_refl _) _) B1.out) B2.out) HB.out⟩
theorem First_is {a : Option Addr} {n c : Nat} {L : List Ta} {F S x e : Int} {w : World} (hL : RdL w a n L) (h : firstR L F S = (x, e)) :
    Calls Try.prog 38 #[.slice a n c, .agg #[.int .i64 F, .int .i64 S]] w fun en w' => en = rII x e ∧ Below w.heap.size w w' := by
  have := First_any a n c L F S w hL
  rw [h] at this; exact this
set_option maxHeartbeats 2000000 in
theorem rFirst_any (a : Option Addr) (n c : Nat) (L : List Ta) (F S : Int) (w : World) (hL : RdL w a n L) :
    Calls Try.prog 39 #[.slice a n c, .agg #[.int .i64 F, .int .i64 S]] w fun e w' => e = rII (firstR L F S).1 (firstR L F S).2 ∧ Below w.heap.size w w' := by
  have hll := hL.length
  have HR := Lib.hid hL
  unfold firstR
  cases ho : okB L F S
  · have HO := (show Hid ((okB L F S && inB 0 0 (1 - 1)) = false) from Lib.hid (by rw [ho]; rfl))
    clear hL hll ho
    go_enter Try.func39, Try.ntmps39
    go_wp2_with (go_at_call 55; (with_reducible refine (ready_is (HR.out.ext (Below.alloc (Below.refl _ _) (Nat.le_refl _) _)) HO.out).mono ?_); rintro e w1 ⟨rfl, hb1⟩; have B1 := Lib.hid hb1; have c0 := (hb1.cell (p := ⟨w.heap.size, 0, none⟩) (by simp)).trans (show _ = some (.int .i64 F) by simp [go_sem]); have c1 := (hb1.cell (p := ⟨w.heap.size, 1, none⟩) (by simp)).trans (show _ = some (.int .i64 S) by simp [go_sem]); have hz1 := hb1.size; clear hb1)
    go_ret2
    exact ⟨rII_eq rfl rfl, (Below.then (Below.alloc (Below.refl _ _) (Nat.le_refl _) _) B1.out)⟩
  · have HO := (show Hid ((okB L F S && inB 0 0 (1 - 1)) = true) from Lib.hid (by rw [ho]; rfl))
    obtain ⟨hv, hs⟩ := ok_of ho
    have HV := Lib.hid hv
    have HS := Lib.hid hs
    rw [if_pos rfl]
    obtain ⟨rk, hrk⟩ : ∃ x, rankL L = x := ⟨_, rfl⟩
    have HRK : Hid (ranksR L = (rk, 0)) := Lib.hid (by rw [ranksR, hv.rb, hrk]; rfl)
    have HRM : Hid (∀ x ∈ rk, 0 ≤ x ∧ x < n) := Lib.hid (fun x hx => by rw [← hrk] at hx; have := rank_mem.1 hx; rw [hll] at this; exact this)
    obtain ⟨X, hX⟩ : ∃ X, firstL L F S rk = X := ⟨_, rfl⟩
    have HA : Hid (firstL L F S (rk.drop 0) = X) := Lib.hid hX
    rw [hrk, hX]
    obtain ⟨x0, y0⟩ := X
    clear hL hll ho hv hs hrk hX
    go_enter Try.func39, Try.ntmps39
    go_wp2_with (first | (go_at_call 55; (with_reducible refine (ready_is (HR.out.ext (Below.alloc (Below.refl _ _) (Nat.le_refl _) _)) HO.out).mono ?_); rintro e w1 ⟨rfl, hb1⟩; have B1 := Lib.hid hb1; have c0 := (hb1.cell (p := ⟨w.heap.size, 0, none⟩) (by simp)).trans (show _ = some (.int .i64 F) by simp [go_sem]); have c1 := (hb1.cell (p := ⟨w.heap.size, 1, none⟩) (by simp)).trans (show _ = some (.int .i64 S) by simp [go_sem]); have hz1 := hb1.size; clear hb1) | (go_at_call 23; (with_reducible refine (rRanks_is ((HR.out.ext (Below.alloc (Below.refl _ _) (Nat.le_refl _) _)).ext B1.out) HRK.out).mono ?_); rintro e w2 ⟨a2, n2, c2, rfl, ho2, hb2⟩; have HRD := Lib.hid (ownsI_rd ho2); have hn2 : rk.length = n2 := (ownsI_rd ho2).length; have hs2 := (ownsI_rd ho2).small; have B2 := Lib.hid hb2; have d0 := (hb2.cell (p := ⟨w.heap.size, 0, none⟩) (by simp only [World.size_alloc] at hz1; simp only []; omega)).trans c0; have d1 := (hb2.cell (p := ⟨w.heap.size, 1, none⟩) (by simp only [World.size_alloc] at hz1; simp only []; omega)).trans c1; have hz2 := hb2.size; clear ho2 hb2))
    go_loopw [9] (fun i wr => ∃ k : Nat, k ≤ n2 ∧ i = .int .i64 k ∧ firstL L F S (rk.drop k) = (x0, y0) ∧ Below w2.heap.size w2 wr) (fun i _ => n2 - (intOf i).toNat)
    case atStart => exact ⟨0, Nat.zero_le _, rfl, HA.out, Below.refl _ _⟩
    case round =>
      clear HA
      obtain ⟨k, hk, rfl, he, hB⟩ := hrel
      have HE := Lib.hid he; have HB := Lib.hid hB
      have hzw : w.heap.size < w2.heap.size := by simp only [World.size_alloc] at hz1; omega
      have e0 := (hB.cell (p := ⟨w.heap.size, 0, none⟩) (by simp only []; omega)).trans d0
      have e1 := (hB.cell (p := ⟨w.heap.size, 1, none⟩) (by simp only []; omega)).trans d1
      have hzr : w.heap.size < wr.heap.size := Nat.lt_of_lt_of_le hzw hB.size
      clear he hB
      by_cases hlt : k < n2
      · obtain ⟨x, bl, ol, rfl, hbl, hcx, hx⟩ := (HRD.out.ext HB.out).idx k hlt
        obtain ⟨hx0, hx1⟩ := HRM.out x (List.mem_of_getElem? hx)
        obtain ⟨j, rfl⟩ := Int.eq_ofNat_of_zero_le hx0
        have hxn : j < n := by omega
        have hE := HE.out
        have hkd : rk.drop k = (j : Int) :: rk.drop (k + 1) := by obtain ⟨h1, h2⟩ := List.getElem?_eq_some_iff.1 hx; rw [List.drop_eq_getElem_cons h1, h2]
        rw [hkd, firstL_cons] at hE
        obtain ⟨m, hm⟩ : ∃ m, meetB L F S j = m := ⟨_, rfl⟩
        have HM := Lib.hid hm
        have HRR := Lib.hid (((HR.out.ext (Below.alloc (Below.refl _ _) (Nat.le_refl _) _)).ext B1.out).ext B2.out)
        rw [hm] at hE
        clear hm hkd hx
        cases m
        · simp at hE
          obtain ⟨rfl, rfl⟩ := hE
          go_wp2_with ((refine wp_region_later_lit (by kernel_rfl) (by kernel_rfl) ?_; (repeat (go_big_quiet_step ((go_at_call 81; exact later_of (rmeets_is (later_rdL HRR.out HB.out) HV.out HS.out hxn HM.out))))); refine wpQuiet_nil ?_; intro w3 hb3); have g1 := (hb3.cell (p := ⟨bl, ol + k, none⟩) hbl).trans hcx; have B3 := Lib.hid hb3; clear hb3)
          go_ret2
          exact ⟨rII_eq rfl rfl, Below.then (Below.then (Below.then (Below.alloc (Below.refl _ _) (Nat.le_refl _) _) B1.out) B2.out) (Below.then HB.out B3.out)⟩
        · have HE2 : Hid (firstL L F S (rk.drop (k + 1)) = (x0, y0)) := Lib.hid (by simpa using hE)
          clear hE
          go_wp2_with ((refine wp_region_later_lit (by kernel_rfl) (by kernel_rfl) ?_; (repeat (go_big_quiet_step ((go_at_call 81; exact later_of (rmeets_is (later_rdL HRR.out HB.out) HV.out HS.out hxn HM.out))))); refine wpQuiet_nil ?_; intro w3 hb3); have g1 := (hb3.cell (p := ⟨bl, ol + k, none⟩) hbl).trans hcx; have B3 := Lib.hid hb3; clear hb3)
          go_roundw
          case rel => exact ⟨k + 1, by omega, by go_num, HE2.out, Below.then HB.out B3.out⟩
          case measure => simp [intOf]; omega
      · have hE := HE.out
        rw [List.drop_of_length_le (by omega), firstL] at hE
        simp only [Prod.mk.injEq] at hE
        obtain ⟨rfl, rfl⟩ := hE
        go_wp2
        go_ret2
        exact ⟨rII_eq rfl rfl, Below.then (Below.then (Below.then (Below.alloc (Below.refl _ _) (Nat.le_refl _) _) B1.out) B2.out) HB.out⟩
theorem rFirst_is {a : Option Addr} {n c : Nat} {L : List Ta} {F S x e : Int} {w : World} (hL : RdL w a n L) (h : firstR L F S = (x, e)) :
    Calls Try.prog 39 #[.slice a n c, .agg #[.int .i64 F, .int .i64 S]] w fun en w' => en = rII x e ∧ Below w.heap.size w w' := by
  have := rFirst_any a n c L F S w hL
  rw [h] at this; exact this
set_option maxHeartbeats 2000000 in
theorem Resps_any (a : Option Addr) (n c : Nat) (L : List Ta) (F S : Int) (w : World) (hL : RdL w a n L) :
    Calls Try.prog 20 #[.slice a n c, .agg #[.int .i64 F, .int .i64 S]] w (OutTE w.heap.size w (respsR L F S).1 (respsR L F S).2) := by
  have hll := hL.length
  have hsm := hL.small
  have HR := Lib.hid hL
  unfold respsR
  cases ho : okB L F S
  · have HO := Lib.hid ho
    clear hL hll ho
    go_enter Try.func20, Try.ntmps20
    go_wp2_with (go_at_call 52; (with_reducible refine (right25_is (HR.out.ext (Below.alloc (Below.refl _ _) (Nat.le_refl _) _)) HO.out).mono ?_); rintro e w1 ⟨rfl, hb1⟩; have B1 := Lib.hid hb1; have c0 := (hb1.cell (p := ⟨w.heap.size, 0, none⟩) (by simp)).trans (show _ = some (.int .i64 F) by simp [go_sem]); have c1 := (hb1.cell (p := ⟨w.heap.size, 1, none⟩) (by simp)).trans (show _ = some (.int .i64 S) by simp [go_sem]); have hz1 := hb1.size; clear hb1)
    go_ret2
    exact .none (Below.then (Below.alloc (Below.refl _ _) (Nat.le_refl _) _) B1.out)
  · have HO := Lib.hid ho
    obtain ⟨hv, hs⟩ := ok_of ho
    have hn5 := hv.r.len
    rw [hll] at hn5
    have HV := Lib.hid hv
    have HS := Lib.hid hs
    rw [if_pos rfl, hll]
    have e1 := E1
    clear hL hll ho hv hs
    go_enter Try.func20, Try.ntmps20
    go_wp2_with (go_at_call 52; (with_reducible refine (right25_is (HR.out.ext (Below.alloc (Below.refl _ _) (Nat.le_refl _) _)) HO.out).mono ?_); rintro e w1 ⟨rfl, hb1⟩; have B1 := Lib.hid hb1; have c0 := (hb1.cell (p := ⟨w.heap.size, 0, none⟩) (by simp)).trans (show _ = some (.int .i64 F) by simp [go_sem]); have c1 := (hb1.cell (p := ⟨w.heap.size, 1, none⟩) (by simp)).trans (show _ = some (.int .i64 S) by simp [go_sem]); have hz1 := hb1.size; clear hb1)
    simp only [World.size_alloc] at hz1
    go_loopw [6, 14] (fun v i wr => ∃ (k : Nat) (a' : Option Addr) (c' : Nat), k ≤ n ∧ v = .slice a' k c' ∧ i = .int .i64 k ∧ wr.ownsRow w1.heap.size 3 1 (.slice a' k c') k (((List.range k).map (fun k => respN L F S k)).flatMap enc1) ∧ Below w1.heap.size w1 wr) (fun _ i _ => n - (intOf i).toNat)
    case atStart => exact ⟨0, none, 0, Nat.zero_le _, rfl, rfl, World.ownsRow_nil _ _ _ _, Below.refl _ _⟩
    case round =>
      obtain ⟨k, a', c', hk, rfl, rfl, ho, hB⟩ := hrel
      have HO2 := Lib.hid ho; have HB := Lib.hid hB; have HBW : Hid (Below w.heap.size w wr) := Lib.hid (Below.then (Below.then (Below.alloc (Below.refl _ _) (Nat.le_refl _) _) B1.out) hB)
      have d0 := (hB.cell (p := ⟨w.heap.size, 0, none⟩) (by simp only []; omega)).trans c0
      have d1 := (hB.cell (p := ⟨w.heap.size, 1, none⟩) (by simp only []; omega)).trans c1
      clear ho hB
      by_cases hlt : k < n
      · obtain ⟨x, hx⟩ : ∃ x, respN L F S k = x := ⟨_, rfl⟩
        have HX := Lib.hid hx
        clear hx
        go_wp2_with (first | (go_at_call 57; (with_reducible refine (resp_is ((((HR.out.ext (Below.alloc (Below.refl _ _) (Nat.le_refl _) _)).ext B1.out).ext HB.out)) HV.out HS.out hlt HX.out).mono ?_); rintro e w3 ⟨rfl, hb3⟩; have B3 := Lib.hid hb3; have HO3 := Lib.hid (owns_ext HO2.out hb3); have hz3 : w1.heap.size ≤ w3.heap.size := (by have := hb3.size; have := HB.out.size; omega); clear hb3) | (at_builtin; refine wpList_push (B := w1.heap.size) rfl _ _ _ rfl e1 rfl HO3.out rfl rfl (by intro u hu; simp at hu; rcases hu with rfl; rfl) (by omega) (by decide) hz3 ?_; intro a4 c4 w4 hown4 hb4; have HO4 := Lib.hid (ownsI_snoc hown4); have HB4 := Lib.hid hb4; clear hown4 hb4))
        go_roundw
        case rel =>
          refine ⟨k + 1, a4, c4, by omega, by go_num, by go_num, ?_, (Below.then HB.out B3.out).trans HB4.out⟩
          rw [List.range_succ, List.map_append, List.map_singleton, HX.out]; exact HO4.out
        case measure => simp [intOf]; omega
      · obtain rfl : k = n := by omega
        go_wp2
        go_ret2
        exact ⟨_, _, _, rfl, owns_mono HO2.out (Nat.le_of_lt hz1), HBW.out⟩
set_option maxHeartbeats 2000000 in
theorem rResps_any (a : Option Addr) (n c : Nat) (L : List Ta) (F S : Int) (w : World) (hL : RdL w a n L) :
    Calls Try.prog 21 #[.slice a n c, .agg #[.int .i64 F, .int .i64 S]] w (OutTE w.heap.size w (respsR L F S).1 (respsR L F S).2) := by
  have hll := hL.length
  have hsm := hL.small
  have HR := Lib.hid hL
  unfold respsR
  cases ho : okB L F S
  · have HO := (show Hid ((okB L F S && inB 0 0 (1 - 1)) = false) from Lib.hid (by rw [ho]; rfl))
    clear hL hll ho
    go_enter Try.func21, Try.ntmps21
    go_wp2_with (go_at_call 55; (with_reducible refine (ready_is (HR.out.ext (Below.alloc (Below.refl _ _) (Nat.le_refl _) _)) HO.out).mono ?_); rintro e w1 ⟨rfl, hb1⟩; have B1 := Lib.hid hb1; have c0 := (hb1.cell (p := ⟨w.heap.size, 0, none⟩) (by simp)).trans (show _ = some (.int .i64 F) by simp [go_sem]); have c1 := (hb1.cell (p := ⟨w.heap.size, 1, none⟩) (by simp)).trans (show _ = some (.int .i64 S) by simp [go_sem]); have hz1 := hb1.size; clear hb1)
    go_ret2
    exact .none (Below.then (Below.alloc (Below.refl _ _) (Nat.le_refl _) _) B1.out)
  · have HO := (show Hid ((okB L F S && inB 0 0 (1 - 1)) = true) from Lib.hid (by rw [ho]; rfl))
    obtain ⟨hv, hs⟩ := ok_of ho
    have hn5 := hv.r.len
    rw [hll] at hn5
    have HV := Lib.hid hv
    have HS := Lib.hid hs
    rw [if_pos rfl, hll]
    have e1 := E1
    clear hL hll ho hv hs
    go_enter Try.func21, Try.ntmps21
    go_wp2_with (go_at_call 55; (with_reducible refine (ready_is (HR.out.ext (Below.alloc (Below.refl _ _) (Nat.le_refl _) _)) HO.out).mono ?_); rintro e w1 ⟨rfl, hb1⟩; have B1 := Lib.hid hb1; have c0 := (hb1.cell (p := ⟨w.heap.size, 0, none⟩) (by simp)).trans (show _ = some (.int .i64 F) by simp [go_sem]); have c1 := (hb1.cell (p := ⟨w.heap.size, 1, none⟩) (by simp)).trans (show _ = some (.int .i64 S) by simp [go_sem]); have hz1 := hb1.size; clear hb1)
    simp only [World.size_alloc] at hz1
    go_loopw [7, 8] (fun v i wr => ∃ (k : Nat) (a' : Option Addr) (c' : Nat), k ≤ n ∧ v = .slice a' k c' ∧ i = .int .i64 k ∧ wr.ownsRow w1.heap.size 3 1 (.slice a' k c') k (((List.range k).map (fun k => respN L F S k)).flatMap enc1) ∧ Below w1.heap.size w1 wr) (fun _ i _ => n - (intOf i).toNat)
    case atStart => exact ⟨0, none, 0, Nat.zero_le _, rfl, rfl, World.ownsRow_nil _ _ _ _, Below.refl _ _⟩
    case round =>
      obtain ⟨k, a', c', hk, rfl, rfl, ho, hB⟩ := hrel
      have HO2 := Lib.hid ho; have HB := Lib.hid hB; have HBW : Hid (Below w.heap.size w wr) := Lib.hid (Below.then (Below.then (Below.alloc (Below.refl _ _) (Nat.le_refl _) _) B1.out) hB)
      have d0 := (hB.cell (p := ⟨w.heap.size, 0, none⟩) (by simp only []; omega)).trans c0
      have d1 := (hB.cell (p := ⟨w.heap.size, 1, none⟩) (by simp only []; omega)).trans c1
      clear ho hB
      by_cases hlt : k < n
      · obtain ⟨x, hx⟩ : ∃ x, respN L F S k = x := ⟨_, rfl⟩
        obtain ⟨y, hy⟩ : ∃ y, winN L F S k = y := ⟨_, rfl⟩
        have hwb := winN_bd L F S k
        obtain ⟨u, b, off, pa, pn, pc, rfl, hb, hg, hpl, HK⟩ := HR.out.cells k hlt
        have hj := HV.out.jit u (List.mem_of_getElem? hg)
        have HX := Lib.hid hx
        have HY := Lib.hid hy
        unfold respN at hx
        rw [hy, taAt_of hg] at hx
        rw [hy] at hwb
        by_cases h0 : y = 0
        · rw [if_pos h0] at hx
          subst hx
          have h0' : (y == 0) = true := by simpa using h0
          clear hy hg hpl
          go_wp2_with (first | (go_at_call 56; (with_reducible refine (rwindow_is ((((HR.out.ext (Below.alloc (Below.refl _ _) (Nat.le_refl _) _)).ext B1.out).ext HB.out)) HV.out HS.out hlt HY.out).mono ?_); rintro e w3 ⟨rfl, hb3⟩; have B3 := Lib.hid hb3; have HO3 := Lib.hid (owns_ext HO2.out hb3); have hz3 : w1.heap.size ≤ w3.heap.size := (by have := hb3.size; have := HB.out.size; omega); clear hb3) | (at_builtin; refine wpList_push (B := w1.heap.size) rfl _ _ _ rfl e1 rfl HO3.out rfl rfl (by intro u hu; simp at hu; rcases hu with rfl; rfl) (by omega) (by decide) hz3 ?_; intro a4 c4 w4 hown4 hb4; have HO4 := Lib.hid (ownsI_snoc hown4); have HB4 := Lib.hid hb4; clear hown4 hb4))
          go_roundw
          case rel =>
            refine ⟨k + 1, a4, c4, by omega, by go_num, by go_num, ?_, (Below.then HB.out B3.out).trans HB4.out⟩
            rw [List.range_succ, List.map_append, List.map_singleton, HX.out]; exact HO4.out
          case measure => simp [intOf]; omega
        · rw [if_neg h0] at hx
          have h0' : (y == 0) = false := by simpa using h0
          clear hy hg hpl
          go_wp2_with (first | (go_at_call 56; (with_reducible refine (rwindow_is ((((HR.out.ext (Below.alloc (Below.refl _ _) (Nat.le_refl _) _)).ext B1.out).ext HB.out)) HV.out HS.out hlt HY.out).mono ?_); rintro e w3 ⟨rfl, hb3⟩; have B3 := Lib.hid hb3; have HO3 := Lib.hid (owns_ext HO2.out hb3); have hz3 : w1.heap.size ≤ w3.heap.size := (by have := hb3.size; have := HB.out.size; omega); obtain ⟨j0, j1, j2, j3, j4, j5, hbw3, hpp3⟩ := HK.out w3 (Below.then HBW.out hb3); clear hb3 hpp3) | (at_builtin; refine wpList_push (B := w1.heap.size) rfl _ _ _ rfl e1 rfl HO3.out rfl rfl (by intro u hu; simp at hu; rcases hu with rfl; rfl) (by omega) (by decide) hz3 ?_; intro a4 c4 w4 hown4 hb4; have HO4 := Lib.hid (ownsI_snoc hown4); have HB4 := Lib.hid hb4; clear hown4 hb4))
          subst hx
          go_roundw
          case rel =>
            refine ⟨k + 1, a4, c4, by omega, by go_num, by go_num, ?_, (Below.then HB.out B3.out).trans HB4.out⟩
            rw [List.range_succ, List.map_append, List.map_singleton, HX.out]; exact HO4.out
          case measure => simp [intOf]; omega
      · obtain rfl : k = n := by omega
        go_wp2
        go_ret2
        exact ⟨_, _, _, rfl, owns_mono HO2.out (Nat.le_of_lt hz1), HBW.out⟩
end Go.Proofs.Ytabbmnnohnfbeaa
