/- The walk of SchedBudgets: it returns true. The conditions: the run reads as named. -/
import Derived.Test.YtlhnhmimhpcoaaaScLaw2
import Derived.Test.YtlhnhmimhpcoaaaScBud
import Derived.Test.YtlhnhmimhpcoaaaScPre
import Derived.BigRegion
namespace Go.Proofs.Ytlhnhmimhpcoaaa
open Go.RowKit
set_option linter.unusedSimpArgs false
set_option linter.unusedVariables false

/-- the longest piece with a lock -/
def mxP : List P2 → Int → Int
  | [], m => m
  | p :: l, m => mxP l (if 0 ≤ p.2 then max m p.1 else m)
theorem mxP_le : ∀ (l : List P2) (m : Int), m ≤ mxP l m ∧ ∀ p ∈ l, 0 ≤ p.2 → p.1 ≤ mxP l m
  | [], m => ⟨Int.le_refl _, fun p hp => by simp at hp⟩
  | q :: l, m => by
    obtain ⟨h1, h2⟩ := mxP_le l (if 0 ≤ q.2 then max m q.1 else m)
    rw [mxP]
    refine ⟨?_, fun p hp h0 => ?_⟩
    · refine Int.le_trans ?_ h1; split <;> omega
    · rcases List.mem_cons.1 hp with rfl | hp
      · rw [if_pos h0] at h1 ⊢; omega
      · exact h2 p hp h0
theorem mxP_top : ∀ (l : List P2) (m : Int), m ≤ 200 → (∀ p ∈ l, p.1 ≤ 200) → mxP l m ≤ 200
  | [], m, h, _ => h
  | q :: l, m, h, hl => mxP_top l _ (by have := hl q (by simp); split <;> omega) (fun p hp => hl p (by simp [hp]))
theorem cW_take {i : Nat} {x : Int} {es : List En} {k : Nat} {e : En} (h : es[k]? = some e) : cW i x (es.take (k + 1)) = cW i x (es.take k) + (if wkd i x e = true then 1 else 0) := by
  rw [List.take_add_one, h]; exact cW_one i x _ e
/-- what the law asks of a task -/
theorem bud_task {R : Rn} (hr : RnOk R) {i : Nat} {u : Ta} {b : Int} (hu : R.L[i]? = some u) (hb : R.bu[i]? = some b) (h0 : b ≠ 0) (T : Nat) : ∀ x : Nat, x < (evA R i).length → (cW i x (plM R T).o : Int) ≤ b + mxP u.pcs 0 := by
  intro x hx
  have hi := (List.getElem?_eq_some_iff.1 hu).1
  have hb0 := hr.b0 b (List.mem_of_getElem? hb)
  obtain ⟨bn, rfl⟩ := Int.eq_ofNat_of_zero_le hb0.1
  obtain ⟨h1, h2⟩ := mxP_le u.pcs 0
  obtain ⟨M, hM⟩ := Int.eq_ofNat_of_zero_le h1
  have := bud_le hr (M := M) hi hb (by omega) (fun p hp hl => by
    have hp' := pcA_mem hp
    rw [taAt_of hu] at hp'
    rw [← hM]
    exact h2 _ hp' hl) T x hx
  rw [hM]; omega
set_option maxRecDepth 100000 in
set_option maxHeartbeats 4000000 in
theorem budgets_walk {w : World} (H : RunH) (R : Rn) (hR : ReadRun w H R) (hS : RunS H R) (t : Int) (ht : -9223372036854775808 ≤ t ∧ t ≤ 9223372036854775807) :
    Calls Try.prog 6 #[runV H R.fr R.sl, .int .i64 t] w fun e w' => e = .returned (.bool true) ∧ Below w.heap.size w w' := by
  have HH := Lib.hid (fun w1 (hb : Below w.heap.size w w1) => heavy_any H R w1 (hR.ext hb) hS)
  have HV := Lib.hid (fun w1 (hb : Below w.heap.size w w1) => rValid_run H R w1 (hR.ext hb))
  have HAS := Lib.hid (as_any H R.fr R.sl)
  obtain ⟨es, er, hE⟩ : ∃ es er, simR R t = (es, er) := ⟨_, _, rfl⟩
  have HS := Lib.hid (fun w1 (hb : Below w.heap.size w w1) => Sim_is (hR.ext hb) hE)
  obtain ⟨B, hB⟩ : ∃ B, heavyB R = B := ⟨_, rfl⟩
  rw [hB] at HH
  obtain ⟨V, hV⟩ : ∃ V, runB R = V := ⟨_, rfl⟩
  rw [hV] at HV
  obtain ⟨fr, hfr⟩ : ∃ x, R.fr = x := ⟨_, rfl⟩
  obtain ⟨sl_, hsl⟩ : ∃ x, R.sl = x := ⟨_, rfl⟩
  have HR := Lib.hid hR
  cases B
  · cases V
    · rw [hfr, hsl] at HH HV HAS ⊢
      obtain ⟨tA, tN, tC, eA, eN, eC, bA, bN, bC, sA, sN, sC⟩ := H
      unfold runV at HH HV HAS ⊢
      simp only [] at HH HV HAS ⊢
      clear hR hS hE hB HS HR hfr hsl hV
      go_enter Try.func6, Try.ntmps6
      go_wp2_with (first
        | (go_at_call 13; (with_reducible refine (HH.out _ (by (repeat' (first | (with_reducible exact Below.refl _ _) | (with_reducible assumption) | (with_reducible refine Below.alloc ?_ ?_ _) | (with_reducible refine Below.drew ?_) | (with_reducible refine Below.draws ?_ _) | (with_reducible refine Below.setCell ?_ ?_ _) | (refine Below.then ?_ (by with_reducible assumption)) | go_size)))).mono ?_); rintro e w1 ⟨rfl, hb1⟩; have B1 : Hid (Below w.heap.size w w1) := Lib.hid (Below.trans (by (repeat' (first | (with_reducible exact Below.refl _ _) | (with_reducible assumption) | (with_reducible refine Below.alloc ?_ ?_ _) | (with_reducible refine Below.drew ?_) | (with_reducible refine Below.draws ?_ _) | (with_reducible refine Below.setCell ?_ ?_ _) | (refine Below.then ?_ (by with_reducible assumption)) | go_size))) (hb1.mono (by simp))); have z1 : w.heap.size < w1.heap.size := Nat.lt_of_lt_of_le (by simp) hb1.size; have c0 := (hb1.cell (p := ⟨w.heap.size, 0, none⟩) (by simp)).trans (by simp [go_sem]; rfl); have c1 := (hb1.cell (p := ⟨w.heap.size, 1, none⟩) (by simp)).trans (by simp [go_sem]; rfl); have c2 := (hb1.cell (p := ⟨w.heap.size, 2, none⟩) (by simp)).trans (by simp [go_sem]; rfl); have c3 := (hb1.cell (p := ⟨w.heap.size, 3, none⟩) (by simp)).trans (by simp [go_sem]; rfl); have c4 := (hb1.cell (p := ⟨w.heap.size, 4, none⟩) (by simp)).trans (by simp [go_sem]; rfl); have c5 := (hb1.cell (p := ⟨w.heap.size, 5, none⟩) (by simp)).trans (by simp [go_sem]; rfl); clear hb1)
        | (go_at_call 17; (with_reducible refine (HAS.out _).mono ?_); rintro e w2 ⟨rfl, hb2⟩; have A2 := Lib.hid (Below.then B1.out hb2); have y2 := Nat.lt_of_lt_of_le z1 hb2.size; have a0 := (hb2.cell (p := ⟨w.heap.size, 0, none⟩) z1).trans c0; have a1 := (hb2.cell (p := ⟨w.heap.size, 1, none⟩) z1).trans c1; have a2 := (hb2.cell (p := ⟨w.heap.size, 2, none⟩) z1).trans c2; have a3 := (hb2.cell (p := ⟨w.heap.size, 3, none⟩) z1).trans c3; have a4 := (hb2.cell (p := ⟨w.heap.size, 4, none⟩) z1).trans c4; have a5 := (hb2.cell (p := ⟨w.heap.size, 5, none⟩) z1).trans c5; clear hb2 c0 c1 c2 c3 c4 c5)
        | (go_at_call 19; (with_reducible refine (HV.out _ A2.out).mono ?_); rintro e w3 ⟨rfl, hb3⟩; have B3 := Lib.hid (Below.then A2.out hb3); have z3 := Nat.lt_of_lt_of_le y2 hb3.size; have b0 := (hb3.cell (p := ⟨w.heap.size, 0, none⟩) y2).trans a0; have b1 := (hb3.cell (p := ⟨w.heap.size, 1, none⟩) y2).trans a1; have b2 := (hb3.cell (p := ⟨w.heap.size, 2, none⟩) y2).trans a2; have b3 := (hb3.cell (p := ⟨w.heap.size, 3, none⟩) y2).trans a3; have b4 := (hb3.cell (p := ⟨w.heap.size, 4, none⟩) y2).trans a4; have b5 := (hb3.cell (p := ⟨w.heap.size, 5, none⟩) y2).trans a5; clear hb3 a0 a1 a2 a3 a4 a5)
        | (go_at_call 14; (with_reducible refine (sane_any _).mono ?_); rintro e w9 ⟨rfl, hb9⟩))
      go_ret
      exact ⟨rfl, Below.then B3.out hb9⟩
    · rcases sim_bad hE with ⟨rfl, hok⟩ | ⟨rfl, rfl, hbad⟩
      · have hrn := (run_ok hV).1
        have HBT := Lib.hid (fun (k : Nat) (u : Ta) (b : Int) (hu : R.L[k]? = some u) (hb : R.bu[k]? = some b) (h0 : b ≠ 0) => bud_task hrn hu hb h0 t.toNat)
        have hes : es = (plM R t.toNat).o := by
          unfold simR at hE
          rw [if_pos hok] at hE
          simp at hE; exact hE.symm
        have HEV := Lib.hid hR.e.evs; have HT := Lib.hid hR.t; have HBU := Lib.hid hR.b
        have HPL : Hid (∀ u ∈ R.L, ∀ p ∈ u.pcs, p.1 ≤ 200) := Lib.hid (fun u hu p hp => (hrn.r.piece u hu p hp).1.2)
        have HBL : Hid (∀ b ∈ R.bu, 0 ≤ b ∧ b ≤ 1000) := Lib.hid hrn.b0
        rw [← hes] at HBT
        have he1 : H.eN = H.tN := by rw [← hR.e.evs.len, ← hR.t.length]; exact hrn.ev
        have hb1 : H.bN = H.tN := by rw [← hR.b.length, ← hR.t.length]; exact hrn.bu
        have HLL := Lib.hid hR.t.length
        have htsm := hR.t.small
        rw [hfr, hsl] at HH HS HV HAS ⊢
        obtain ⟨tA, tN, tC, eA, eN, eC, bA, bN, bC, sA, sN, sC⟩ := H
        unfold runV at HH HS HV HAS ⊢
        simp only [] at HH HS HV HAS HEV HT HBU HLL he1 hb1 htsm ⊢
        subst he1; subst hb1
        clear hR hS hE hB hfr hsl HR hV hok hrn hes
        go_enter Try.func6, Try.ntmps6
        go_wp2_with (first
          | (go_at_call 13; (with_reducible refine (HH.out _ (by (repeat' (first | (with_reducible exact Below.refl _ _) | (with_reducible assumption) | (with_reducible refine Below.alloc ?_ ?_ _) | (with_reducible refine Below.drew ?_) | (with_reducible refine Below.draws ?_ _) | (with_reducible refine Below.setCell ?_ ?_ _) | (refine Below.then ?_ (by with_reducible assumption)) | go_size)))).mono ?_); rintro e w1 ⟨rfl, hb1⟩; have B1 : Hid (Below w.heap.size w w1) := Lib.hid (Below.trans (by (repeat' (first | (with_reducible exact Below.refl _ _) | (with_reducible assumption) | (with_reducible refine Below.alloc ?_ ?_ _) | (with_reducible refine Below.drew ?_) | (with_reducible refine Below.draws ?_ _) | (with_reducible refine Below.setCell ?_ ?_ _) | (refine Below.then ?_ (by with_reducible assumption)) | go_size))) (hb1.mono (by simp))); have z1 : w.heap.size < w1.heap.size := Nat.lt_of_lt_of_le (by simp) hb1.size; have c0 := (hb1.cell (p := ⟨w.heap.size, 0, none⟩) (by simp)).trans (by simp [go_sem]; rfl); have c1 := (hb1.cell (p := ⟨w.heap.size, 1, none⟩) (by simp)).trans (by simp [go_sem]; rfl); have c2 := (hb1.cell (p := ⟨w.heap.size, 2, none⟩) (by simp)).trans (by simp [go_sem]; rfl); have c3 := (hb1.cell (p := ⟨w.heap.size, 3, none⟩) (by simp)).trans (by simp [go_sem]; rfl); have c4 := (hb1.cell (p := ⟨w.heap.size, 4, none⟩) (by simp)).trans (by simp [go_sem]; rfl); have c5 := (hb1.cell (p := ⟨w.heap.size, 5, none⟩) (by simp)).trans (by simp [go_sem]; rfl); clear hb1)
          | (go_at_call 19; (with_reducible refine (HV.out _ A2.out).mono ?_); rintro e w3 ⟨rfl, hb3⟩; have B3 := Lib.hid (Below.then A2.out hb3); have z3 := Nat.lt_of_lt_of_le y2 hb3.size; have b0 := (hb3.cell (p := ⟨w.heap.size, 0, none⟩) y2).trans a0; have b1 := (hb3.cell (p := ⟨w.heap.size, 1, none⟩) y2).trans a1; have b2 := (hb3.cell (p := ⟨w.heap.size, 2, none⟩) y2).trans a2; have b3 := (hb3.cell (p := ⟨w.heap.size, 3, none⟩) y2).trans a3; have b4 := (hb3.cell (p := ⟨w.heap.size, 4, none⟩) y2).trans a4; have b5 := (hb3.cell (p := ⟨w.heap.size, 5, none⟩) y2).trans a5; clear hb3 a0 a1 a2 a3 a4 a5)
          | (go_at_call 15; (with_reducible refine (HS.out _ B3.out).mono ?_); rintro e w4 ⟨a2, n2, x2, rfl, h2, hb2⟩; have HO2 := Lib.hid h2; have B2 := Lib.hid (Below.then B3.out hb2); have z2 : w.heap.size < w4.heap.size := Nat.lt_of_lt_of_le z3 hb2.size; have d0 := (hb2.cell (p := ⟨w.heap.size, 0, none⟩) z3).trans b0; have d1 := (hb2.cell (p := ⟨w.heap.size, 1, none⟩) z3).trans b1; have d2 := (hb2.cell (p := ⟨w.heap.size, 2, none⟩) z3).trans b2; have d3 := (hb2.cell (p := ⟨w.heap.size, 3, none⟩) z3).trans b3; have d4 := (hb2.cell (p := ⟨w.heap.size, 4, none⟩) z3).trans b4; have d5 := (hb2.cell (p := ⟨w.heap.size, 5, none⟩) z3).trans b5; clear h2 hb2 b0 b1 b2 b3 b4 b5)
          | (go_at_call 17; (with_reducible refine (HAS.out _).mono ?_); rintro e w2 ⟨rfl, hb2⟩; have A2 := Lib.hid (Below.then B1.out hb2); have y2 := Nat.lt_of_lt_of_le z1 hb2.size; have a0 := (hb2.cell (p := ⟨w.heap.size, 0, none⟩) z1).trans c0; have a1 := (hb2.cell (p := ⟨w.heap.size, 1, none⟩) z1).trans c1; have a2 := (hb2.cell (p := ⟨w.heap.size, 2, none⟩) z1).trans c2; have a3 := (hb2.cell (p := ⟨w.heap.size, 3, none⟩) z1).trans c3; have a4 := (hb2.cell (p := ⟨w.heap.size, 4, none⟩) z1).trans c4; have a5 := (hb2.cell (p := ⟨w.heap.size, 5, none⟩) z1).trans c5; clear hb2 c0 c1 c2 c3 c4 c5))
        have hn2 := (Rd.of_owns encE_len (by decide) HO2.out).length
        have hn2s := (Rd.of_owns encE_len (by decide) HO2.out).small
        have HN2 := Lib.hid hn2
        have HRE := Lib.hid (Rd.of_owns encE_len (by decide) HO2.out)
        have HEV2 := Lib.hid (HEV.out.ext B2.out); have HT2 := Lib.hid (HT.out.ext B2.out); have HBU2 := Lib.hid (HBU.out.ext B2.out)
        clear hn2 HH HS HV HAS HO2
        go_loopw [9] (fun i wr => ∃ k : Nat, k ≤ bN ∧ i = .int .i64 k ∧ w4 = wr) (fun i _ => bN - (intOf i).toNat)
        case atStart => exact ⟨0, Nat.zero_le _, rfl, rfl⟩
        case round =>
          obtain ⟨k, hk, rfl, rfl⟩ := hrel
          by_cases hlt : k < bN
          · obtain ⟨x, b1, o1, rfl, hb1, hx1, hx⟩ := HBU2.out.idx k hlt
            obtain ⟨u, b3, o3, pa, pn, pc, rfl, hb3, _, _, _, _, _, u5, hp, _, hg, _⟩ := HT2.out.at_ k hlt
            obtain ⟨b4, o4, ea, en, ec, rfl, hb4, hv4, hev⟩ := HEV2.out.at_ k hlt
            have hxb := HBL.out _ (List.mem_of_getElem? hx)
            by_cases h0 : x = 0
            · subst h0
              clear hp hg hev hx
              go_wp2
              go_roundw
              case rel => exact ⟨k + 1, hlt, by go_num, by first | rfl | trivial⟩
              case measure => simp [intOf]; omega
            · have h0' : (x == 0) = false := by simpa using h0
              have hbt := HBT.out k u x hg hx h0
              have hel : en = (evA R k).length := by
                have := hev.length
                unfold evAt at this
                exact this.symm
              have hup : ∀ p ∈ u.pcs, p.1 ≤ 200 := HPL.out u (List.mem_of_getElem? hg)
              have hmx := mxP_le u.pcs 0
              have hmt := mxP_top u.pcs 0 (by omega) hup
              rw [← hel] at hbt
              obtain ⟨M, hM⟩ : ∃ M, mxP u.pcs 0 = M := ⟨_, rfl⟩
              rw [hM] at hbt hmx hmt
              have hM0 := hmx.1
              have HP := Lib.hid hp
              have hpl := hp.length
              have hpsm := hp.small
              have hevs := hev.small
              have HPL2 := Lib.hid hpl
              have HBT2 := Lib.hid hbt
              have HM0 : Hid (mxP (u.pcs.drop 0) 0 = M) := Lib.hid hM
              clear hp hg hev hx hel hbt hup hmx hM h0
              go_wp2
              go_loopw [10, 11] (fun v i wr => ∃ (j : Nat) (m : Int), j ≤ pn ∧ v = .int .i64 m ∧ i = .int .i64 j ∧ 0 ≤ m ∧ mxP (u.pcs.drop j) m = M ∧ w4 = wr) (fun _ i _ => pn - (intOf i).toNat)
              case atStart => exact ⟨0, 0, Nat.zero_le _, rfl, rfl, Int.le_refl _, HM0.out, rfl⟩
              case round =>
                clear HM0
                obtain ⟨j, m, hj, rfl, rfl, hm, hMj, rfl⟩ := hrel
                by_cases hjn : j < pn
                · obtain ⟨y1, y2', b5, o5, rfl, hb5, g0, g1, _, HD⟩ := HP.out.pc_at' j hjn
                  rw [HD.out, mxP] at hMj
                  simp only [] at hMj
                  by_cases q : 0 ≤ y2'
                  · rw [if_pos q] at hMj
                    have HMJ := Lib.hid hMj
                    clear hMj HD
                    have q' : decide (0 ≤ y2') = true := by simpa using q
                    go_wp2
                    go_roundw
                    case rel => exact ⟨j + 1, max m y1, hjn, rfl, by go_num, by omega, HMJ.out, by first | rfl | trivial⟩
                    case measure => simp [intOf]; omega
                  · rw [if_neg q] at hMj
                    have HMJ := Lib.hid hMj
                    clear hMj HD
                    go_wp2
                    go_roundw
                    case rel => exact ⟨j + 1, m, hjn, rfl, by go_num, hm, HMJ.out, by first | rfl | trivial⟩
                    case measure => simp [intOf]; omega
                · rw [List.drop_of_length_le (by rw [HPL2.out]; omega), mxP] at hMj
                  subst hMj
                  clear HP HPL2 hpl
                  go_wp2
                  go_loopw [12] (fun i wr => ∃ k2 : Nat, k2 ≤ en ∧ i = .int .i64 k2 ∧ w4 = wr) (fun i _ => en - (intOf i).toNat)
                  case atStart => exact ⟨0, Nat.zero_le _, rfl, rfl⟩
                  case round =>
                    obtain ⟨k2, hk2, rfl, rfl⟩ := hrel
                    by_cases hlt2 : k2 < en
                    · have hbt := HBT2.out k2 hlt2
                      have HBT3 := Lib.hid hbt
                      clear hbt
                      go_wp2
                      go_loopw [13, 14] (fun v i wr => ∃ n : Nat, n ≤ n2 ∧ v = .int .i64 (cW k k2 (es.take n) : Nat) ∧ i = .int .i64 n ∧ cW k k2 (es.take n) ≤ n ∧ w4 = wr) (fun _ i _ => n2 - (intOf i).toNat)
                      case atStart => exact ⟨0, Nat.zero_le _, rfl, rfl, Nat.le_refl _, rfl⟩
                      case round =>
                        obtain ⟨n, hn, rfl, rfl, hcn, rfl⟩ := hrel
                        by_cases hnn : n < n2
                        · obtain ⟨e, b6, o6, rfl, hb6, hx6, _, q1, q2, _, q4⟩ := HRE.out.en_at n hnn
                          obtain ⟨em, ek, ew, ea', eb⟩ := e
                          simp only [] at q1 q2 q4
                          have hst := cW_take (i := k) (x := (k2 : Int)) hx6
                          obtain ⟨C, hC⟩ : ∃ C, cW k k2 (es.take n) = C := ⟨_, rfl⟩
                          obtain ⟨D, hD⟩ : ∃ D, cW k k2 (es.take (n + 1)) = D := ⟨_, rfl⟩
                          rw [hC, hD] at hst
                          unfold wkd at hst
                          simp only [] at hst
                          rw [hC] at hcn ⊢
                          have HD := Lib.hid hD
                          clear hC hD hx6
                          by_cases r1 : ew = 4
                          · subst r1
                            by_cases r2 : ek = (k : Int)
                            · subst r2
                              by_cases r3 : eb = (k2 : Int)
                              · subst r3
                                obtain rfl : D = C + 1 := by rw [hst]; simp
                                clear hst
                                go_wp2
                                go_roundw
                                case rel => exact ⟨n + 1, hnn, by rw [HD.out]; go_num, by go_num, by rw [HD.out]; omega, by first | rfl | trivial⟩
                                case measure => simp [intOf]; omega
                              · have r3' : (eb == (k2 : Int)) = false := by simpa using r3
                                obtain rfl : D = C := by rw [hst]; simp [r3]
                                clear hst
                                go_wp2
                                go_roundw
                                case rel => exact ⟨n + 1, hnn, by rw [HD.out], by go_num, by rw [HD.out]; omega, by first | rfl | trivial⟩
                                case measure => simp [intOf]; omega
                            · have r2' : (ek == (k : Int)) = false := by simpa using r2
                              obtain rfl : D = C := by rw [hst]; simp [r2]
                              clear hst
                              go_wp2
                              go_roundw
                              case rel => exact ⟨n + 1, hnn, by rw [HD.out], by go_num, by rw [HD.out]; omega, by first | rfl | trivial⟩
                              case measure => simp [intOf]; omega
                          · have r1' : (ew == 4) = false := by simpa using r1
                            obtain rfl : D = C := by rw [hst]; simp [r1]
                            clear hst
                            go_wp2
                            go_roundw
                            case rel => exact ⟨n + 1, hnn, by rw [HD.out], by go_num, by rw [HD.out]; omega, by first | rfl | trivial⟩
                            case measure => simp [intOf]; omega
                        · have hj2 : es.take n = es := List.take_of_length_le (by rw [HN2.out]; omega)
                          rw [hj2] at hcn ⊢
                          have hbt := HBT3.out
                          obtain ⟨C, hC⟩ : ∃ C, cW k k2 es = C := ⟨_, rfl⟩
                          rw [hC] at hbt ⊢
                          have hx0 := hxb
                          have q' : decide (x + m < (C : Int)) = false := by simp; omega
                          have wm : IntKind.i64.wrap (x + m) = x + m := IntWalk.i64_in _ (by omega)
                          clear hC hj2 hcn
                          go_wp2
                          go_roundw
                          case rel => exact ⟨k2 + 1, hlt2, by go_num, by first | rfl | trivial⟩
                          case measure => simp [intOf]; omega
                    · go_wp2
                      go_roundw
                      case rel => exact ⟨k + 1, hlt, by go_num, by first | rfl | trivial⟩
                      case measure => simp [intOf]; omega
          · go_wp2_with (go_at_call 14; (with_reducible refine (sane_any _).mono ?_); rintro e w9 ⟨rfl, hb9⟩)
            go_ret
            exact ⟨rfl, Below.then B2.out hb9⟩
      · have HRS := Lib.hid (fun w1 (hb : Below w.heap.size w w1) => rSim_bad H R t w1 (hR.ext hb) hbad)
        rw [hfr, hsl] at HH HS HV HAS HRS ⊢
        obtain ⟨tA, tN, tC, eA, eN, eC, bA, bN, bC, sA, sN, sC⟩ := H
        unfold runV at HH HS HV HAS HRS ⊢
        simp only [] at HH HS HV HAS HRS ⊢
        clear hR hS hE hB hfr hsl HR hV hbad
        go_enter Try.func6, Try.ntmps6
        go_wp2_with (first
          | (go_at_call 13; (with_reducible refine (HH.out _ (by (repeat' (first | (with_reducible exact Below.refl _ _) | (with_reducible assumption) | (with_reducible refine Below.alloc ?_ ?_ _) | (with_reducible refine Below.drew ?_) | (with_reducible refine Below.draws ?_ _) | (with_reducible refine Below.setCell ?_ ?_ _) | (refine Below.then ?_ (by with_reducible assumption)) | go_size)))).mono ?_); rintro e w1 ⟨rfl, hb1⟩; have B1 : Hid (Below w.heap.size w w1) := Lib.hid (Below.trans (by (repeat' (first | (with_reducible exact Below.refl _ _) | (with_reducible assumption) | (with_reducible refine Below.alloc ?_ ?_ _) | (with_reducible refine Below.drew ?_) | (with_reducible refine Below.draws ?_ _) | (with_reducible refine Below.setCell ?_ ?_ _) | (refine Below.then ?_ (by with_reducible assumption)) | go_size))) (hb1.mono (by simp))); have z1 : w.heap.size < w1.heap.size := Nat.lt_of_lt_of_le (by simp) hb1.size; have c0 := (hb1.cell (p := ⟨w.heap.size, 0, none⟩) (by simp)).trans (by simp [go_sem]; rfl); have c1 := (hb1.cell (p := ⟨w.heap.size, 1, none⟩) (by simp)).trans (by simp [go_sem]; rfl); have c2 := (hb1.cell (p := ⟨w.heap.size, 2, none⟩) (by simp)).trans (by simp [go_sem]; rfl); have c3 := (hb1.cell (p := ⟨w.heap.size, 3, none⟩) (by simp)).trans (by simp [go_sem]; rfl); have c4 := (hb1.cell (p := ⟨w.heap.size, 4, none⟩) (by simp)).trans (by simp [go_sem]; rfl); have c5 := (hb1.cell (p := ⟨w.heap.size, 5, none⟩) (by simp)).trans (by simp [go_sem]; rfl); clear hb1)
          | (go_at_call 19; (with_reducible refine (HV.out _ A2.out).mono ?_); rintro e w3 ⟨rfl, hb3⟩; have B3 := Lib.hid (Below.then A2.out hb3); have z3 := Nat.lt_of_lt_of_le y2 hb3.size; have b0 := (hb3.cell (p := ⟨w.heap.size, 0, none⟩) y2).trans a0; have b1 := (hb3.cell (p := ⟨w.heap.size, 1, none⟩) y2).trans a1; have b2 := (hb3.cell (p := ⟨w.heap.size, 2, none⟩) y2).trans a2; have b3 := (hb3.cell (p := ⟨w.heap.size, 3, none⟩) y2).trans a3; have b4 := (hb3.cell (p := ⟨w.heap.size, 4, none⟩) y2).trans a4; have b5 := (hb3.cell (p := ⟨w.heap.size, 5, none⟩) y2).trans a5; clear hb3 a0 a1 a2 a3 a4 a5)
          | (go_at_call 15; (with_reducible refine (HS.out _ B3.out).mono ?_); rintro e w4 ⟨a2, n2, x2, rfl, h2, hb2⟩; have HO2 := Lib.hid h2; have B2 := Lib.hid (Below.then B3.out hb2); have z2 : w.heap.size < w4.heap.size := Nat.lt_of_lt_of_le z3 hb2.size; have d0 := (hb2.cell (p := ⟨w.heap.size, 0, none⟩) z3).trans b0; have d1 := (hb2.cell (p := ⟨w.heap.size, 1, none⟩) z3).trans b1; have d2 := (hb2.cell (p := ⟨w.heap.size, 2, none⟩) z3).trans b2; have d3 := (hb2.cell (p := ⟨w.heap.size, 3, none⟩) z3).trans b3; have d4 := (hb2.cell (p := ⟨w.heap.size, 4, none⟩) z3).trans b4; have d5 := (hb2.cell (p := ⟨w.heap.size, 5, none⟩) z3).trans b5; clear h2 hb2 b0 b1 b2 b3 b4 b5)
          | (go_at_call 17; (with_reducible refine (HAS.out _).mono ?_); rintro e w2 ⟨rfl, hb2⟩; have A2 := Lib.hid (Below.then B1.out hb2); have y2 := Nat.lt_of_lt_of_le z1 hb2.size; have a0 := (hb2.cell (p := ⟨w.heap.size, 0, none⟩) z1).trans c0; have a1 := (hb2.cell (p := ⟨w.heap.size, 1, none⟩) z1).trans c1; have a2 := (hb2.cell (p := ⟨w.heap.size, 2, none⟩) z1).trans c2; have a3 := (hb2.cell (p := ⟨w.heap.size, 3, none⟩) z1).trans c3; have a4 := (hb2.cell (p := ⟨w.heap.size, 4, none⟩) z1).trans c4; have a5 := (hb2.cell (p := ⟨w.heap.size, 5, none⟩) z1).trans c5; clear hb2 c0 c1 c2 c3 c4 c5)
          | (go_at_call 17; (with_reducible refine (HAS.out _).mono ?_); rintro e w5 ⟨rfl, hb5⟩; have A5 := Lib.hid (Below.then B2.out hb5); clear hb5)
          | (go_at_call 16; (with_reducible refine (HRS.out _ A5.out).mono ?_); rintro e w6 ⟨rfl, hb4⟩; have B4 := Lib.hid (Below.then A5.out hb4); clear hb4)
          | (go_at_call 14; (with_reducible refine (sane_any _).mono ?_); rintro e w9 ⟨rfl, hb9⟩))
        go_ret
        exact ⟨rfl, Below.then B4.out hb9⟩
  · rw [hfr, hsl] at HH ⊢
    obtain ⟨tA, tN, tC, eA, eN, eC, bA, bN, bC, sA, sN, sC⟩ := H
    unfold runV at HH ⊢
    simp only [] at HH ⊢
    clear hR hS hE hB HS HR hfr hsl HV HAS hV
    go_enter Try.func6, Try.ntmps6
    go_wp2_with (first
      | (go_at_call 13; (with_reducible refine (HH.out _ (by (repeat' (first | (with_reducible exact Below.refl _ _) | (with_reducible assumption) | (with_reducible refine Below.alloc ?_ ?_ _) | (with_reducible refine Below.drew ?_) | (with_reducible refine Below.draws ?_ _) | (with_reducible refine Below.setCell ?_ ?_ _) | (refine Below.then ?_ (by with_reducible assumption)) | go_size)))).mono ?_); rintro e w1 ⟨rfl, hb1⟩; have B1 : Hid (Below w.heap.size w w1) := Lib.hid (Below.trans (by (repeat' (first | (with_reducible exact Below.refl _ _) | (with_reducible assumption) | (with_reducible refine Below.alloc ?_ ?_ _) | (with_reducible refine Below.drew ?_) | (with_reducible refine Below.draws ?_ _) | (with_reducible refine Below.setCell ?_ ?_ _) | (refine Below.then ?_ (by with_reducible assumption)) | go_size))) (hb1.mono (by simp))); have z1 : w.heap.size < w1.heap.size := Nat.lt_of_lt_of_le (by simp) hb1.size; have c0 := (hb1.cell (p := ⟨w.heap.size, 0, none⟩) (by simp)).trans (by simp [go_sem]; rfl); have c1 := (hb1.cell (p := ⟨w.heap.size, 1, none⟩) (by simp)).trans (by simp [go_sem]; rfl); have c2 := (hb1.cell (p := ⟨w.heap.size, 2, none⟩) (by simp)).trans (by simp [go_sem]; rfl); have c3 := (hb1.cell (p := ⟨w.heap.size, 3, none⟩) (by simp)).trans (by simp [go_sem]; rfl); have c4 := (hb1.cell (p := ⟨w.heap.size, 4, none⟩) (by simp)).trans (by simp [go_sem]; rfl); have c5 := (hb1.cell (p := ⟨w.heap.size, 5, none⟩) (by simp)).trans (by simp [go_sem]; rfl); clear hb1)
      | (go_at_call 14; (with_reducible refine (sane_any _).mono ?_); rintro e w9 ⟨rfl, hb9⟩))
    go_ret
    exact ⟨rfl, Below.then B1.out hb9⟩
end Go.Proofs.Ytlhnhmimhpcoaaa
