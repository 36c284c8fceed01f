/- The contracts of Tasks, Ahead, Ceiling of the reference. The conditions: the tasks read as named. -/
import Derived.Test.YtlhnhmimhpcoaaaTkMem
namespace Go.Proofs.Ytlhnhmimhpcoaaa
open Go.RowKit
set_option linter.unusedSimpArgs false
set_option linter.unusedVariables false
theorem Rd.pc_at {w : World} {a : Option Addr} {n : Nat} {ps : List P2} (h : Rd w a n 2 (ps.map enc2)) (k : Nat) (hk : k < n) : ∃ (x y : Int) (b off : Nat), a = some ⟨b, off, none⟩ ∧ b < w.heap.size ∧
    w.cell? ⟨b, off + k * 2, none⟩ = some (.int .i64 x) ∧ w.cell? ⟨b, off + k * 2 + 1, none⟩ = some (.int .i64 y) ∧ ps[k]? = some (x, y) ∧ Hid (ps.drop k = (x, y) :: ps.drop (k + 1)) := by
  obtain ⟨hl, b, off, rfl, hb, h1, h2⟩ := h.two k hk
  exact ⟨_, _, b, off, rfl, hb, h1, h2, List.getElem?_eq_getElem hl, List.drop_eq_getElem_cons hl⟩
theorem priI_lt {L : List Ta} {k : Nat} {t : Ta} (h : L[k]? = some t) : priI L (k : Int) = t.pri := priI_of h
theorem rahead_any (a : Option Addr) (n c : Nat) (L : List Ta) (x y : Int) (w : World) (hL : RdL w a n L) (hx : 0 ≤ x ∧ x < n) (hy : 0 ≤ y ∧ y < n) :
    Calls Try.prog 68 #[.slice a n c, .int .i64 x, .int .i64 y] w fun e w' => e = .returned (.bool (aheadB L x y)) ∧ Below w.heap.size w w' := by
  obtain ⟨i, rfl⟩ := Int.eq_ofNat_of_zero_le hx.1
  obtain ⟨j, rfl⟩ := Int.eq_ofNat_of_zero_le hy.1
  have hi : i < n := by omega
  have hj : j < n := by omega
  obtain ⟨t, b, off, pa, pn, pc, rfl, hb, c0, _, _, _, _, _, _, _, hg, _⟩ := hL.at_ i hi
  obtain ⟨u, b2, off2, pa2, pn2, pc2, e2, _, d0, _, _, _, _, _, _, _, hg2, _⟩ := hL.at_ j hj
  simp at e2
  obtain ⟨rfl, rfl⟩ := e2
  have hs := hL.small
  obtain ⟨R, hR⟩ : ∃ R, aheadB L i j = R := ⟨_, rfl⟩
  rw [hR]
  have hA : aheadB L i j = true ↔ (u.pri < t.pri ∨ (t.pri = u.pri ∧ (i : Int) < (j : Int))) := by rw [aheadB_iff, Ahead, priI_of hg, priI_of hg2]
  rw [hR] at hA
  clear hL hx hy hg hg2
  by_cases h1 : u.pri < t.pri
  · obtain rfl : R = true := hA.2 (.inl h1)
    clear hR hA
    go_enter Try.func68, Try.ntmps68
    go_wp2_with (refine wp_region_later_lit (by kernel_rfl) (by kernel_rfl) ?_; (repeat (go_big_quiet_step (fail))); refine wpQuiet_nil ?_; intro w1 hb1)
    go_ret
    exact ⟨rfl, hb1⟩
  · have h1' : decide (u.pri < t.pri) = false := by simpa using h1
    by_cases h2 : t.pri = u.pri
    · have h2' : (t.pri == u.pri) = true := by simpa using h2
      have h3' : decide ((i : Int) < (j : Int)) = R := by
        cases R
        · exact decide_eq_false (fun q => by have := hA.2 (.inr ⟨h2, q⟩); simp at this)
        · exact decide_eq_true (by rcases hA.1 rfl with q | q; exact absurd q h1; exact q.2)
      have h3 : decide (i < j) = R := by rw [← h3', decide_eq_decide]; omega
      clear hR hA
      go_enter Try.func68, Try.ntmps68
      go_wp2_with (refine wp_region_later_lit (by kernel_rfl) (by kernel_rfl) ?_; (repeat (go_big_quiet_step (fail))); refine wpQuiet_nil ?_; intro w1 hb1)
      go_ret
      exact ⟨rfl, hb1⟩
    · have h2' : (t.pri == u.pri) = false := by simpa using h2
      obtain rfl : R = false := by
        cases R
        · rfl
        · rcases hA.1 rfl with q | q
          · exact absurd q h1
          · exact absurd q.1 h2
      clear hR hA
      go_enter Try.func68, Try.ntmps68
      go_wp2_with (refine wp_region_later_lit (by kernel_rfl) (by kernel_rfl) ?_; (repeat (go_big_quiet_step (fail))); refine wpQuiet_nil ?_; intro w1 hb1)
      go_ret
      exact ⟨rfl, hb1⟩
theorem rahead_is {a : Option Addr} {n c : Nat} {L : List Ta} {x y : Int} {w : World} {b : Bool} (hL : RdL w a n L) (hx : 0 ≤ x ∧ x < n) (hy : 0 ≤ y ∧ y < n) (h : aheadB L x y = b) :
    Calls Try.prog 68 #[.slice a n c, .int .i64 x, .int .i64 y] w fun e w' => e = .returned (.bool b) ∧ Below w.heap.size w w' := by subst h; exact rahead_any a n c L x y w hL hx hy
theorem pieceB_no {x y : Int} (h : x < 1 ∨ 200 < x ∨ y < -1 ∨ 6 ≤ y) : pieceB (x, y) = false := by
  unfold pieceB; rw [inB_eq, inB_eq]; simp; omega
theorem pieceB_yes {x y : Int} (h : ¬ (x < 1 ∨ 200 < x ∨ y < -1 ∨ 6 ≤ y)) : pieceB (x, y) = true := by
  unfold pieceB; rw [inB_eq, inB_eq]; simp; omega
theorem taskB_no {t : Ta} {n : Nat} (hn : t.pcs.length = n) (h : t.pri < 0 ∨ 99 < t.pri ∨ n < 1 ∨ 8 < n) : taskB t = false := by
  rw [taskB_eq hn, inB_eq, inB_eq]; simp; omega
theorem taskB_yes {t : Ta} {n : Nat} (hn : t.pcs.length = n) (h : ¬ (t.pri < 0 ∨ 99 < t.pri ∨ n < 1 ∨ 8 < n)) : taskB t = t.pcs.all pieceB := by
  rw [taskB_eq hn, inB_iff.2 (show (0 : Int) ≤ t.pri ∧ t.pri ≤ 99 by omega), inB_iff.2 (show (1 : Int) ≤ n ∧ (n : Int) ≤ 8 by omega)]; simp
set_option maxRecDepth 10000 in
set_option maxHeartbeats 2000000 in
theorem rTasks_any (a : Option Addr) (n c : Nat) (L : List Ta) (w : World) (hL : RdL w a n L) :
    Calls Try.prog 67 #[.slice a n c] w fun e w' => e = .returned (.bool (rightB L)) ∧ Below w.heap.size w w' := by
  have hll := hL.length
  have hs := hL.small
  obtain ⟨R, hR⟩ : ∃ R, rightB L = R := ⟨_, rfl⟩
  rw [hR]
  unfold rightB at hR
  rw [hll] at hR
  have HR := Lib.hid hL
  have HLL := Lib.hid hll
  clear hL hll
  by_cases h5 : 5 < n
  · have h5' : (5 : Int) < n := by omega
    obtain rfl : R = false := by rw [← hR, decide_eq_false (by omega), Bool.false_and]
    clear hR
    go_enter Try.func67, Try.ntmps67
    go_wp2
    go_ret
    exact ⟨rfl, Below.refl _ _⟩
  · have h5' : decide ((5 : Int) < n) = false := by simp; omega
    have h5'' : decide (5 < n) = false := by simp; omega
    rw [decide_eq_true (by omega), Bool.true_and] at hR
    have HA : Hid ((L.drop 0).all taskB = R) := Lib.hid hR
    clear hR h5
    go_enter Try.func67, Try.ntmps67
    go_wp2
    go_loopw [3] (fun i wr => ∃ k : Nat, k ≤ n ∧ i = .int .i64 k ∧ (L.drop k).all taskB = R ∧ Below w.heap.size w wr) (fun i _ => n - (intOf i).toNat)
    case atStart => exact ⟨0, Nat.zero_le _, rfl, HA.out, Below.refl _ _⟩
    case round =>
      obtain ⟨k, hk, rfl, he, hB⟩ := hrel
      have HE := Lib.hid he; have HB := Lib.hid hB
      clear he hB HA
      by_cases hlt : k < n
      · obtain ⟨t, b, off, pa, pn, pc, rfl, hb, c0, c1, c2, c3, c4, c5, hp, _, hg, HD⟩ := (HR.out.ext HB.out).at_ k hlt
        have hE := HE.out
        rw [HD.out, List.all_cons] at hE
        have hpl := hp.length
        have hps := hp.small
        have HPL := Lib.hid hpl
        have HP := Lib.hid hp
        clear hg HD hp
        by_cases q1 : t.pri < 0
        · obtain rfl : R = false := by rw [← hE, taskB_no hpl (by omega), Bool.false_and]
          clear hE hpl
          go_wp2
          go_ret
          exact ⟨rfl, HB.out⟩
        · have q1' : decide (t.pri < 0) = false := by simpa using q1
          by_cases q2 : 99 < t.pri
          · obtain rfl : R = false := by rw [← hE, taskB_no hpl (by omega), Bool.false_and]
            clear hE hpl
            go_wp2
            go_ret
            exact ⟨rfl, HB.out⟩
          · have q2' : decide (99 < t.pri) = false := by simpa using q2
            by_cases q3 : pn < 1
            · obtain rfl : R = false := by rw [← hE, taskB_no hpl (by omega), Bool.false_and]
              have q3' : (pn : Int) < 1 := by omega
              clear hE hpl
              go_wp2
              go_ret
              exact ⟨rfl, HB.out⟩
            · have q3' : decide ((pn : Int) < 1) = false := by simp; omega
              have q3'' : decide (pn < 1) = false := by simp; omega
              by_cases q4 : 8 < pn
              · obtain rfl : R = false := by rw [← hE, taskB_no hpl (by omega), Bool.false_and]
                have q4' : (8 : Int) < (pn : Int) := by omega
                clear hE hpl
                go_wp2
                go_ret
                exact ⟨rfl, HB.out⟩
              · have q4' : decide ((8 : Int) < (pn : Int)) = false := by simp; omega
                have q4'' : decide (8 < pn) = false := by simp; omega
                rw [taskB_yes hpl (by omega)] at hE
                have HA2 : Hid (((t.pcs.drop 0).all pieceB && (L.drop (k + 1)).all taskB) = R) := Lib.hid hE
                clear hE hpl q1 q2 q3 q4
                go_wp2
                go_loopw [4] (fun i wr' => ∃ j : Nat, j ≤ pn ∧ i = .int .i64 j ∧ ((t.pcs.drop j).all pieceB && (L.drop (k + 1)).all taskB) = R ∧ Below wr.heap.size wr wr') (fun i _ => pn - (intOf i).toNat)
                case atStart => exact ⟨0, Nat.zero_le _, rfl, HA2.out, Below.refl _ _⟩
                case round =>
                  obtain ⟨j, hj, rfl, he, hB2⟩ := hrel
                  have HE2 := Lib.hid he; have HB2 := Lib.hid hB2
                  have d5 := (hB2.cell (p := ⟨b, off + k * 6 + 5, none⟩) hb).trans c5
                  clear he hB2 HA2
                  by_cases hjt : j < pn
                  · obtain ⟨x, y, b1, off1, rfl, hb1, e1, e2, hpg, HD2⟩ := (HP.out.ext HB2.out).pc_at j hjt
                    have hE := HE2.out
                    rw [HD2.out, List.all_cons] at hE
                    clear hpg HD2
                    by_cases p1 : x < 1
                    · obtain rfl : R = false := by rw [← hE, pieceB_no (by omega)]; simp
                      clear hE
                      go_wp2
                      go_ret
                      exact ⟨rfl, Below.then HB.out (Below.alloc HB2.out HB2.out.size _)⟩
                    · have p1' : decide (x < 1) = false := by simpa using p1
                      by_cases p2 : 200 < x
                      · obtain rfl : R = false := by rw [← hE, pieceB_no (by omega)]; simp
                        clear hE
                        go_wp2
                        go_ret
                        exact ⟨rfl, Below.then HB.out (Below.alloc HB2.out HB2.out.size _)⟩
                      · have p2' : decide (200 < x) = false := by simpa using p2
                        by_cases p3 : y < -1
                        · obtain rfl : R = false := by rw [← hE, pieceB_no (by omega)]; simp
                          clear hE
                          go_wp2
                          go_ret
                          exact ⟨rfl, Below.then HB.out (Below.alloc HB2.out HB2.out.size _)⟩
                        · have p3' : decide (y < -1) = false := by simpa using p3
                          by_cases p4 : 6 ≤ y
                          · obtain rfl : R = false := by rw [← hE, pieceB_no (by omega)]; simp
                            clear hE
                            go_wp2
                            go_ret
                            exact ⟨rfl, Below.then HB.out (Below.alloc HB2.out HB2.out.size _)⟩
                          · have p4' : decide (6 ≤ y) = false := by simpa using p4
                            rw [pieceB_yes (by omega), Bool.true_and] at hE
                            have HE3 := Lib.hid hE
                            clear hE p1 p2 p3 p4
                            go_wp2
                            go_roundw
                            case rel => exact ⟨j + 1, by omega, by go_num, HE3.out, Below.alloc HB2.out HB2.out.size _⟩
                            case measure => simp [intOf]; omega
                  · have hE := HE2.out
                    rw [drop_end HPL.out (by omega), List.all_nil, Bool.true_and] at hE
                    have HE3 := Lib.hid hE
                    clear hE
                    go_wp2
                    go_roundw
                    case rel => exact ⟨k + 1, by omega, by go_num, HE3.out, Below.then HB.out HB2.out⟩
                    case measure => simp [intOf]; omega
      · have hE := HE.out
        rw [drop_end HLL.out (by omega), List.all_nil] at hE
        subst hE
        go_wp2
        go_ret
        exact ⟨rfl, HB.out⟩
theorem rTasks_is {a : Option Addr} {n c : Nat} {L : List Ta} {w : World} {b : Bool} (hL : RdL w a n L) (h : rightB L = b) : Calls Try.prog 67 #[.slice a n c] w fun e w' => e = .returned (.bool b) ∧ Below w.heap.size w w' := by subst h; exact rTasks_any a n c L w hL
theorem taAt_drop {L : List Ta} {k : Nat} {t : Ta} (h : L[k]? = some t) : taAt L (k : Int) = t := taAt_of h
theorem ceilFrom_step {L : List Ta} {lock : Int} {f i : Nat} {b R : Int} (h : ceilFrom L lock (f + 1) i b = R) : ceilFrom L lock f (i + 1) (ceilP L lock i b (taAt L i).pcs) = R := h
set_option maxRecDepth 10000 in
set_option maxHeartbeats 2000000 in
theorem rCeil_any (a : Option Addr) (n c : Nat) (L : List Ta) (lock : Int) (w : World) (hL : RdL w a n L) :
    Calls Try.prog 69 #[.slice a n c, .int .i64 lock] w fun e w' => e = .returned (.int .i64 (ceilG L lock)) ∧ Below w.heap.size w w' := by
  have hll := hL.length
  have hs := hL.small
  obtain ⟨R, hR⟩ : ∃ R, ceilG L lock = R := ⟨_, rfl⟩
  rw [hR]
  unfold ceilG at hR
  rw [hll] at hR
  have HR := Lib.hid hL
  have HA : Hid (ceilFrom L lock (n - 0) 0 (-1) = R) := Lib.hid hR
  clear hL hll hR
  go_enter Try.func69, Try.ntmps69
  go_wp2
  go_loopw [5, 6] (fun v i wr => ∃ (k : Nat) (b : Int), k ≤ n ∧ v = .int .i64 b ∧ i = .int .i64 k ∧ -1 ≤ b ∧ b < n ∧ ceilFrom L lock (n - k) k b = R ∧ Below w.heap.size w wr) (fun _ i _ => n - (intOf i).toNat)
  case atStart => exact ⟨0, -1, Nat.zero_le _, rfl, rfl, by omega, by omega, HA.out, Below.refl _ _⟩
  case round =>
    obtain ⟨k, bst, hk, rfl, rfl, hb0, hb1, he, hB⟩ := hrel
    have HE := Lib.hid he; have HB := Lib.hid hB
    clear he hB HA
    by_cases hlt : k < n
    · obtain ⟨t, b, off, pa, pn, pc, rfl, hb, c0, c1, c2, c3, c4, c5, hp, _, hg, HD⟩ := (HR.out.ext HB.out).at_ k hlt
      have hE := ceilFrom_step (f := n - (k + 1)) (i := k) (b := bst) (L := L) (lock := lock) (R := R) (by rw [show n - (k + 1) + 1 = n - k by omega]; exact HE.out)
      rw [taAt_drop hg] at hE
      have hps := hp.small
      have HPL := Lib.hid hp.length
      have HP := Lib.hid hp
      have HA2 : Hid (ceilFrom L lock (n - (k + 1)) (k + 1) (ceilP L lock k bst (t.pcs.drop 0)) = R) := Lib.hid hE
      clear hg HD hp hE HE
      go_wp2
      go_loopw [5, 7] (fun v i wr' => ∃ (j : Nat) (b : Int), j ≤ pn ∧ v = .int .i64 b ∧ i = .int .i64 j ∧ -1 ≤ b ∧ b < n ∧ ceilFrom L lock (n - (k + 1)) (k + 1) (ceilP L lock k b (t.pcs.drop j)) = R ∧ Below wr.heap.size wr wr') (fun _ i _ => pn - (intOf i).toNat)
      case atStart => exact ⟨0, bst, Nat.zero_le _, rfl, rfl, hb0, hb1, HA2.out, Below.refl _ _⟩
      case round =>
        obtain ⟨j, bs2, hj, rfl, rfl, hd0, hd1, he, hB2⟩ := hrel
        have HE2 := Lib.hid he; have HB2 := Lib.hid hB2
        have d5 := (hB2.cell (p := ⟨b, off + k * 6 + 5, none⟩) hb).trans c5
        clear he hB2 HA2
        by_cases hjt : j < pn
        · obtain ⟨x, y, b1, off1, rfl, hbb, e1, e2, hpg, HD2⟩ := (HP.out.ext HB2.out).pc_at j hjt
          have hE := HE2.out
          rw [HD2.out, ceilP] at hE
          simp only [] at hE
          clear hpg HD2
          by_cases p1 : y = lock
          · have p1' : (y == lock) = true := by simpa using p1
            by_cases p2 : bs2 < 0
            · rw [if_pos ⟨p1, .inl p2⟩] at hE
              have HE3 := Lib.hid hE
              clear hE p1
              go_wp2
              go_roundw
              case rel => exact ⟨j + 1, k, by omega, rfl, by go_num, by omega, by omega, HE3.out, HB2.out⟩
              case measure => simp [intOf]; omega
            · have p2' : decide (bs2 < 0) = false := by simpa using p2
              cases hq : aheadB L k bs2
              · rw [if_neg (by rw [hq]; rintro ⟨_, q | q⟩; exact p2 q; simp at q)] at hE
                have HE3 := Lib.hid hE; have HQ := Lib.hid hq
                clear hE p1 hq
                go_wp2_with (go_at_call 68; (with_reducible refine (rahead_is ((HR.out.ext HB.out).ext HB2.out) ⟨by omega, by omega⟩ ⟨by omega, by omega⟩ HQ.out).mono ?_); rintro e w1 ⟨rfl, hb1⟩)
                go_roundw
                case rel => exact ⟨j + 1, bs2, by omega, rfl, by go_num, by omega, by omega, HE3.out, Below.then HB2.out hb1⟩
                case measure => simp [intOf]; omega
              · rw [if_pos ⟨p1, .inr hq⟩] at hE
                have HE3 := Lib.hid hE; have HQ := Lib.hid hq
                clear hE p1 hq
                go_wp2_with (go_at_call 68; (with_reducible refine (rahead_is ((HR.out.ext HB.out).ext HB2.out) ⟨by omega, by omega⟩ ⟨by omega, by omega⟩ HQ.out).mono ?_); rintro e w1 ⟨rfl, hb1⟩)
                go_roundw
                case rel => exact ⟨j + 1, k, by omega, rfl, by go_num, by omega, by omega, HE3.out, Below.then HB2.out hb1⟩
                case measure => simp [intOf]; omega
          · have p1' : (y == lock) = false := by simpa using p1
            rw [if_neg (fun q => p1 q.1)] at hE
            have HE3 := Lib.hid hE
            clear hE p1
            go_wp2
            go_roundw
            case rel => exact ⟨j + 1, bs2, by omega, rfl, by go_num, by omega, by omega, HE3.out, HB2.out⟩
            case measure => simp [intOf]; omega
        · have hE := HE2.out
          rw [drop_end HPL.out (by omega), ceilP] at hE
          have HE3 := Lib.hid hE
          clear hE
          go_wp2
          go_roundw
          case rel => exact ⟨k + 1, bs2, by omega, rfl, by go_num, by omega, by omega, HE3.out, Below.then HB.out HB2.out⟩
          case measure => simp [intOf]; omega
    · have hE := HE.out
      rw [show n - k = 0 by omega, ceilFrom] at hE
      subst hE
      go_wp2
      go_ret
      exact ⟨rfl, HB.out⟩
theorem rCeil_is {a : Option Addr} {n c : Nat} {L : List Ta} {lock : Int} {w : World} {b : Int} (hL : RdL w a n L) (h : ceilG L lock = b) : Calls Try.prog 69 #[.slice a n c, .int .i64 lock] w fun e w' => e = .returned (.int .i64 b) ∧ Below w.heap.size w w' := by subst h; exact rCeil_any a n c L lock w hL
end Go.Proofs.Ytlhnhmimhpcoaaa
