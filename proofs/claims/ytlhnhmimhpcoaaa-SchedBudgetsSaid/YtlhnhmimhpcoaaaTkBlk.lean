/- The contracts of blockers, Blockers, Blocking of the program. The conditions: the tasks read as named. -/
import Derived.Test.YtlhnhmimhpcoaaaTkProg
namespace Go.Proofs.Ytlhnhmimhpcoaaa
open Go.RowKit
set_option linter.unusedSimpArgs false
set_option linter.unusedVariables false
/-- who is not ahead, by the ranks -/
theorem cnt_le {L : List Ta} {x y : Int} (h0 : 0 ≤ x) (h1 : x < L.length) (h2 : 0 ≤ y) (h3 : y < L.length) : decide ((cnt L x : Int) ≤ (cnt L y : Int)) = !aheadB L y x := by
  have h := cnt_ahead (L := L) h2 h3 h0 h1
  cases q : aheadB L y x
  · have : ¬ cnt L y < cnt L x := fun k => aheadB_no.1 q (h.1 k)
    exact decide_eq_true (by omega)
  · have : cnt L y < cnt L x := h.2 (aheadB_iff.1 q)
    exact decide_eq_false (by omega)
theorem cnt_le' {L : List Ta} {x y : Int} {b : Bool} (h0 : 0 ≤ x) (h1 : x < L.length) (h2 : 0 ≤ y) (h3 : y < L.length) (h : aheadB L y x = b) : decide (cnt L x ≤ cnt L y) = !b := by
  rw [← h, ← cnt_le h0 h1 h2 h3, decide_eq_decide]; omega
def OutB (w : World) (xs : List P2) (e : Ending) (w' : World) : Prop :=
  ∃ a n c, e = .returned (.slice a n c) ∧ w'.ownsRow w.heap.size 44 2 (.slice a n c) n (xs.flatMap enc2) ∧ Below w.heap.size w w'
theorem ofL_at {w : World} {a : Option Addr} {n : Nat} {L : List Ta} (h : Rd w a n 1 ((ofL L).map enc1)) (hl : L.length = n) {k : Nat} (hk : k < n) : ∃ (b off : Nat), a = some ⟨b, off, none⟩ ∧ b < w.heap.size ∧ w.cell? ⟨b, off + k, none⟩ = some (.int .i64 (cnt L k)) := by
  obtain ⟨x, b, off, h1, h2, h3, h4⟩ := h.idx k hk
  rw [ofL_get (by omega)] at h4
  obtain rfl : (cnt L k : Int) = x := by simpa using h4
  exact ⟨b, off, h1, h2, h3⟩
set_option maxRecDepth 10000 in
set_option maxHeartbeats 8000000 in
theorem blockers_any (a : Option Addr) (n c : Nat) (L : List Ta) (q : Nat) (w : World) (hL : RdL w a n L) (hv : Right L) (hq : q < n) :
    Calls Try.prog 76 #[.slice a n c, .int .i64 (q : Nat)] w (OutB w (blockL L q)) := by
  have hll := hL.length
  have hs := hL.small
  have hn5 := hv.len
  rw [hll] at hn5
  obtain ⟨R, hR⟩ : ∃ R, blockL L q = R := ⟨_, rfl⟩
  have hRl : R.length ≤ 40 := by rw [← hR]; exact blockL_len hv _
  have HA : Hid ([] ++ blkFrom L q (n - 0) 0 = R) := Lib.hid (by rw [← hR, blockL, hll]; rfl)
  obtain ⟨f, hf⟩ : ∃ f : Nat → Int, f = fun (k : Nat) => ceilG L (k : Int) := ⟨_, rfl⟩
  have HF := Lib.hid hf
  have HLL := Lib.hid hll
  have HV := Lib.hid hv
  have HR := Lib.hid hL
  have HCP : Hid (∀ (k : Nat) (u : Ta) (j : Nat) (p : P2), L[k]? = some u → u.pcs[j]? = some p → 0 ≤ p.2 → ∃ (m c : Nat), p.2 = m ∧ m < 6 ∧ f m = c ∧ c < n ∧ ceilG L m = c) := Lib.hid (fun k u j p hk hj h0 => by
    obtain ⟨m, hm⟩ := Int.eq_ofNat_of_zero_le h0
    have h3 := (hv.piece u (List.mem_of_getElem? hk) p (List.mem_of_getElem? hj)).2
    have hc := isCeil L p.2
    have hge : 0 ≤ ceilG L p.2 := by
      rcases Int.lt_or_le (ceilG L p.2) 0 with h | h
      · exact absurd ⟨p, by rw [taAt_of hk]; exact List.mem_of_getElem? hj, rfl⟩ (hc.none_ h k (List.getElem?_eq_some_iff.1 hk).1)
      · exact h
    have hlt := hc.hi
    rw [hll] at hlt
    obtain ⟨c, hcc⟩ := Int.eq_ofNat_of_zero_le hge
    exact ⟨m, c, hm, by omega, by rw [hf, ← hcc, hm], by omega, by rw [← hm]; exact hcc⟩)
  rw [hR]
  clear hL hv hll hR hf
  have e1 := EB
  go_enter Try.func76, Try.ntmps76
  go_wp2_with (go_at_call 106; (with_reducible refine (ranksOf_any _ _ _ L _ HR.out HV.out).mono ?_); rw [OutK_eq HF.out]; rintro e w1 ⟨a1, c1, rfl, ho1, hb1⟩; have HO1 := Lib.hid (ownsI_rd ho1); have B1 := Lib.hid hb1; clear ho1 hb1)
  obtain ⟨W, hW⟩ : ∃ W, W = w1.alloc (.cells #[.slice a1 n c1, .int .i64 (f 0), .int .i64 (f 1), .int .i64 (f 2), .int .i64 (f 3), .int .i64 (f 4), .int .i64 (f 5)] 135) := ⟨_, rfl⟩
  have hb1W : Below w1.heap.size w1 W := by rw [hW]; exact Below.alloc (Below.refl _ _) (Nat.le_refl _) _
  have HBW : Hid (Below w.heap.size w W) := Lib.hid (Below.then B1.out hb1W)
  have HO2 := Lib.hid (HO1.out.ext hb1W)
  obtain ⟨bx, hbx⟩ : ∃ b, b = w1.heap.size := ⟨_, rfl⟩
  have hbxW : bx < W.heap.size := by rw [hbx, hW]; simp
  have HX0 : Hid (W.cell? ⟨bx, 0, none⟩ = some (.slice a1 n c1)) := Lib.hid (by rw [hbx, hW]; simp [go_sem])
  have HXS : Hid (∀ j, j < 6 → W.cell? ⟨bx, 1 + j, none⟩ = some (.int .i64 (f j))) := Lib.hid (fun j hj => by rw [hbx, hW]; rcases six_cases hj with rfl | rfl | rfl | rfl | rfl | rfl <;> simp [go_sem])
  have hB1s := HBW.out.size
  rw [← hW, ← hbx]
  clear hW hbx hb1W HO1
  go_loopw [5, 15] (fun v i wr => ∃ (k : Nat) (T : List P2) (a' : Option Addr) (c' : Nat), k ≤ n ∧ v = .slice a' T.length c' ∧ i = .int .i64 k ∧ wr.ownsRow W.heap.size 44 2 (.slice a' T.length c') T.length (T.flatMap enc2) ∧ T ++ blkFrom L q (n - k) k = R ∧ Below W.heap.size W wr) (fun _ i _ => n - (intOf i).toNat)
  case atStart => exact ⟨0, [], none, 0, Nat.zero_le _, rfl, rfl, World.ownsRow_nil _ _ _ _, HA.out, Below.refl _ _⟩
  case round =>
    clear HA
    obtain ⟨k, T, a', c', hk, rfl, rfl, ho, he, hB⟩ := hrel
    have HO := Lib.hid ho; have HE := Lib.hid he; have HB := Lib.hid hB
    clear ho he hB
    by_cases hlt : k < n
    · obtain ⟨u, b, off, pa, pn, pc, rfl, hb, k0, k1, k2, k3, k4, k5, hp, _, hg, HD⟩ := HR.out.at_ k hlt
      have hbw : Below w.heap.size w wr := (by repeat (first | (with_reducible exact Below.refl _ _) | (refine Below.then ?_ (Hid.out (by with_reducible assumption)))))
      have c0 := (hbw.cell (p := ⟨b, off + k * 6, none⟩) hb).trans k0
      have c1 := (hbw.cell (p := ⟨b, off + k * 6 + 1, none⟩) hb).trans k1
      have c2 := (hbw.cell (p := ⟨b, off + k * 6 + 2, none⟩) hb).trans k2
      have c3 := (hbw.cell (p := ⟨b, off + k * 6 + 3, none⟩) hb).trans k3
      have c4 := (hbw.cell (p := ⟨b, off + k * 6 + 4, none⟩) hb).trans k4
      have c5 := (hbw.cell (p := ⟨b, off + k * 6 + 5, none⟩) hb).trans k5
      clear k0 k1 k2 k3 k4 k5 hbw
      obtain ⟨b4, o4, rfl, hb4, d1⟩ := ofL_at (HO2.out.ext HB.out) HLL.out hlt
      obtain ⟨b5, o5, e5, hb5, d2⟩ := ofL_at (HO2.out.ext HB.out) HLL.out hq
      simp at e5
      obtain ⟨rfl, rfl⟩ := e5
      have x0 := (HB.out.cell (p := ⟨bx, 0, none⟩) hbxW).trans HX0.out
      have hbxr : bx < wr.heap.size := Nat.lt_of_lt_of_le hbxW HB.out.size
      have hE := HE.out
      rw [show n - k = (n - (k + 1)) + 1 by omega, blkFrom_step, taAt_of hg] at hE
      have hps := hp.small
      have HPL := Lib.hid hp.length
      have HP := Lib.hid hp
      have HCK : Hid (∀ (j : Nat) (p : P2), u.pcs[j]? = some p → 0 ≤ p.2 → ∃ (m c : Nat), p.2 = m ∧ m < 6 ∧ f m = c ∧ c < n ∧ ceilG L m = c) := Lib.hid (fun j p => HCP.out k u j p hg)
      obtain ⟨tst, htst⟩ : ∃ x, aheadB L q k = x := ⟨_, rfl⟩
      have hts := cnt_le' (L := L) (x := k) (y := q) (by omega) (by rw [HLL.out]; omega) (by omega) (by rw [HLL.out]; omega) htst
      have hts' : decide ((cnt L k : Int) ≤ (cnt L q : Int)) = !tst := by rw [← hts, decide_eq_decide]; omega
      rw [htst] at hE
      clear htst hg HD hp
      cases tst
      · have HE2 : Hid (T ++ blkFrom L q (n - (k + 1)) (k + 1) = R) := Lib.hid (by simpa using hE)
        clear hE HE
        simp only [Bool.not_false] at hts hts'
        have hts2 : cnt L k ≤ cnt L q := by simpa using hts
        go_wp2_with (refine wp_region_later_lit (by kernel_rfl) (by kernel_rfl) ?_; (repeat (go_big_quiet_step (fail))); refine wpQuiet_nil ?_; intro w3 hb3)
        go_roundw
        case rel => exact ⟨k + 1, T, a', c', by omega, rfl, by go_num, owns_ext (owns_ext HO.out (Below.alloc (Below.refl _ _) (Nat.le_refl _) _)) hb3, HE2.out, Below.then (Below.alloc HB.out HB.out.size _) hb3⟩
        case measure => simp [intOf]; omega
      · simp only [Bool.not_true] at hts hts'
        have hts2 : ¬ cnt L k ≤ cnt L q := by simpa using hts
        have HE2 : Hid (T ++ (blkP L q k 0 (u.pcs.drop 0) ++ blkFrom L q (n - (k + 1)) (k + 1)) = R) := Lib.hid (by simpa using hE)
        clear hE HE
        go_wp2_with ((refine wp_region_later_lit (by kernel_rfl) (by kernel_rfl) ?_; (repeat (go_big_quiet_step (fail))); refine wpQuiet_nil ?_; intro w3 hb3); have t5 := (hb3.cell (p := ⟨wr.heap.size, 5, none⟩) (by simp)).trans (show _ = some (.slice pa pn pc) by simp [go_sem]); have HO3 := Lib.hid (owns_ext (owns_ext HO.out (Below.alloc (Below.refl _ _) (Nat.le_refl _) _)) hb3); have HB3 : Hid (Below wr.heap.size wr w3) := Lib.hid (Below.then (Below.alloc (Below.refl _ _) (Nat.le_refl _) _) hb3); clear hb3)
        go_loopw [5, 34] (fun v i wr' => ∃ (j : Nat) (T : List P2) (a' : Option Addr) (c' : Nat), j ≤ pn ∧ v = .slice a' T.length c' ∧ i = .int .i64 j ∧ wr'.ownsRow W.heap.size 44 2 (.slice a' T.length c') T.length (T.flatMap enc2) ∧ T ++ (blkP L q k j (u.pcs.drop j) ++ blkFrom L q (n - (k + 1)) (k + 1)) = R ∧ Below W.heap.size W wr') (fun _ i _ => pn - (intOf i).toNat)
        case atStart => exact ⟨0, T, a', c', Nat.zero_le _, rfl, rfl, HO3.out, HE2.out, (by repeat (first | (with_reducible exact Below.refl _ _) | (refine Below.then ?_ (Hid.out (by with_reducible assumption)))))⟩
        case round =>
          clear HE2 HO HO3 HB3 t5 c0 c1 c2 c3 c4 c5 d1 d2 x0 hbxr hb hb4 hb5
          obtain ⟨j, T, a', c', hj, rfl, rfl, ho, he, hB2⟩ := hrel
          have HO := Lib.hid ho; have HE2 := Lib.hid he; have HB2 := Lib.hid hB2
          have hTl : T.length ≤ 40 := by have := congrArg List.length he; simp at this; omega
          clear ho he hB2
          by_cases hjt : j < pn
          · have hbw : Below w.heap.size w wr := (by repeat (first | (with_reducible exact Below.refl _ _) | (refine Below.then ?_ (Hid.out (by with_reducible assumption)))))
            obtain ⟨x, y, b1, off1, rfl, hb1, e2, e3, hpg, HD2⟩ := (HP.out.ext hbw).pc_at j hjt
            have hck := HCK.out j (x, y) hpg
            simp only [] at hck
            have hE := HE2.out
            rw [HD2.out, blkP] at hE
            simp only [] at hE
            clear hpg HD2 hbw
            by_cases p1 : 0 ≤ y
            · obtain ⟨m, cx, rfl, hm6, hfm, hcn, hceil⟩ := hck p1
              rw [hceil] at hE
              have xm := (HB2.out.cell (p := ⟨bx, 1 + m, none⟩) hbxW).trans (HXS.out m hm6)
              rw [hfm] at xm
              have x0 := (HB2.out.cell (p := ⟨bx, 0, none⟩) hbxW).trans HX0.out
              have hbxr : bx < wr.heap.size := Nat.lt_of_lt_of_le hbxW HB2.out.size
              obtain ⟨b6, o6, e6, hb6, d1⟩ := ofL_at (HO2.out.ext HB2.out) HLL.out hcn
              obtain ⟨b7, o7, e7, hb7, d2⟩ := ofL_at (HO2.out.ext HB2.out) HLL.out hq
              simp at e6 e7
              obtain ⟨rfl, rfl⟩ := e6
              obtain ⟨rfl, rfl⟩ := e7
              obtain ⟨t2, ht2⟩ : ∃ x, aheadB L q cx = x := ⟨_, rfl⟩
              have hu := cnt_le' (L := L) (x := cx) (y := q) (by omega) (by rw [HLL.out]; omega) (by omega) (by rw [HLL.out]; omega) ht2
              have hu' : decide ((cnt L cx : Int) ≤ (cnt L q : Int)) = !t2 := by rw [← hu, decide_eq_decide]; omega
              rw [ht2] at hE
              clear ht2 hceil hfm hck
              have HOx := Lib.hid (owns_ext HO.out (Below.alloc (Below.refl _ _) (Nat.le_refl _) (.cells #[.int .i64 x, .int .i64 (m : Int)] 52)))
              cases t2
              · rw [if_pos ⟨p1, rfl⟩] at hE
                have HE3 : Hid ((T ++ [((k : Int), (j : Int))]) ++ (blkP L q k (j + 1) (u.pcs.drop (j + 1)) ++ blkFrom L q (n - (k + 1)) (k + 1)) = R) := Lib.hid (by rw [← hE]; simp)
                clear hE HE2
                simp only [Bool.not_false] at hu hu'
                have hu2 : cnt L cx ≤ cnt L q := by simpa using hu
                go_wp2_with (first
                  | ((refine wp_region_later_lit (by kernel_rfl) (by kernel_rfl) ?_; (repeat (go_big_quiet_step (fail))); refine wpQuiet_nil ?_; intro w9 hb9); have HO6 := Lib.hid (owns_ext HOx.out hb9); have HB6 : Hid (Below wr.heap.size wr w9) := Lib.hid (Below.then (Below.alloc (Below.refl _ _) (Nat.le_refl _) _) hb9); have hz6 : W.heap.size ≤ w9.heap.size := (show Below W.heap.size W w9 from (by repeat (first | (with_reducible exact Below.refl _ _) | (refine Below.then ?_ (Hid.out (by with_reducible assumption)))))).size)
                  | (at_builtin; refine wpList_push (B := W.heap.size) rfl _ _ _ rfl e1 rfl HO6.out rfl rfl (by intro u hu; simp at hu; rcases hu with rfl | rfl <;> rfl) (by omega) (by decide) hz6 ?_; intro a8 c8 w8 hown8 hb8; have HO8 := Lib.hid (ownsP_snoc hown8); have HB8 := Lib.hid hb8; clear hown8 hb8))
                go_roundw
                case rel => exact ⟨j + 1, T ++ [((k : Int), (j : Int))], a8, c8, by omega, by first | rfl | simp, by go_num, by first | exact HO8.out | (rw [List.length_append]; exact HO8.out), HE3.out, (show Below W.heap.size W w9 from (by repeat (first | (with_reducible exact Below.refl _ _) | (refine Below.then ?_ (Hid.out (by with_reducible assumption)))))).trans HB8.out⟩
                case measure => simp [intOf]; omega
              · rw [if_neg (by rintro ⟨_, q⟩; simp at q)] at hE
                have HE3 := Lib.hid hE
                clear hE HE2
                simp only [Bool.not_true] at hu hu'
                have hu2 : ¬ cnt L cx ≤ cnt L q := by simpa using hu
                go_wp2_with (refine wp_region_later_lit (by kernel_rfl) (by kernel_rfl) ?_; (repeat (go_big_quiet_step (fail))); refine wpQuiet_nil ?_; intro w9 hb9)
                go_roundw
                case rel => exact ⟨j + 1, T, a', c', by omega, rfl, by go_num, owns_ext HOx.out (by assumption), HE3.out, Below.then (Below.alloc HB2.out HB2.out.size _) (by assumption)⟩
                case measure => simp [intOf]; omega
            · have p1' : decide (0 ≤ y) = false := by simpa using p1
              rw [if_neg (fun q => p1 q.1)] at hE
              have HE3 := Lib.hid hE
              have HOx := Lib.hid (owns_ext HO.out (Below.alloc (Below.refl _ _) (Nat.le_refl _) (.cells #[.int .i64 x, .int .i64 y] 52)))
              clear hE HE2 hck
              go_wp2_with (refine wp_region_later_lit (by kernel_rfl) (by kernel_rfl) ?_; (repeat (go_big_quiet_step (fail))); refine wpQuiet_nil ?_; intro w9 hb9)
              go_roundw
              case rel => exact ⟨j + 1, T, a', c', by omega, rfl, by go_num, owns_ext HOx.out (by assumption), HE3.out, Below.then (Below.alloc HB2.out HB2.out.size _) (by assumption)⟩
              case measure => simp [intOf]; omega
          · have hE := HE2.out
            rw [drop_end HPL.out (by omega), blkP, List.nil_append] at hE
            have HE3 := Lib.hid hE
            clear hE
            go_wp2
            go_roundw
            case rel => exact ⟨k + 1, T, a', c', by omega, rfl, by go_num, HO.out, HE3.out, HB2.out⟩
            case measure => simp [intOf]; omega
    · have hE := HE.out
      rw [show n - k = 0 by omega, blkFrom, List.append_nil] at hE
      subst hE
      go_wp2
      go_ret
      exact ⟨_, _, _, rfl, owns_mono HO.out hB1s, (by repeat (first | (with_reducible exact Below.refl _ _) | (refine Below.then ?_ (Hid.out (by with_reducible assumption)))))⟩
set_option maxRecDepth 10000 in
set_option maxHeartbeats 2000000 in
theorem Blocking_any (a : Option Addr) (n c : Nat) (L : List Ta) (t : Int) (w : World) (hL : RdL w a n L) :
    Calls Try.prog 36 #[.slice a n c, .int .i64 t] w fun e w' => e = rII (blkgR L t).1 (blkgR L t).2 ∧ Below w.heap.size w w' := by
  have hll := hL.length
  have hs := hL.small
  have HR := Lib.hid hL
  unfold blkgR
  cases hv : isTk L t
  · have HV := Lib.hid hv
    clear hL hv hll
    go_enter Try.func36, Try.ntmps36
    go_wp2_with (go_at_call 75; (with_reducible refine (isTask_is HR.out HV.out).mono ?_); rintro e w1 ⟨rfl, hb1⟩)
    go_ret2
    exact ⟨rII_eq rfl rfl, by (repeat' (first | (with_reducible exact Below.refl _ _) | (with_reducible assumption) | (with_reducible refine Below.alloc ?_ ?_ _) | (with_reducible refine Below.drew ?_) | (with_reducible refine Below.draws ?_ _) | (with_reducible refine Below.setCell ?_ ?_ _) | (refine Below.then ?_ (by with_reducible assumption)) | go_size))⟩
  · have HV := Lib.hid hv
    obtain ⟨hr, h0, h1⟩ := isTk_iff.1 hv
    rw [hll] at h1
    obtain ⟨q, rfl⟩ := Int.eq_ofNat_of_zero_le h0
    have hqn : q < n := by omega
    have HVR := Lib.hid (right_of hr)
    rw [if_pos rfl]
    obtain ⟨B, hB⟩ : ∃ B, blockL L q = B := ⟨_, rfl⟩
    have HI : Hid (∀ b ∈ B, IsBlk L q b) := Lib.hid (fun b hb => blockL_mem (by rw [hB]; exact hb))
    have hBl : B.length ≤ 40 := by rw [← hB]; exact blockL_len (right_of hr) q
    have HRR := Lib.hid hB
    obtain ⟨R, hR⟩ : ∃ R, blockN L q = R := ⟨_, rfl⟩
    have HA : Hid (maxB L 0 (B.drop 0) = R) := Lib.hid (by rw [← hR, ← hB]; rfl)
    simp only []
    rw [hR]
    clear hL hv hll hB hR
    go_enter Try.func36, Try.ntmps36
    go_wp2_with (first
      | (go_at_call 75; (with_reducible refine (isTask_is HR.out HV.out).mono ?_); rintro e w1 ⟨rfl, hb1⟩; have B1 := Lib.hid hb1; clear hb1)
      | (go_at_call 76; (with_reducible refine (blockers_any _ _ _ L q _ (HR.out.ext B1.out) HVR.out hqn).mono ?_); rw [HRR.out]; rintro e w2 ⟨a2, n2, c2, rfl, ho2, hb2⟩; have HO := Lib.hid (ownsP_rd ho2); have B2 := Lib.hid hb2; have hn2 : B.length = n2 := (ownsP_rd ho2).length; clear ho2 hb2))
    have hn40 : n2 ≤ 40 := by omega
    go_loopw [6, 17] (fun v i wr => ∃ (k : Nat) (m : Int), k ≤ n2 ∧ v = .int .i64 m ∧ i = .int .i64 k ∧ maxB L m (B.drop k) = R ∧ Below w2.heap.size w2 wr) (fun _ i _ => n2 - (intOf i).toNat)
    case atStart => exact ⟨0, 0, Nat.zero_le _, rfl, rfl, HA.out, Below.refl _ _⟩
    case round =>
      clear HA
      obtain ⟨k, m, hk, rfl, rfl, he, hB⟩ := hrel
      have HE := Lib.hid he; have HB := Lib.hid hB
      clear he hB
      by_cases hlt : k < n2
      · obtain ⟨b, g1, off1, rfl, hg1, f1, f2, hbg, HD⟩ := (HO.out.ext HB.out).piece k hlt
        obtain ⟨j, i, g, off, pb, poff, pn, pc, p, rfl, hj, hi, rfl, hg, hpb, d5, d1, d2, ht, hps⟩ := (HR.out.ext (show Below w.heap.size w wr from (by repeat (first | (with_reducible exact Below.refl _ _) | (refine Below.then ?_ (Hid.out (by with_reducible assumption))))))).blk (HI.out b (List.mem_of_getElem? hbg))
        have hE := HE.out
        rw [HD.out, maxB_cons, ht] at hE
        obtain ⟨x, hx⟩ : ∃ x, p.1 = x := ⟨_, rfl⟩
        rw [hx] at hE d1
        simp only [] at f1 f2
        have HE2 := Lib.hid hE
        clear hbg HD ht hE hx
        go_wp2_with (refine wp_region_later_lit (by kernel_rfl) (by kernel_rfl) ?_; (repeat (go_big_quiet_step (fail))); refine wpQuiet_nil ?_; intro w3 hb3)
        go_roundw
        case rel => exact ⟨k + 1, max m x, by omega, rfl, by go_num, HE2.out, Below.then (Below.alloc HB.out HB.out.size _) hb3⟩
        case measure => simp [intOf]; omega
      · have hE := HE.out
        rw [List.drop_of_length_le (by omega)] at hE
        obtain rfl : m = R := hE
        go_wp2
        go_ret2
        exact ⟨rII_eq rfl rfl, (by repeat (first | (with_reducible exact Below.refl _ _) | (refine Below.then ?_ (Hid.out (by with_reducible assumption)))))⟩
end Go.Proofs.Ytlhnhmimhpcoaaa
