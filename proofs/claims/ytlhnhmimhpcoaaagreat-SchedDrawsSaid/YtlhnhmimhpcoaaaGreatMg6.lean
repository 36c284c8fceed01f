/- The contracts of isTask, Ranks, Ceilings, Raised of the program. The conditions: the tasks read as named. The contracts of blockers, Blockers, Blocking of the program. The conditions: the tasks read as named. The contracts of Valid and cost of response and of its reference. The conditions: the tasks read as named. The contract of Valid of a run (program). The conditions: the run reads as named. append of one element whose block lies behind other new blocks. No condition: a plain lemma. -/
import Derived.Test.YtlhnhmimhpcoaaaGreatMg4
import Derived.Test.YtlhnhmimhpcoaaaGreatMg5
import Derived.Deep.RegionWith
import Derived.Deep.Cut
import Derived.BigRegion
import Derived.IntWalk
import Derived.Test.YtlhnhmimhpcoaaaGreatMg1
namespace Go.Proofs.YtlhnhmimhpcoaaaGreat
open Go.RowKit
set_option linter.unusedSimpArgs false
set_option linter.unusedVariables false
theorem below_al {w w' : World} (h : Below w.heap.size w w') (o : Obj) : Below w.heap.size w (w'.alloc o) := Below.alloc h h.size o
theorem ranked_is {a : Option Addr} {n c : Nat} {L : List Ta} {w : World} {rk : List Int} (hL : RdL w a n L) (hn : n < 20) (h : rankL L = rk) : Calls Tryz.prog 78 #[.slice a n c] w (OutN w.heap.size n 3 1 w (rk.flatMap enc1)) := by subst h; exact ranked_any a n c L w hL hn
theorem isTask_any (a : Option Addr) (n c : Nat) (L : List Ta) (t : Int) (w : World) (hL : RdL w a n L) :
    Calls Tryz.prog 133 #[.slice a n c, .int .i64 t] w fun e w' => e = .returned (.bool (isTk L t)) ∧ Below w.heap.size w w' := by
  have hll := hL.length
  have hs := hL.small
  have HR := Lib.hid hL
  unfold isTk
  rw [hll]
  cases hv : rightB L
  all_goals
    have HV := Lib.hid hv
    have q2 : inB t 0 ((n : Int) - 1) = (decide (0 ≤ t) && decide (t < n)) := by rw [inB_eq]; congr 1; rw [decide_eq_decide]; omega
    rw [q2]
    clear hL hv hll q2
    go_enter Tryz.func133, Tryz.ntmps133
    go_wp2_with (go_at_call 77; (with_reducible refine (right_is HR.out HV.out).mono ?_); rintro e w1 ⟨rfl, hb1⟩)
    all_goals
      go_ret
      exact ⟨ret_bool (by simp [*] <;> (first | omega | (intros; omega))), by (repeat' (first | (with_reducible exact Below.refl _ _) | (with_reducible assumption) | (with_reducible refine Below.alloc ?_ ?_ _) | (with_reducible refine Below.drew ?_) | (with_reducible refine Below.draws ?_ _) | (with_reducible refine Below.setCell ?_ ?_ _) | (refine Below.then ?_ (by with_reducible assumption)) | go_size))⟩
theorem isTask_is {a : Option Addr} {n c : Nat} {L : List Ta} {t : Int} {w : World} {b : Bool} (hL : RdL w a n L) (h : isTk L t = b) :
    Calls Tryz.prog 133 #[.slice a n c, .int .i64 t] w fun e w' => e = .returned (.bool b) ∧ Below w.heap.size w w' := by subst h; exact isTask_any a n c L t w hL
theorem Ranks_any (a : Option Addr) (n c : Nat) (L : List Ta) (w : World) (hL : RdL w a n L) :
    Calls Tryz.prog 40 #[.slice a n c] w (OutTE w.heap.size w (ranksR L).1 (ranksR L).2) := by
  have hll := hL.length
  have HR := Lib.hid hL
  unfold ranksR
  cases hv : rightB L
  · have HV := Lib.hid hv
    clear hL hv hll
    go_enter Tryz.func40, Tryz.ntmps40
    go_wp2_with (go_at_call 77; (with_reducible refine (right_is HR.out HV.out).mono ?_); rintro e w1 ⟨rfl, hb1⟩)
    go_ret2
    exact .none (by (repeat' (first | (with_reducible exact Below.refl _ _) | (with_reducible assumption) | (with_reducible refine Below.alloc ?_ ?_ _) | (with_reducible refine Below.drew ?_) | (with_reducible refine Below.draws ?_ _) | (with_reducible refine Below.setCell ?_ ?_ _) | (refine Below.then ?_ (by with_reducible assumption)) | go_size)))
  · have HV := Lib.hid hv
    have h5 := (right_of hv).len
    rw [hll] at h5
    rw [if_pos rfl]
    obtain ⟨rk, hrk⟩ : ∃ R, rankL L = R := ⟨_, rfl⟩
    have HRK := Lib.hid hrk
    simp only []
    rw [hrk]
    clear hL hv hll hrk
    go_enter Tryz.func40, Tryz.ntmps40
    go_wp2_with (first
      | (go_at_call 77; (with_reducible refine (right_is HR.out HV.out).mono ?_); rintro e w1 ⟨rfl, hb1⟩; have B1 := Lib.hid hb1; clear hb1)
      | (go_at_call 78; (with_reducible refine (ranked_is (HR.out.ext B1.out) (by omega) HRK.out).mono ?_); rintro e w2 ⟨a2, c2, rfl, ho2, hb2⟩; have HO2 := Lib.hid ho2; have B2 := Lib.hid hb2; clear ho2 hb2))
    go_ret2
    exact ⟨_, _, _, rfl, owns_mono HO2.out B1.out.size, (by repeat (first | (with_reducible exact Below.refl _ _) | (refine Below.then ?_ (Hid.out (by with_reducible assumption)))))⟩
theorem OutK_eq {w : World} {n : Nat} {L : List Ta} {f : Nat → Int} (hf : f = fun (k : Nat) => ceilG L (k : Int)) : OutK w n L = fun e w' => ∃ a c, e = .returned (.agg #[.slice a n c, .int .i64 (f 0), .int .i64 (f 1), .int .i64 (f 2), .int .i64 (f 3), .int .i64 (f 4), .int .i64 (f 5)]) ∧ w'.ownsRow w.heap.size 3 1 (.slice a n c) n ((ofL L).flatMap enc1) ∧ Below w.heap.size w w' := by subst hf; rfl
def OutRE (w : World) (xs : List Int) (er : Int) (e : Ending) (w' : World) : Prop :=
  ∃ a n c, e = .returned (.tuple #[.slice a n c, .int .i64 er]) ∧ Rd w' a n 1 (xs.map enc1) ∧ Below w.heap.size w w'
theorem rd_six {w : World} {q : Nat} {xs : List Int} (hl : xs.length = 6) (hq : q < w.heap.size) (hc : ∀ j, j < 6 → ∃ x, xs[j]? = some x ∧ w.cell? ⟨q, 1 + j, none⟩ = some (.int .i64 x)) : Rd w (some ⟨q, 1, none⟩) 6 1 (xs.map enc1) := by
  refine ⟨by simp [hl], by omega, fun _ => ⟨q, 1, rfl, hq, ?_⟩⟩
  intro k hk i hi
  have h6 : k < 6 := by simpa [hl] using hk
  obtain ⟨x, hx, h⟩ := hc k h6
  obtain ⟨h1, h2⟩ := List.getElem?_eq_some_iff.1 hx
  obtain rfl : i = 0 := by simp [enc1] at hi; exact hi
  simp [enc1, h, h2]
theorem rk_field (a : Option Addr) (n c : Nat) (x0 x1 x2 x3 x4 x5 : Int) (w : World) :
    (Instr.field 171 (.agg #[.slice a n c, .int .i64 x0, .int .i64 x1, .int .i64 x2, .int .i64 x3, .int .i64 x4, .int .i64 x5]) 1).run Tryz.prog w = .ok (.agg #[.int .i64 x0, .int .i64 x1, .int .i64 x2, .int .i64 x3, .int .i64 x4, .int .i64 x5]) w := by
  kernel_rfl
theorem rk_index (f : Nat → Int) (m : Nat) (hm : m < 6) (w : World) :
    (Instr.index 169 (.agg #[.int .i64 (f 0), .int .i64 (f 1), .int .i64 (f 2), .int .i64 (f 3), .int .i64 (f 4), .int .i64 (f 5)]) (.int .i64 (m : Int))).run Tryz.prog w = .ok (.int .i64 (f m)) w := by
  rcases six_cases hm with rfl | rfl | rfl | rfl | rfl | rfl <;> kernel_rfl
set_option maxRecDepth 10000 in
set_option maxHeartbeats 1000000 in
theorem Raised_any (a : Option Addr) (n c : Nat) (L : List Ta) (t p : Int) (w : World) (hL : RdL w a n L) :
    Calls Tryz.prog 127 #[.slice a n c, .int .i64 t, .int .i64 p] w fun e w' => e = rII (raisedR L t p).1 (raisedR L t p).2 ∧ Below w.heap.size w w' := by
  have hll := hL.length
  have hs := hL.small
  have HR := Lib.hid hL
  unfold raisedR
  cases hv : isTk L t
  · have HV := Lib.hid hv
    rw [Bool.false_and]
    clear hL hv hll
    go_enter Tryz.func127, Tryz.ntmps127
    go_wp2_with (go_at_call 133; (with_reducible refine (isTask_is HR.out HV.out).mono ?_); rintro e w1 ⟨rfl, hb1⟩; have B1 := Lib.hid hb1; clear hb1)
    go_ret2
    exact ⟨rII_eq rfl rfl, B1.out⟩
  · have HV := Lib.hid hv
    rw [Bool.true_and]
    obtain ⟨hr, h0, h1⟩ := isTk_iff.1 hv
    have HVR := Lib.hid (right_of hr)
    rw [hll] at h1
    obtain ⟨q, rfl⟩ := Int.eq_ofNat_of_zero_le h0
    have hqn : q < n := by omega
    obtain ⟨u, b, off, pa, pn, pc, rfl, hb, _, _, _, _, _, c5, hp, _, hg, _⟩ := hL.at_ q hqn
    rw [taAt_of hg, hp.length]
    have hps := hp.small
    have C5 : Hid (∀ w1 : World, Below w.heap.size w w1 → w1.cell? ⟨b, off + q * 6 + 5, none⟩ = some (.slice pa pn pc)) := Lib.hid (fun w1 h => (h.cell (p := ⟨b, off + q * 6 + 5, none⟩) hb).trans c5)
    by_cases h2 : p < 0
    · rw [if_neg (by rw [inB_iff]; omega)]
      clear hL hv hll hg hp c5
      go_enter Tryz.func127, Tryz.ntmps127
      go_wp2_with (go_at_call 133; (with_reducible refine (isTask_is HR.out HV.out).mono ?_); rintro e w1 ⟨rfl, hb1⟩; have B1 := Lib.hid hb1; have c5 := C5.out _ hb1; clear hb1)
      go_ret2
      exact ⟨rII_eq rfl rfl, B1.out⟩
    · have h2' : decide (p < 0) = false := by simpa using h2
      by_cases h3 : (pn : Int) ≤ p
      · rw [if_neg (by rw [inB_iff]; omega)]
        clear hL hv hll hg hp c5
        go_enter Tryz.func127, Tryz.ntmps127
        go_wp2_with (go_at_call 133; (with_reducible refine (isTask_is HR.out HV.out).mono ?_); rintro e w1 ⟨rfl, hb1⟩; have B1 := Lib.hid hb1; have c5 := C5.out _ hb1; clear hb1)
        go_ret2
        exact ⟨rII_eq rfl rfl, B1.out⟩
      · obtain ⟨j, rfl⟩ := Int.eq_ofNat_of_zero_le (Int.not_lt.1 h2)
        have hjn : j < pn := by omega
        have h3' : decide ((pn : Int) ≤ (j : Int)) = false := by simpa using h3
        have h3'' : decide (pn ≤ j) = false := by simp; omega
        obtain ⟨v, b1, off1, rfl, hb1, e1, e2, hpg, _⟩ := hp.piece j hjn
        have hyv := (HVR.out.piece u (List.mem_of_getElem? hg) v (List.mem_of_getElem? hpg)).2
        rw [if_pos (by rw [inB_iff]; omega), Int.toNat_natCast, hpg]
        obtain ⟨x, y⟩ := v
        have E2 : Hid (∀ w1 : World, Below w.heap.size w w1 → w1.cell? ⟨b1, off1 + j * 2 + 1, none⟩ = some (.int .i64 y)) := Lib.hid (fun w1 h => (h.cell (p := ⟨b1, off1 + j * 2 + 1, none⟩) hb1).trans e2)
        have E1 : Hid (∀ w1 : World, Below w.heap.size w w1 → w1.cell? ⟨b1, off1 + j * 2, none⟩ = some (.int .i64 x)) := Lib.hid (fun w1 h => (h.cell (p := ⟨b1, off1 + j * 2, none⟩) hb1).trans e1)
        simp only [Option.getD_some] at hyv ⊢
        clear hL hv hll hg hp c5 e1 e2 hpg
        by_cases h4 : y < 0
        · rw [if_pos h4]
          have h4' : decide (0 ≤ y) = false := by simpa using h4
          go_enter Tryz.func127, Tryz.ntmps127
          go_wp2_with (go_at_call 133; (with_reducible refine (isTask_is HR.out HV.out).mono ?_); rintro e w1 ⟨rfl, hb1⟩; have B1 := Lib.hid hb1; have c5 := C5.out _ hb1; have c6 := E2.out _ hb1; have c7 := E1.out _ hb1; clear hb1)
          go_ret2
          exact ⟨rII_eq rfl rfl, below_al (by repeat (first | (with_reducible exact Below.refl _ _) | (refine Below.then ?_ (Hid.out (by with_reducible assumption))))) _⟩
        · rw [if_neg h4]
          obtain ⟨m, rfl⟩ := Int.eq_ofNat_of_zero_le (show 0 ≤ y by omega)
          have hm6 : m < 6 := by omega
          obtain ⟨f, hf⟩ : ∃ f : Nat → Int, f = fun (k : Nat) => ceilG L (k : Int) := ⟨_, rfl⟩
          have HF := Lib.hid hf
          have hfm : ceilG L (m : Int) = f m := by rw [hf]
          rw [hfm]
          clear hfm hf
          go_enter Tryz.func127, Tryz.ntmps127
          have hfl := rk_field
          have hix := rk_index f m hm6
          go_upto_region 5 with (go_at_call 133; (with_reducible refine (isTask_is HR.out HV.out).mono ?_); rintro e w1 ⟨rfl, hb1⟩; have B1 := Lib.hid hb1; have c5 := C5.out _ hb1; have c6 := E2.out _ hb1; have c7 := E1.out _ hb1; clear hb1)
          go_region_with (go_at_call 134; refine (ranksOf_any _ _ _ L _ ?_ HVR.out).mono ?_; exact (HR.out.ext (below_al (by repeat (first | (with_reducible exact Below.refl _ _) | (refine Below.then ?_ (Hid.out (by with_reducible assumption))))) _).drew); rw [OutK_eq HF.out]; rintro e w2 ⟨a2, c2, rfl, ho2, hb2⟩; have B2 := Lib.hid hb2; have z2 := (hb2.cell (p := ⟨w1.heap.size, 1, none⟩) (by simp)).trans (by simp [go_sem]; rfl); clear ho2 hb2)
          all_goals
            go_wp2_with fail
            go_ret2
            exact ⟨rII_eq rfl rfl, Below.then (below_al B1.out _).drew B2.out⟩
end Go.Proofs.YtlhnhmimhpcoaaaGreat
namespace Go.Proofs.YtlhnhmimhpcoaaaGreat
open Go.RowKit
set_option linter.unusedSimpArgs false
set_option linter.unusedVariables false
/-- who is not ahead, by the ranks -/
theorem cnt_le {L : List Ta} {x y : Int} (h0 : 0 ≤ x) (h1 : x < L.length) (h2 : 0 ≤ y) (h3 : y < L.length) : decide ((cnt L x : Int) ≤ (cnt L y : Int)) = !aheadB L y x := by
  have h := cnt_ahead (L := L) h2 h3 h0 h1
  cases q : aheadB L y x
  · have : ¬ cnt L y < cnt L x := fun k => aheadB_no.1 q (h.1 k)
    exact decide_eq_true (by omega)
  · have : cnt L y < cnt L x := h.2 (aheadB_iff.1 q)
    exact decide_eq_false (by omega)
theorem cnt_le' {L : List Ta} {x y : Int} {b : Bool} (h0 : 0 ≤ x) (h1 : x < L.length) (h2 : 0 ≤ y) (h3 : y < L.length) (h : aheadB L y x = b) : decide (cnt L x ≤ cnt L y) = !b := by
  rw [← h, ← cnt_le h0 h1 h2 h3, decide_eq_decide]; omega
def OutB (w : World) (xs : List P2) (e : Ending) (w' : World) : Prop :=
  ∃ a n c, e = .returned (.slice a n c) ∧ w'.ownsRow w.heap.size 53 2 (.slice a n c) n (xs.flatMap enc2) ∧ Below w.heap.size w w'
theorem ofL_at {w : World} {a : Option Addr} {n : Nat} {L : List Ta} (h : Rd w a n 1 ((ofL L).map enc1)) (hl : L.length = n) {k : Nat} (hk : k < n) : ∃ (b off : Nat), a = some ⟨b, off, none⟩ ∧ b < w.heap.size ∧ w.cell? ⟨b, off + k, none⟩ = some (.int .i64 (cnt L k)) := by
  obtain ⟨x, b, off, h1, h2, h3, h4⟩ := h.idx k hk
  rw [ofL_get (by omega)] at h4
  obtain rfl : (cnt L k : Int) = x := by simpa using h4
  exact ⟨b, off, h1, h2, h3⟩
set_option maxRecDepth 10000 in
set_option maxHeartbeats 8000000 in
theorem blockers_any (a : Option Addr) (n c : Nat) (L : List Ta) (q : Nat) (w : World) (hL : RdL w a n L) (hv : Right L) (hq : q < n) :
    Calls Tryz.prog 144 #[.slice a n c, .int .i64 (q : Nat)] w (OutB w (blockL L q)) := by
  have hll := hL.length
  have hs := hL.small
  have hn5 := hv.len
  rw [hll] at hn5
  obtain ⟨R, hR⟩ : ∃ R, blockL L q = R := ⟨_, rfl⟩
  have hRl : R.length ≤ 40 := by rw [← hR]; exact blockL_len hv _
  have HA : Hid ([] ++ blkFrom L q (n - 0) 0 = R) := Lib.hid (by rw [← hR, blockL, hll]; rfl)
  obtain ⟨f, hf⟩ : ∃ f : Nat → Int, f = fun (k : Nat) => ceilG L (k : Int) := ⟨_, rfl⟩
  have HF := Lib.hid hf
  have HLL := Lib.hid hll
  have HV := Lib.hid hv
  have HR := Lib.hid hL
  have HCP : Hid (∀ (k : Nat) (u : Ta) (j : Nat) (p : P2), L[k]? = some u → u.pcs[j]? = some p → 0 ≤ p.2 → ∃ (m c : Nat), p.2 = m ∧ m < 6 ∧ f m = c ∧ c < n ∧ ceilG L m = c) := Lib.hid (fun k u j p hk hj h0 => by
    obtain ⟨m, hm⟩ := Int.eq_ofNat_of_zero_le h0
    have h3 := (hv.piece u (List.mem_of_getElem? hk) p (List.mem_of_getElem? hj)).2
    have hc := isCeil L p.2
    have hge : 0 ≤ ceilG L p.2 := by
      rcases Int.lt_or_le (ceilG L p.2) 0 with h | h
      · exact absurd ⟨p, by rw [taAt_of hk]; exact List.mem_of_getElem? hj, rfl⟩ (hc.none_ h k (List.getElem?_eq_some_iff.1 hk).1)
      · exact h
    have hlt := hc.hi
    rw [hll] at hlt
    obtain ⟨c, hcc⟩ := Int.eq_ofNat_of_zero_le hge
    exact ⟨m, c, hm, by omega, by rw [hf, ← hcc, hm], by omega, by rw [← hm]; exact hcc⟩)
  rw [hR]
  clear hL hv hll hR hf
  have e1 := EB
  go_enter Tryz.func144, Tryz.ntmps144
  go_wp2_with (go_at_call 134; (with_reducible refine (ranksOf_any _ _ _ L _ HR.out HV.out).mono ?_); rw [OutK_eq HF.out]; rintro e w1 ⟨a1, c1, rfl, ho1, hb1⟩; have HO1 := Lib.hid (ownsI_rd ho1); have B1 := Lib.hid hb1; clear ho1 hb1)
  obtain ⟨W, hW⟩ : ∃ W, W = w1.alloc (.cells #[.slice a1 n c1, .int .i64 (f 0), .int .i64 (f 1), .int .i64 (f 2), .int .i64 (f 3), .int .i64 (f 4), .int .i64 (f 5)] 171) := ⟨_, rfl⟩
  have hb1W : Below w1.heap.size w1 W := by rw [hW]; exact Below.alloc (Below.refl _ _) (Nat.le_refl _) _
  have HBW : Hid (Below w.heap.size w W) := Lib.hid (Below.then B1.out hb1W)
  have HO2 := Lib.hid (HO1.out.ext hb1W)
  obtain ⟨bx, hbx⟩ : ∃ b, b = w1.heap.size := ⟨_, rfl⟩
  have hbxW : bx < W.heap.size := by rw [hbx, hW]; simp
  have HX0 : Hid (W.cell? ⟨bx, 0, none⟩ = some (.slice a1 n c1)) := Lib.hid (by rw [hbx, hW]; simp [go_sem])
  have HXS : Hid (∀ j, j < 6 → W.cell? ⟨bx, 1 + j, none⟩ = some (.int .i64 (f j))) := Lib.hid (fun j hj => by rw [hbx, hW]; rcases six_cases hj with rfl | rfl | rfl | rfl | rfl | rfl <;> simp [go_sem])
  have hB1s := HBW.out.size
  rw [← hW, ← hbx]
  clear hW hbx hb1W HO1
  go_loopw [5, 15] (fun v i wr => ∃ (k : Nat) (T : List P2) (a' : Option Addr) (c' : Nat), k ≤ n ∧ v = .slice a' T.length c' ∧ i = .int .i64 k ∧ wr.ownsRow W.heap.size 53 2 (.slice a' T.length c') T.length (T.flatMap enc2) ∧ T ++ blkFrom L q (n - k) k = R ∧ Below W.heap.size W wr) (fun _ i _ => n - (intOf i).toNat)
  case atStart => exact ⟨0, [], none, 0, Nat.zero_le _, rfl, rfl, World.ownsRow_nil _ _ _ _, HA.out, Below.refl _ _⟩
  case round =>
    clear HA
    obtain ⟨k, T, a', c', hk, rfl, rfl, ho, he, hB⟩ := hrel
    have HO := Lib.hid ho; have HE := Lib.hid he; have HB := Lib.hid hB
    clear ho he hB
    by_cases hlt : k < n
    · obtain ⟨u, b, off, pa, pn, pc, rfl, hb, k0, k1, k2, k3, k4, k5, hp, _, hg, HD⟩ := HR.out.at_ k hlt
      have hbw : Below w.heap.size w wr := (by repeat (first | (with_reducible exact Below.refl _ _) | (refine Below.then ?_ (Hid.out (by with_reducible assumption)))))
      have c0 := (hbw.cell (p := ⟨b, off + k * 6, none⟩) hb).trans k0
      have c1 := (hbw.cell (p := ⟨b, off + k * 6 + 1, none⟩) hb).trans k1
      have c2 := (hbw.cell (p := ⟨b, off + k * 6 + 2, none⟩) hb).trans k2
      have c3 := (hbw.cell (p := ⟨b, off + k * 6 + 3, none⟩) hb).trans k3
      have c4 := (hbw.cell (p := ⟨b, off + k * 6 + 4, none⟩) hb).trans k4
      have c5 := (hbw.cell (p := ⟨b, off + k * 6 + 5, none⟩) hb).trans k5
      clear k0 k1 k2 k3 k4 k5 hbw
      obtain ⟨b4, o4, rfl, hb4, d1⟩ := ofL_at (HO2.out.ext HB.out) HLL.out hlt
      obtain ⟨b5, o5, e5, hb5, d2⟩ := ofL_at (HO2.out.ext HB.out) HLL.out hq
      simp at e5
      obtain ⟨rfl, rfl⟩ := e5
      have x0 := (HB.out.cell (p := ⟨bx, 0, none⟩) hbxW).trans HX0.out
      have hbxr : bx < wr.heap.size := Nat.lt_of_lt_of_le hbxW HB.out.size
      have hE := HE.out
      rw [show n - k = (n - (k + 1)) + 1 by omega, blkFrom_step, taAt_of hg] at hE
      have hps := hp.small
      have HPL := Lib.hid hp.length
      have HP := Lib.hid hp
      have HCK : Hid (∀ (j : Nat) (p : P2), u.pcs[j]? = some p → 0 ≤ p.2 → ∃ (m c : Nat), p.2 = m ∧ m < 6 ∧ f m = c ∧ c < n ∧ ceilG L m = c) := Lib.hid (fun j p => HCP.out k u j p hg)
      obtain ⟨tst, htst⟩ : ∃ x, aheadB L q k = x := ⟨_, rfl⟩
      have hts := cnt_le' (L := L) (x := k) (y := q) (by omega) (by rw [HLL.out]; omega) (by omega) (by rw [HLL.out]; omega) htst
      have hts' : decide ((cnt L k : Int) ≤ (cnt L q : Int)) = !tst := by rw [← hts, decide_eq_decide]; omega
      rw [htst] at hE
      clear htst hg HD hp
      cases tst
      · have HE2 : Hid (T ++ blkFrom L q (n - (k + 1)) (k + 1) = R) := Lib.hid (by simpa using hE)
        clear hE HE
        simp only [Bool.not_false] at hts hts'
        have hts2 : cnt L k ≤ cnt L q := by simpa using hts
        go_wp2_with (refine wp_region_later_lit (by kernel_rfl) (by kernel_rfl) ?_; (repeat (go_big_quiet_step (fail))); refine wpQuiet_nil ?_; intro w3 hb3)
        go_roundw
        case rel => exact ⟨k + 1, T, a', c', by omega, rfl, by go_num, owns_ext (owns_ext HO.out (Below.alloc (Below.refl _ _) (Nat.le_refl _) _)) hb3, HE2.out, Below.then (Below.alloc HB.out HB.out.size _) hb3⟩
        case measure => simp [intOf]; omega
      · simp only [Bool.not_true] at hts hts'
        have hts2 : ¬ cnt L k ≤ cnt L q := by simpa using hts
        have HE2 : Hid (T ++ (blkP L q k 0 (u.pcs.drop 0) ++ blkFrom L q (n - (k + 1)) (k + 1)) = R) := Lib.hid (by simpa using hE)
        clear hE HE
        go_wp2_with ((refine wp_region_later_lit (by kernel_rfl) (by kernel_rfl) ?_; (repeat (go_big_quiet_step (fail))); refine wpQuiet_nil ?_; intro w3 hb3); have t5 := (hb3.cell (p := ⟨wr.heap.size, 5, none⟩) (by simp)).trans (show _ = some (.slice pa pn pc) by simp [go_sem]); have HO3 := Lib.hid (owns_ext (owns_ext HO.out (Below.alloc (Below.refl _ _) (Nat.le_refl _) _)) hb3); have HB3 : Hid (Below wr.heap.size wr w3) := Lib.hid (Below.then (Below.alloc (Below.refl _ _) (Nat.le_refl _) _) hb3); clear hb3)
        go_loopw [5, 34] (fun v i wr' => ∃ (j : Nat) (T : List P2) (a' : Option Addr) (c' : Nat), j ≤ pn ∧ v = .slice a' T.length c' ∧ i = .int .i64 j ∧ wr'.ownsRow W.heap.size 53 2 (.slice a' T.length c') T.length (T.flatMap enc2) ∧ T ++ (blkP L q k j (u.pcs.drop j) ++ blkFrom L q (n - (k + 1)) (k + 1)) = R ∧ Below W.heap.size W wr') (fun _ i _ => pn - (intOf i).toNat)
        case atStart => exact ⟨0, T, a', c', Nat.zero_le _, rfl, rfl, HO3.out, HE2.out, (by repeat (first | (with_reducible exact Below.refl _ _) | (refine Below.then ?_ (Hid.out (by with_reducible assumption)))))⟩
        case round =>
          clear HE2 HO HO3 HB3 t5 c0 c1 c2 c3 c4 c5 d1 d2 x0 hbxr hb hb4 hb5
          obtain ⟨j, T, a', c', hj, rfl, rfl, ho, he, hB2⟩ := hrel
          have HO := Lib.hid ho; have HE2 := Lib.hid he; have HB2 := Lib.hid hB2
          have hTl : T.length ≤ 40 := by have := congrArg List.length he; simp at this; omega
          clear ho he hB2
          by_cases hjt : j < pn
          · have hbw : Below w.heap.size w wr := (by repeat (first | (with_reducible exact Below.refl _ _) | (refine Below.then ?_ (Hid.out (by with_reducible assumption)))))
            obtain ⟨x, y, b1, off1, rfl, hb1, e2, e3, hpg, HD2⟩ := (HP.out.ext hbw).pc_at j hjt
            have hck := HCK.out j (x, y) hpg
            simp only [] at hck
            have hE := HE2.out
            rw [HD2.out, blkP] at hE
            simp only [] at hE
            clear hpg HD2 hbw
            by_cases p1 : 0 ≤ y
            · obtain ⟨m, cx, rfl, hm6, hfm, hcn, hceil⟩ := hck p1
              rw [hceil] at hE
              have xm := (HB2.out.cell (p := ⟨bx, 1 + m, none⟩) hbxW).trans (HXS.out m hm6)
              rw [hfm] at xm
              have x0 := (HB2.out.cell (p := ⟨bx, 0, none⟩) hbxW).trans HX0.out
              have hbxr : bx < wr.heap.size := Nat.lt_of_lt_of_le hbxW HB2.out.size
              obtain ⟨b6, o6, e6, hb6, d1⟩ := ofL_at (HO2.out.ext HB2.out) HLL.out hcn
              obtain ⟨b7, o7, e7, hb7, d2⟩ := ofL_at (HO2.out.ext HB2.out) HLL.out hq
              simp at e6 e7
              obtain ⟨rfl, rfl⟩ := e6
              obtain ⟨rfl, rfl⟩ := e7
              obtain ⟨t2, ht2⟩ : ∃ x, aheadB L q cx = x := ⟨_, rfl⟩
              have hu := cnt_le' (L := L) (x := cx) (y := q) (by omega) (by rw [HLL.out]; omega) (by omega) (by rw [HLL.out]; omega) ht2
              have hu' : decide ((cnt L cx : Int) ≤ (cnt L q : Int)) = !t2 := by rw [← hu, decide_eq_decide]; omega
              rw [ht2] at hE
              clear ht2 hceil hfm hck
              have HOx := Lib.hid (owns_ext HO.out (Below.alloc (Below.refl _ _) (Nat.le_refl _) (.cells #[.int .i64 x, .int .i64 (m : Int)] 52)))
              cases t2
              · rw [if_pos ⟨p1, rfl⟩] at hE
                have HE3 : Hid ((T ++ [((k : Int), (j : Int))]) ++ (blkP L q k (j + 1) (u.pcs.drop (j + 1)) ++ blkFrom L q (n - (k + 1)) (k + 1)) = R) := Lib.hid (by rw [← hE]; simp)
                clear hE HE2
                simp only [Bool.not_false] at hu hu'
                have hu2 : cnt L cx ≤ cnt L q := by simpa using hu
                go_wp2_with (first
                  | ((refine wp_region_later_lit (by kernel_rfl) (by kernel_rfl) ?_; (repeat (go_big_quiet_step (fail))); refine wpQuiet_nil ?_; intro w9 hb9); have HO6 := Lib.hid (owns_ext HOx.out hb9); have HB6 : Hid (Below wr.heap.size wr w9) := Lib.hid (Below.then (Below.alloc (Below.refl _ _) (Nat.le_refl _) _) hb9); have hz6 : W.heap.size ≤ w9.heap.size := (show Below W.heap.size W w9 from (by repeat (first | (with_reducible exact Below.refl _ _) | (refine Below.then ?_ (Hid.out (by with_reducible assumption)))))).size)
                  | (at_builtin; refine wpList_push (B := W.heap.size) rfl _ _ _ rfl e1 rfl HO6.out rfl rfl (by intro u hu; simp at hu; rcases hu with rfl | rfl <;> rfl) (by omega) (by decide) hz6 ?_; intro a8 c8 w8 hown8 hb8; have HO8 := Lib.hid (ownsP_snoc hown8); have HB8 := Lib.hid hb8; clear hown8 hb8))
                go_roundw
                case rel => exact ⟨j + 1, T ++ [((k : Int), (j : Int))], a8, c8, by omega, by first | rfl | simp, by go_num, by first | exact HO8.out | (rw [List.length_append]; exact HO8.out), HE3.out, (show Below W.heap.size W w9 from (by repeat (first | (with_reducible exact Below.refl _ _) | (refine Below.then ?_ (Hid.out (by with_reducible assumption)))))).trans HB8.out⟩
                case measure => simp [intOf]; omega
              · rw [if_neg (by rintro ⟨_, q⟩; simp at q)] at hE
                have HE3 := Lib.hid hE
                clear hE HE2
                simp only [Bool.not_true] at hu hu'
                have hu2 : ¬ cnt L cx ≤ cnt L q := by simpa using hu
                go_wp2_with (refine wp_region_later_lit (by kernel_rfl) (by kernel_rfl) ?_; (repeat (go_big_quiet_step (fail))); refine wpQuiet_nil ?_; intro w9 hb9)
                go_roundw
                case rel => exact ⟨j + 1, T, a', c', by omega, rfl, by go_num, owns_ext HOx.out (by assumption), HE3.out, Below.then (Below.alloc HB2.out HB2.out.size _) (by assumption)⟩
                case measure => simp [intOf]; omega
            · have p1' : decide (0 ≤ y) = false := by simpa using p1
              rw [if_neg (fun q => p1 q.1)] at hE
              have HE3 := Lib.hid hE
              have HOx := Lib.hid (owns_ext HO.out (Below.alloc (Below.refl _ _) (Nat.le_refl _) (.cells #[.int .i64 x, .int .i64 y] 52)))
              clear hE HE2 hck
              go_wp2_with (refine wp_region_later_lit (by kernel_rfl) (by kernel_rfl) ?_; (repeat (go_big_quiet_step (fail))); refine wpQuiet_nil ?_; intro w9 hb9)
              go_roundw
              case rel => exact ⟨j + 1, T, a', c', by omega, rfl, by go_num, owns_ext HOx.out (by assumption), HE3.out, Below.then (Below.alloc HB2.out HB2.out.size _) (by assumption)⟩
              case measure => simp [intOf]; omega
          · have hE := HE2.out
            rw [drop_end HPL.out (by omega), blkP, List.nil_append] at hE
            have HE3 := Lib.hid hE
            clear hE
            go_wp2
            go_roundw
            case rel => exact ⟨k + 1, T, a', c', by omega, rfl, by go_num, HO.out, HE3.out, HB2.out⟩
            case measure => simp [intOf]; omega
    · have hE := HE.out
      rw [show n - k = 0 by omega, blkFrom, List.append_nil] at hE
      subst hE
      go_wp2
      go_ret
      exact ⟨_, _, _, rfl, owns_mono HO.out hB1s, (by repeat (first | (with_reducible exact Below.refl _ _) | (refine Below.then ?_ (Hid.out (by with_reducible assumption)))))⟩
set_option maxRecDepth 10000 in
set_option maxHeartbeats 2000000 in
theorem Blocking_any (a : Option Addr) (n c : Nat) (L : List Ta) (t : Int) (w : World) (hL : RdL w a n L) :
    Calls Tryz.prog 135 #[.slice a n c, .int .i64 t] w fun e w' => e = rII (blkgR L t).1 (blkgR L t).2 ∧ Below w.heap.size w w' := by
  have hll := hL.length
  have hs := hL.small
  have HR := Lib.hid hL
  unfold blkgR
  cases hv : isTk L t
  · have HV := Lib.hid hv
    clear hL hv hll
    go_enter Tryz.func135, Tryz.ntmps135
    go_wp2_with (go_at_call 133; (with_reducible refine (isTask_is HR.out HV.out).mono ?_); rintro e w1 ⟨rfl, hb1⟩)
    go_ret2
    exact ⟨rII_eq rfl rfl, by (repeat' (first | (with_reducible exact Below.refl _ _) | (with_reducible assumption) | (with_reducible refine Below.alloc ?_ ?_ _) | (with_reducible refine Below.drew ?_) | (with_reducible refine Below.draws ?_ _) | (with_reducible refine Below.setCell ?_ ?_ _) | (refine Below.then ?_ (by with_reducible assumption)) | go_size))⟩
  · have HV := Lib.hid hv
    obtain ⟨hr, h0, h1⟩ := isTk_iff.1 hv
    rw [hll] at h1
    obtain ⟨q, rfl⟩ := Int.eq_ofNat_of_zero_le h0
    have hqn : q < n := by omega
    have HVR := Lib.hid (right_of hr)
    rw [if_pos rfl]
    obtain ⟨B, hB⟩ : ∃ B, blockL L q = B := ⟨_, rfl⟩
    have HI : Hid (∀ b ∈ B, IsBlk L q b) := Lib.hid (fun b hb => blockL_mem (by rw [hB]; exact hb))
    have hBl : B.length ≤ 40 := by rw [← hB]; exact blockL_len (right_of hr) q
    have HRR := Lib.hid hB
    obtain ⟨R, hR⟩ : ∃ R, blockN L q = R := ⟨_, rfl⟩
    have HA : Hid (maxB L 0 (B.drop 0) = R) := Lib.hid (by rw [← hR, ← hB]; rfl)
    simp only []
    rw [hR]
    clear hL hv hll hB hR
    go_enter Tryz.func135, Tryz.ntmps135
    go_wp2_with (first
      | (go_at_call 133; (with_reducible refine (isTask_is HR.out HV.out).mono ?_); rintro e w1 ⟨rfl, hb1⟩; have B1 := Lib.hid hb1; clear hb1)
      | (go_at_call 144; (with_reducible refine (blockers_any _ _ _ L q _ (HR.out.ext B1.out) HVR.out hqn).mono ?_); rw [HRR.out]; rintro e w2 ⟨a2, n2, c2, rfl, ho2, hb2⟩; have HO := Lib.hid (ownsP_rd ho2); have B2 := Lib.hid hb2; have hn2 : B.length = n2 := (ownsP_rd ho2).length; clear ho2 hb2))
    have hn40 : n2 ≤ 40 := by omega
    go_loopw [6, 17] (fun v i wr => ∃ (k : Nat) (m : Int), k ≤ n2 ∧ v = .int .i64 m ∧ i = .int .i64 k ∧ maxB L m (B.drop k) = R ∧ Below w2.heap.size w2 wr) (fun _ i _ => n2 - (intOf i).toNat)
    case atStart => exact ⟨0, 0, Nat.zero_le _, rfl, rfl, HA.out, Below.refl _ _⟩
    case round =>
      clear HA
      obtain ⟨k, m, hk, rfl, rfl, he, hB⟩ := hrel
      have HE := Lib.hid he; have HB := Lib.hid hB
      clear he hB
      by_cases hlt : k < n2
      · obtain ⟨b, g1, off1, rfl, hg1, f1, f2, hbg, HD⟩ := (HO.out.ext HB.out).piece k hlt
        obtain ⟨j, i, g, off, pb, poff, pn, pc, p, rfl, hj, hi, rfl, hg, hpb, d5, d1, d2, ht, hps⟩ := (HR.out.ext (show Below w.heap.size w wr from (by repeat (first | (with_reducible exact Below.refl _ _) | (refine Below.then ?_ (Hid.out (by with_reducible assumption))))))).blk (HI.out b (List.mem_of_getElem? hbg))
        have hE := HE.out
        rw [HD.out, maxB_cons, ht] at hE
        obtain ⟨x, hx⟩ : ∃ x, p.1 = x := ⟨_, rfl⟩
        rw [hx] at hE d1
        simp only [] at f1 f2
        have HE2 := Lib.hid hE
        clear hbg HD ht hE hx
        go_wp2_with (refine wp_region_later_lit (by kernel_rfl) (by kernel_rfl) ?_; (repeat (go_big_quiet_step (fail))); refine wpQuiet_nil ?_; intro w3 hb3)
        go_roundw
        case rel => exact ⟨k + 1, max m x, by omega, rfl, by go_num, HE2.out, Below.then (Below.alloc HB.out HB.out.size _) hb3⟩
        case measure => simp [intOf]; omega
      · have hE := HE.out
        rw [List.drop_of_length_le (by omega)] at hE
        obtain rfl : m = R := hE
        go_wp2
        go_ret2
        exact ⟨rII_eq rfl rfl, (by repeat (first | (with_reducible exact Below.refl _ _) | (refine Below.then ?_ (Hid.out (by with_reducible assumption)))))⟩
end Go.Proofs.YtlhnhmimhpcoaaaGreat
namespace Go.Proofs.YtlhnhmimhpcoaaaGreat
open Go.RowKit
set_option linter.unusedSimpArgs false
set_option linter.unusedVariables false
set_option maxHeartbeats 1000000 in
theorem cost_any (p d fi ga ji : Int) (pa : Option Addr) (pn pc : Nat) (ps : List P2) (w : World) (hp : Rd w pa pn 2 (ps.map enc2)) (hv : ∀ q ∈ ps, 1 ≤ q.1 ∧ q.1 ≤ 200) (hn : pn ≤ 8) :
    Calls Tryz.prog 67 #[.agg #[.int .i64 p, .int .i64 d, .int .i64 fi, .int .i64 ga, .int .i64 ji, .slice pa pn pc]] w fun e w' => e = .returned (.int .i64 (costP ps)) ∧ Below w.heap.size w w' := by
  have hb := costP_bd ps hv
  have hl := hp.length
  rw [hl] at hb
  obtain ⟨R, hR⟩ : ∃ R, costP ps = R := ⟨_, rfl⟩
  have HA : Hid (0 + costP (ps.drop 0) = R) := Lib.hid (by rw [Int.zero_add]; exact hR)
  have HQ : Hid (∀ k : Nat, 0 ≤ costP (ps.drop k)) := Lib.hid (fun k => by
    have := costP_bd (ps.drop k) (fun q hq => hv q (List.mem_of_mem_drop hq))
    omega)
  rw [hR] at hb ⊢
  have HP := Lib.hid hp
  have HL := Lib.hid hl
  have HV := Lib.hid hv
  clear hp hl hR hv
  go_enter Tryz.func67, Tryz.ntmps67
  go_wp2
  go_loopw [3, 9] (fun v i wr => ∃ (k : Nat) (m : Int), k ≤ pn ∧ v = .int .i64 m ∧ i = .int .i64 k ∧ 0 ≤ m ∧ m + costP (ps.drop k) = R ∧ Below w.heap.size w wr) (fun _ i _ => pn - (intOf i).toNat)
  case atStart => exact ⟨0, 0, Nat.zero_le _, rfl, rfl, by omega, HA.out, by (repeat' (first | (with_reducible exact Below.refl _ _) | (with_reducible assumption) | (with_reducible refine Below.alloc ?_ ?_ _) | (with_reducible refine Below.drew ?_) | (with_reducible refine Below.draws ?_ _) | (with_reducible refine Below.setCell ?_ ?_ _) | (refine Below.then ?_ (by with_reducible assumption)) | go_size))⟩
  case round =>
    clear HA
    obtain ⟨k, m, hk, rfl, rfl, hm, he, hB⟩ := hrel
    have HE := Lib.hid he; have HB := Lib.hid hB
    clear he hB
    by_cases hlt : k < pn
    · obtain ⟨x, y, b, off, rfl, hbb, e1, e2, hpg, HD⟩ := (HP.out.ext HB.out).pc_at k hlt
      have hE := HE.out
      rw [costP_drop hpg] at hE
      have hx := HV.out (x, y) (List.mem_of_getElem? hpg)
      have hr := HQ.out (k + 1)
      simp only [] at hE hx
      have HE2 : Hid (m + x + costP (ps.drop (k + 1)) = R) := Lib.hid (by omega)
      have hmx : m + x ≤ 1600 := by omega
      clear hpg HD hE
      go_wp2
      go_roundw
      case rel => exact ⟨k + 1, m + x, by omega, rfl, by go_num, by omega, HE2.out, Below.alloc HB.out HB.out.size _⟩
      case measure => simp [intOf]; omega
    · have hE := HE.out
      rw [drop_end HL.out (by omega), costP, Int.add_zero] at hE
      subst hE
      go_wp2
      go_ret
      exact ⟨rfl, HB.out⟩
set_option maxHeartbeats 1000000 in
theorem rcost_any (p d fi ga ji : Int) (pa : Option Addr) (pn pc : Nat) (ps : List P2) (w : World) (hp : Rd w pa pn 2 (ps.map enc2)) (hv : ∀ q ∈ ps, 1 ≤ q.1 ∧ q.1 ≤ 200) (hn : pn ≤ 8) :
    Calls Tryz.prog 72 #[.agg #[.int .i64 p, .int .i64 d, .int .i64 fi, .int .i64 ga, .int .i64 ji, .slice pa pn pc]] w fun e w' => e = .returned (.int .i64 (costP ps)) ∧ Below w.heap.size w w' := by
  have hb := costP_bd ps hv
  have hl := hp.length
  rw [hl] at hb
  obtain ⟨R, hR⟩ : ∃ R, costP ps = R := ⟨_, rfl⟩
  have HA : Hid (0 + costP (ps.drop 0) = R) := Lib.hid (by rw [Int.zero_add]; exact hR)
  have HQ : Hid (∀ k : Nat, 0 ≤ costP (ps.drop k)) := Lib.hid (fun k => by
    have := costP_bd (ps.drop k) (fun q hq => hv q (List.mem_of_mem_drop hq))
    omega)
  rw [hR] at hb ⊢
  have hps := hp.small
  have HP := Lib.hid (hp.ext (Below.alloc (Below.refl _ _) (Nat.le_refl _) (.cells #[.int .i64 p, .int .i64 d, .int .i64 fi, .int .i64 ga, .int .i64 ji, .slice pa pn pc] 50)))
  have HL := Lib.hid hl
  have HV := Lib.hid hv
  clear hp hl hR hv
  go_enter Tryz.func72, Tryz.ntmps72
  go_wp2
  go_loop [3, 4] (fun v i => ∃ (k : Nat) (m : Int), k ≤ pn ∧ v = .int .i64 m ∧ i = .int .i64 k ∧ 0 ≤ m ∧ m + costP (ps.drop k) = R) (fun _ i => pn - (intOf i).toNat)
  case atStart => exact ⟨0, 0, Nat.zero_le _, rfl, rfl, by omega, HA.out⟩
  case round =>
    clear HA
    obtain ⟨k, m, hk, rfl, rfl, hm, he⟩ := hrel
    have HE := Lib.hid he
    clear he
    by_cases hlt : k < pn
    · obtain ⟨x, y, b, off, rfl, hbb, e1, e2, hpg, HD⟩ := HP.out.pc_at k hlt
      have hE := HE.out
      rw [costP_drop hpg] at hE
      have hx := HV.out (x, y) (List.mem_of_getElem? hpg)
      have hr := HQ.out (k + 1)
      simp only [] at hE hx
      have HE2 : Hid (m + x + costP (ps.drop (k + 1)) = R) := Lib.hid (by omega)
      have hmx : m + x ≤ 1600 := by omega
      clear hpg HD hE
      go_wp2
      go_round
      case rel => exact ⟨k + 1, m + x, by omega, rfl, by go_num, by omega, HE2.out⟩
      case measure => simp [intOf]; omega
    · have hE := HE.out
      rw [drop_end HL.out (by omega), costP, Int.add_zero] at hE
      subst hE
      go_wp2
      go_ret
      exact ⟨rfl, by (repeat' (first | (with_reducible exact Below.refl _ _) | (with_reducible assumption) | (with_reducible refine Below.alloc ?_ ?_ _) | (with_reducible refine Below.drew ?_) | (with_reducible refine Below.draws ?_ _) | (with_reducible refine Below.setCell ?_ ?_ _) | (refine Below.then ?_ (by with_reducible assumption)) | go_size))⟩
theorem avalid_is {f g j : Int} {b : Bool} {w : World} (h : vpat f g j = b) : Calls Tryz.prog 65 #[.agg #[.int .i64 f, .int .i64 g, .int .i64 j]] w fun e w' => e = .returned (.bool b) ∧ Below w.heap.size w w' := by subst h; exact valid_any f g j w
theorem arvalid_is {f g j : Int} {b : Bool} {w : World} (h : vpat f g j = b) : Calls Tryz.prog 70 #[.agg #[.int .i64 f, .int .i64 g, .int .i64 j]] w fun e w' => e = .returned (.bool b) ∧ Below w.heap.size w w' := by subst h; exact rvalid_any f g j w
theorem patF_any (t : TaV) (w : World) : Calls Tryz.prog 76 #[valTa t] w fun e w' => e = .returned (.bool (!patB t.ta)) ∧ Below w.heap.size w w' := by
  obtain ⟨pri, dl, fi, ga, ji, a, n, c, pcs⟩ := t
  obtain ⟨R, hR⟩ : ∃ R, patB (TaV.ta ⟨pri, dl, fi, ga, ji, a, n, c, pcs⟩) = R := ⟨_, rfl⟩
  rw [hR]
  have hR' : (vpat fi ga ji && (decide (1 ≤ dl) && decide (dl ≤ ga))) = R := hR
  obtain ⟨v, hv⟩ : ∃ v, vpat fi ga ji = v := ⟨_, rfl⟩
  have HV := Lib.hid hv
  rw [hv] at hR'
  clear hR hv
  cases v
  · obtain rfl : R = false := by rw [← hR']; rfl
    clear hR'
    go_enter Tryz.func76, Tryz.ntmps76
    go_wp2_with (go_at_call 65; (with_reducible refine (avalid_is HV.out).mono ?_); rintro e w1 ⟨rfl, hb1⟩; have B1 := Lib.hid hb1; clear hb1)
    go_ret
    exact ⟨rfl, Below.then (Below.alloc (Below.refl _ _) (Nat.le_refl _) _) B1.out⟩
  · by_cases h1 : dl < 1
    · obtain rfl : R = false := by rw [← hR', decide_eq_false (show ¬ 1 ≤ dl by omega)]; rfl
      clear hR'
      go_enter Tryz.func76, Tryz.ntmps76
      go_wp2_with (go_at_call 65; (with_reducible refine (avalid_is HV.out).mono ?_); rintro e w1 ⟨rfl, hb1⟩; have B1 := Lib.hid hb1; have c1 := (hb1.cell (p := ⟨w.heap.size, 1, none⟩) (by simp)).trans (show _ = some (.int .i64 dl) by simp [go_sem]); have c3 := (hb1.cell (p := ⟨w.heap.size, 3, none⟩) (by simp)).trans (show _ = some (.int .i64 ga) by simp [go_sem]); clear hb1)
      go_ret
      exact ⟨rfl, Below.then (Below.alloc (Below.refl _ _) (Nat.le_refl _) _) B1.out⟩
    · have h1' : decide (dl < 1) = false := by simpa using h1
      have h2 : decide (ga < dl) = !R := by
        rw [← hR', decide_eq_true (show 1 ≤ dl by omega)]
        by_cases q : dl ≤ ga
        · rw [decide_eq_true q, decide_eq_false (by omega)]; rfl
        · rw [decide_eq_false q, decide_eq_true (by omega)]; rfl
      clear hR'
      go_enter Tryz.func76, Tryz.ntmps76
      go_wp2_with (go_at_call 65; (with_reducible refine (avalid_is HV.out).mono ?_); rintro e w1 ⟨rfl, hb1⟩; have B1 := Lib.hid hb1; have c1 := (hb1.cell (p := ⟨w.heap.size, 1, none⟩) (by simp)).trans (show _ = some (.int .i64 dl) by simp [go_sem]); have c3 := (hb1.cell (p := ⟨w.heap.size, 3, none⟩) (by simp)).trans (show _ = some (.int .i64 ga) by simp [go_sem]); clear hb1)
      go_ret
      exact ⟨rfl, Below.then (Below.alloc (Below.refl _ _) (Nat.le_refl _) _) B1.out⟩
theorem Ranks_is {a : Option Addr} {n c : Nat} {L : List Ta} {xs : List Int} {e : Int} {w : World} (hL : RdL w a n L) (h : ranksR L = (xs, e)) : Calls Tryz.prog 40 #[.slice a n c] w (OutTE w.heap.size w xs e) := by
  have := Ranks_any a n c L w hL
  rw [h] at this; exact this
theorem valid_any' (a : Option Addr) (n c : Nat) (L : List Ta) (w : World) (hL : RdL w a n L) : Calls Tryz.prog 33 #[.slice a n c] w fun e w' => e = .returned (.bool (validL L)) ∧ Below w.heap.size w w' := by
  have HR := Lib.hid hL
  unfold validL
  obtain ⟨rk, re, hrk⟩ : ∃ x e, ranksR L = (x, e) := ⟨_, _, rfl⟩
  have HRK := Lib.hid hrk
  cases hr : rightB L
  · obtain rfl : re = 1 := by rw [ranksR, hr] at hrk; simp at hrk; exact hrk.2.symm
    clear hL hrk hr
    go_enter Tryz.func33, Tryz.ntmps33
    go_wp2_with (go_at_call 40; (with_reducible refine (Ranks_is HR.out HRK.out).mono ?_); rintro e w1 ⟨a1, n1, c1, rfl, ho1, hb1⟩; have B1 := Lib.hid hb1; clear ho1 hb1)
    go_ret
    exact ⟨rfl, B1.out⟩
  · obtain rfl : re = 0 := by rw [ranksR, hr] at hrk; simp at hrk; exact hrk.2.symm
    obtain ⟨R, hR⟩ : ∃ R, L.all patB = R := ⟨_, rfl⟩
    have HC : Hid (∀ w1 : World, Below w.heap.size w w1 → Calls Tryz.prog 75 #[.slice a n c, .func (.func 76) #[] #[]] w1 fun e w' => e = .returned (.bool (!R)) ∧ Below w1.heap.size w1 w') := Lib.hid (fun w1 hb => by
      obtain ⟨g, hG, hg⟩ := hL.ext hb
      have := tk_con 76 #[] (fun t => !patB t.ta) a n c g w1 hG.rd ⟨fun args w => by kernel_rfl, fun x hx w' hb => patF_any x w'⟩
      rw [any_not (fun t : TaV => patB t.ta)] at this
      have e : g.all (fun t => patB t.ta) = R := by rw [← hR, ← hg, List.all_map]; rfl
      rw [e] at this
      exact this)
    rw [Bool.true_and, hR]
    clear hL hrk hr hR
    go_enter Tryz.func33, Tryz.ntmps33
    go_wp2_with (first
      | (go_at_call 40; (with_reducible refine (Ranks_is HR.out HRK.out).mono ?_); rintro e w1 ⟨a1, n1, c1, rfl, ho1, hb1⟩; have B1 := Lib.hid hb1; clear ho1 hb1)
      | (go_at_call 75; (with_reducible refine (HC.out _ B1.out).mono ?_); rintro e w2 ⟨rfl, hb2⟩; have B2 := Lib.hid hb2; clear hb2))
    go_ret
    exact ⟨ret_bool (by simp), (by repeat (first | (with_reducible exact Below.refl _ _) | (refine Below.then ?_ (Hid.out (by with_reducible assumption)))))⟩
theorem valid_is {a : Option Addr} {n c : Nat} {L : List Ta} {b : Bool} {w : World} (hL : RdL w a n L) (h : validL L = b) : Calls Tryz.prog 33 #[.slice a n c] w fun e w' => e = .returned (.bool b) ∧ Below w.heap.size w w' := by subst h; exact valid_any' a n c L w hL
set_option maxRecDepth 10000 in
set_option maxHeartbeats 2000000 in
theorem rValid_any (a : Option Addr) (n c : Nat) (L : List Ta) (w : World) (hL : RdL w a n L) : Calls Tryz.prog 68 #[.slice a n c] w fun e w' => e = .returned (.bool (validL L)) ∧ Below w.heap.size w w' := by
  have hll := hL.length
  have hs := hL.small
  have HR := Lib.hid hL
  have HLL := Lib.hid hll
  unfold validL
  cases hr : rightB L
  · have HV := Lib.hid hr
    clear hL hll hr
    go_enter Tryz.func68, Tryz.ntmps68
    go_wp2_with (go_at_call 89; (with_reducible refine (rTasks_is HR.out HV.out).mono ?_); rintro e w1 ⟨rfl, hb1⟩; have B1 := Lib.hid hb1; clear hb1)
    go_ret
    exact ⟨rfl, B1.out⟩
  · have HV := Lib.hid hr
    rw [Bool.true_and]
    obtain ⟨R, hR⟩ : ∃ R, L.all patB = R := ⟨_, rfl⟩
    have HA : Hid ((L.drop 0).all patB = R) := Lib.hid hR
    rw [hR]
    clear hL hll hr hR
    go_enter Tryz.func68, Tryz.ntmps68
    go_wp2_with (go_at_call 89; (with_reducible refine (rTasks_is HR.out HV.out).mono ?_); rintro e w1 ⟨rfl, hb1⟩; have B1 := Lib.hid hb1; clear hb1)
    go_loopw [3] (fun i wr => ∃ k : Nat, k ≤ n ∧ i = .int .i64 k ∧ (L.drop k).all patB = R ∧ Below w.heap.size w wr) (fun i _ => n - (intOf i).toNat)
    case atStart => exact ⟨0, Nat.zero_le _, rfl, HA.out, B1.out⟩
    case round =>
      clear HA
      obtain ⟨k, hk, rfl, he, hB⟩ := hrel
      have HE := Lib.hid he; have HB := Lib.hid hB
      clear he hB
      by_cases hlt : k < n
      · obtain ⟨t, b, off, pa, pn, pc, rfl, hb, c0, c1, c2, c3, c4, c5, hp, _, hg, HD⟩ := (HR.out.ext HB.out).at_ k hlt
        have hE := HE.out
        rw [HD.out, List.all_cons] at hE
        obtain ⟨pri, dl, fi, ga, ji, pcs⟩ := t
        simp only [] at c0 c1 c2 c3 c4
        have hE' : (vpat fi ga ji && (decide (1 ≤ dl) && decide (dl ≤ ga)) && (L.drop (k + 1)).all patB) = R := hE
        obtain ⟨v, hv⟩ : ∃ v, vpat fi ga ji = v := ⟨_, rfl⟩
        have HVP := Lib.hid hv
        rw [hv] at hE'
        clear hE hv hg HD hp
        cases v
        · obtain rfl : R = false := by rw [← hE']; rfl
          clear hE'
          go_wp2_with (refine wp_region_later_lit (by kernel_rfl) (by kernel_rfl) ?_; (repeat (go_big_quiet_step ((go_at_call 70; exact later_of (arvalid_is HVP.out))))); refine wpQuiet_nil ?_; intro w3 hb3)
          go_ret
          exact ⟨rfl, Below.then HB.out hb3⟩
        · by_cases h1 : dl < 1
          · obtain rfl : R = false := by rw [← hE', decide_eq_false (show ¬ 1 ≤ dl by omega)]; rfl
            clear hE'
            go_wp2_with (refine wp_region_later_lit (by kernel_rfl) (by kernel_rfl) ?_; (repeat (go_big_quiet_step ((go_at_call 70; exact later_of (arvalid_is HVP.out))))); refine wpQuiet_nil ?_; intro w3 hb3)
            go_ret
            exact ⟨rfl, Below.then HB.out hb3⟩
          · have h1' : decide (dl < 1) = false := by simpa using h1
            by_cases h2 : ga < dl
            · obtain rfl : R = false := by rw [← hE', decide_eq_false (show ¬ dl ≤ ga by omega)]; simp
              clear hE'
              go_wp2_with (refine wp_region_later_lit (by kernel_rfl) (by kernel_rfl) ?_; (repeat (go_big_quiet_step ((go_at_call 70; exact later_of (arvalid_is HVP.out))))); refine wpQuiet_nil ?_; intro w3 hb3)
              go_ret
              exact ⟨rfl, Below.then HB.out hb3⟩
            · have h2' : decide (ga < dl) = false := by simpa using h2
              have HE2 : Hid ((L.drop (k + 1)).all patB = R) := Lib.hid (by rw [← hE', decide_eq_true (show 1 ≤ dl by omega), decide_eq_true (show dl ≤ ga by omega)]; simp)
              clear hE'
              go_wp2_with (refine wp_region_later_lit (by kernel_rfl) (by kernel_rfl) ?_; (repeat (go_big_quiet_step ((go_at_call 70; exact later_of (arvalid_is HVP.out))))); refine wpQuiet_nil ?_; intro w3 hb3)
              go_roundw
              case rel => exact ⟨k + 1, by omega, by go_num, HE2.out, Below.then HB.out hb3⟩
              case measure => simp [intOf]; omega
      · have hE := HE.out
        rw [drop_end HLL.out (by omega), List.all_nil] at hE
        subst hE
        go_wp2
        go_ret
        exact ⟨rfl, HB.out⟩
theorem rValid_is {a : Option Addr} {n c : Nat} {L : List Ta} {b : Bool} {w : World} (hL : RdL w a n L) (h : validL L = b) : Calls Tryz.prog 68 #[.slice a n c] w fun e w' => e = .returned (.bool b) ∧ Below w.heap.size w w' := by subst h; exact rValid_any a n c L w hL
end Go.Proofs.YtlhnhmimhpcoaaaGreat
namespace Go.Proofs.YtlhnhmimhpcoaaaGreat
open Go.RowKit
set_option linter.unusedSimpArgs false
set_option linter.unusedVariables false
theorem cwithin_is {n a b : Int} {x : Bool} {w : World} (h : inB n a b = x) : Calls Tryz.prog 39 #[.int .i64 n, .int .i64 a, .int .i64 b] w fun e w' => e = .returned (.bool x) ∧ w = w' := by
  subst h
  go_enter Tryz.func39, Tryz.ntmps39
  go_wp2
  all_goals (go_ret; exact ⟨ret_bool (by rw [inB_eq]; simp [*]; try omega), rfl⟩)
theorem cin_is {n a b : Int} {x : Bool} {w : World} (h : inB n a b = x) : Calls Tryz.prog 53 #[.int .i64 n, .int .i64 a, .int .i64 b] w fun e w' => e = .returned (.bool x) ∧ w = w' := by
  subst h
  go_enter Tryz.func53, Tryz.ntmps53
  go_wp2
  all_goals (go_ret; exact ⟨ret_bool (by rw [inB_eq]; simp [*]; try omega), rfl⟩)
def gtP : Option Int → Int → Bool
  | none, _ => true
  | some x, y => decide (x ≤ y)
/-- events that may be, from one on; the moment ahead of them -/
def okFrom : Option Int → List P2 → Bool
  | _, [] => true
  | p, e :: es => (inB e.1 0 1000000 && inB e.2 0 1000000 && gtP p e.1) && okFrom (some e.1) es
def evB (l : List P2) : Bool := okFrom none l && decide (l.length ≤ 40)
def prvE (l : List P2) : Nat → Option Int
  | 0 => none
  | k + 1 => some ((l[k]?).getD default).1
theorem okFrom_step {l : List P2} {k : Nat} {x y : Int} (h : l[k]? = some (x, y)) : okFrom (prvE l k) (l.drop k) = ((inB x 0 1000000 && inB y 0 1000000 && gtP (prvE l k) x) && okFrom (prvE l (k + 1)) (l.drop (k + 1))) := by
  obtain ⟨h1, h2⟩ := List.getElem?_eq_some_iff.1 h
  rw [List.drop_eq_getElem_cons h1, h2, okFrom]
  simp only [prvE, h]
  rfl
set_option maxRecDepth 10000 in
set_option maxHeartbeats 2000000 in
theorem events_any (a : Option Addr) (n c : Nat) (l : List P2) (w : World) (hR : Rd w a n 2 (l.map enc2)) : Calls Tryz.prog 62 #[.slice a n c] w fun e w' => e = .returned (.bool (evB l)) ∧ Below w.heap.size w w' := by
  have hs := hR.small
  have hln := hR.length
  have HR := Lib.hid hR
  have HL := Lib.hid hln
  obtain ⟨B, hB⟩ : ∃ B, evB l = B := ⟨_, rfl⟩
  rw [hB]
  have HB0 : Hid ((okFrom (prvE l 0) (l.drop 0) && decide (n ≤ 40)) = B) := Lib.hid (by rw [← hB, ← hln]; rfl)
  clear hR hB hln
  go_enter Tryz.func62, Tryz.ntmps62
  go_wp2
  go_loopw [7] (fun i wr => ∃ k : Nat, k ≤ n ∧ i = .int .i64 k ∧ (okFrom (prvE l k) (l.drop k) && decide (n ≤ 40)) = B ∧ Below w.heap.size w wr) (fun i _ => n - (intOf i).toNat)
  case atStart => exact ⟨0, Nat.zero_le _, rfl, HB0.out, Below.refl _ _⟩
  case round =>
    clear HB0
    obtain ⟨k, hk, rfl, hX, hB⟩ := hrel
    have HB := Lib.hid hB
    by_cases hlt : k < n
    · obtain ⟨x, y, b, off, rfl, hb, d0, d1, hg, _⟩ := (HR.out.ext hB).pc_at' k hlt
      rw [okFrom_step hg] at hX
      cases hx : inB x 0 1000000
      · obtain rfl : B = false := by rw [hx] at hX; simpa using hX.symm
        have HX := Lib.hid hx
        clear hX hB hg hx
        go_wp2_with (refine wp_region_later_lit (by kernel_rfl) (by kernel_rfl) ?_; (repeat (go_big_quiet_step ((go_at_call 39; exact later_same (cwithin_is HX.out))))); refine wpQuiet_nil ?_; intro w1 hb1)
        go_ret
        exact ⟨rfl, Below.then (Below.alloc HB.out HB.out.size _) hb1⟩
      · cases hy : inB y 0 1000000
        · obtain rfl : B = false := by rw [hx, hy] at hX; simpa using hX.symm
          have HX := Lib.hid hx; have HY := Lib.hid hy
          clear hX hB hg hx hy
          go_wp2_with (refine wp_region_later_lit (by kernel_rfl) (by kernel_rfl) ?_; (repeat (go_big_quiet_step ((first | (go_at_call 39; exact later_same (cwithin_is HX.out)) | (go_at_call 39; exact later_same (cwithin_is HY.out)))))); refine wpQuiet_nil ?_; intro w1 hb1)
          go_ret
          exact ⟨rfl, Below.then (Below.alloc HB.out HB.out.size _) hb1⟩
        · rw [hx, hy] at hX
          have HX := Lib.hid hx; have HY := Lib.hid hy
          rcases Nat.eq_zero_or_pos k with hk0 | hk0
          · have hp : prvE l k = none := by rw [hk0]; rfl
            rw [hp, gtP] at hX
            have HX2 : Hid ((okFrom (prvE l (k + 1)) (l.drop (k + 1)) && decide (n ≤ 40)) = B) := Lib.hid (by simpa using hX)
            have hk0' : decide ((0 : Int) < (k : Int)) = false := by simp; omega
            have hk0'' : decide (0 < k) = false := by simp; omega
            clear hX hB hg hx hy hp hk0
            go_wp2_with (refine wp_region_later_lit (by kernel_rfl) (by kernel_rfl) ?_; (repeat (go_big_quiet_step ((first | (go_at_call 39; exact later_same (cwithin_is HX.out)) | (go_at_call 39; exact later_same (cwithin_is HY.out)))))); refine wpQuiet_nil ?_; intro w1 hb1)
            go_roundw
            case rel => exact ⟨k + 1, hlt, by go_num, HX2.out, Below.then (Below.alloc HB.out HB.out.size _) hb1⟩
            case measure => simp [intOf]; omega
          · obtain ⟨z, z2, b', off', e', _, g0, _, hg', _⟩ := (HR.out.ext hB).pc_at' (k - 1) (by omega)
            simp at e'
            obtain ⟨rfl, rfl⟩ := e'
            have hp : prvE l k = some z := by
              obtain ⟨m, rfl⟩ : ∃ m, k = m + 1 := ⟨k - 1, by omega⟩
              rw [Nat.add_sub_cancel] at hg'
              simp [prvE, hg']
            rw [hp, gtP] at hX
            have hk0' : decide ((0 : Int) < (k : Int)) = true := by simp; omega
            have hk0'' : decide (0 < k) = true := by simp; omega
            have wk : IntKind.i64.wrap ((k : Int) - 1) = ((k - 1 : Nat) : Int) := by rw [IntWalk.i64_in _ (by omega)]; omega
            have hk1 : k - 1 < n := by omega
            by_cases hz : z ≤ x
            · have hz' : decide (x < z) = false := by simp; omega
              have HX2 : Hid ((okFrom (prvE l (k + 1)) (l.drop (k + 1)) && decide (n ≤ 40)) = B) := Lib.hid (by simpa [hz] using hX)
              clear hX hB hg hx hy hp hg' hz
              go_wp2_with (refine wp_region_later_lit (by kernel_rfl) (by kernel_rfl) ?_; (repeat (go_big_quiet_step ((first | (go_at_call 39; exact later_same (cwithin_is HX.out)) | (go_at_call 39; exact later_same (cwithin_is HY.out)))))); refine wpQuiet_nil ?_; intro w1 hb1)
              go_roundw
              case rel => exact ⟨k + 1, hlt, by go_num, HX2.out, Below.then (Below.alloc HB.out HB.out.size _) hb1⟩
              case measure => simp [intOf]; omega
            · have hz' : decide (x < z) = true := by simp; omega
              obtain rfl : B = false := by simpa [hz] using hX.symm
              clear hX hB hg hx hy hp hg' hz
              go_wp2_with (refine wp_region_later_lit (by kernel_rfl) (by kernel_rfl) ?_; (repeat (go_big_quiet_step ((first | (go_at_call 39; exact later_same (cwithin_is HX.out)) | (go_at_call 39; exact later_same (cwithin_is HY.out)))))); refine wpQuiet_nil ?_; intro w1 hb1)
              go_ret
              exact ⟨rfl, Below.then (Below.alloc HB.out HB.out.size _) hb1⟩
    · rw [List.drop_of_length_le (by rw [HL.out]; omega)] at hX
      have hX2 : decide (n ≤ 40) = B := by simpa [okFrom] using hX
      have hX3 : decide ((n : Int) ≤ 40) = B := by rw [← hX2]; simp; omega
      clear hX hB
      go_wp2
      go_ret
      exact ⟨rfl, HB.out⟩
/-- a list of events in memory -/
structure EvV where
  a : Option Addr
  n : Nat
  c : Nat
  es : List P2
deriving Inhabited
def encV (v : EvV) : List Value := [.slice v.a v.n v.c]
abbrev valV (v : EvV) : Value := .slice v.a v.n v.c
abbrev valZ (x : Int) : Value := .int .i64 x
def EvL (w : World) (a : Option Addr) (n : Nat) (evs : List (List P2)) : Prop := ∃ g : List EvV, Rd w a n 1 (g.map encV) ∧ (∀ v ∈ g, Rd w v.a v.n 2 (v.es.map enc2)) ∧ g.map EvV.es = evs
theorem EvL.ext {w w' : World} {a : Option Addr} {n : Nat} {evs : List (List P2)} (h : EvL w a n evs) (hb : Below w.heap.size w w') : EvL w' a n evs := by
  obtain ⟨g, h1, h2, h3⟩ := h
  exact ⟨g, h1.ext hb, fun v hv => (h2 v hv).ext hb, h3⟩
theorem ev_idx (g : Nat) (lb : Array Value) (p : EvV → Bool) (a : Option Addr) (n c : Nat) (xs : List EvV) (w : World) (hR : Rd w a n 1 (xs.map encV)) (hf : PredIn g lb valV p xs w) :
    Calls Tryz.prog 97 #[.slice a n c, .func (.func g) #[] lb] w fun e w' => e = .returned (.int .i64 (idxGo p 0 xs)) ∧ Below w.heap.size w w' := by
  have HL := Lib.hid hR.length
  have hs := hR.small
  have HR := Lib.hid hR; clear hR
  have eg := hf.eg
  have HF := Lib.hid hf.gives; clear hf
  generalize hg : idxGo p 0 xs = R
  have HG := Lib.hid hg; clear hg
  go_enter Tryz.func97, Tryz.ntmps97
  go_wp2
  go_loopw [8] (fun i wr => ∃ k : Nat, k ≤ n ∧ i = .int .i64 k ∧ idxGo p k (xs.drop k) = R ∧ Below w.heap.size w wr) (fun i _ => n - (intOf i).toNat)
  case atStart => exact ⟨0, Nat.zero_le _, rfl, HG.out, Below.refl _ _⟩
  case round =>
    obtain ⟨k, hk, rfl, he, hB⟩ := hrel
    have HE := Lib.hid he; clear he
    by_cases hlt : k < n
    · obtain ⟨x, b, off, rfl, hb, hc, hx, _, HD⟩ := (HR.out.ext hB).nextK k hlt
      have h0 := hc 0 (by omega)
      clear hc
      simp [encV] at h0
      have hcall := HF.out x hx wr hB
      have HB := Lib.hid hB; clear hB
      have HE2 : Hid ((if p x = true then (k : Int) else idxGo p (k + 1) (xs.drop (k + 1))) = R) := by have := HE.out; rw [HD.out] at this; exact this
      cases hq : p x
      · rw [hq] at hcall HE2
        go_wp2_with (go_at_fn g; refine hcall.mono ?_; rintro e w1 ⟨rfl, hb1⟩)
        go_roundw
        case rel => exact ⟨k + 1, by omega, by go_num, by simpa using HE2.out, HB.out.trans (hb1.mono HB.out.size)⟩
        case measure => simp [intOf]; omega
      · rw [hq] at hcall HE2
        have : R = k := by simpa using HE2.out.symm
        subst this
        go_wp2_with (go_at_fn g; refine hcall.mono ?_; rintro e w1 ⟨rfl, hb1⟩)
        go_ret
        exact ⟨rfl, HB.out.trans (hb1.mono HB.out.size)⟩
    · have : R = -1 := by rw [← HE.out, drop_end HL.out (by omega)]; rfl
      subst this
      go_wp2
      go_ret
      exact ⟨rfl, hB⟩
theorem ev_con (g : Nat) (lb : Array Value) (p : EvV → Bool) (a : Option Addr) (n c : Nat) (xs : List EvV) (w : World) (hR : Rd w a n 1 (xs.map encV)) (hf : PredIn g lb valV p xs w) :
    Calls Tryz.prog 60 #[.slice a n c, .func (.func g) #[] lb] w fun e w' => e = .returned (.bool (xs.any p)) ∧ Below w.heap.size w w' := by
  have HR := Lib.hid hR; clear hR
  have HF := Lib.hid hf; clear hf
  go_enter Tryz.func60, Tryz.ntmps60
  go_wp2_with (go_at_call 97; refine (ev_idx _ _ _ _ _ _ _ _ HR.out HF.out).mono ?_; rintro e w1 ⟨rfl, hb1⟩)
  go_ret
  exact ⟨ret_bool (idxGo_any p xs 0), by (repeat' (first | (with_reducible exact Below.refl _ _) | (with_reducible assumption) | (with_reducible refine Below.alloc ?_ ?_ _) | (with_reducible refine Below.drew ?_) | (with_reducible refine Below.draws ?_ _) | (with_reducible refine Below.setCell ?_ ?_ _) | (refine Below.then ?_ (by with_reducible assumption)) | go_size))⟩

theorem bi_idx (g : Nat) (lb : Array Value) (p : Int → Bool) (a : Option Addr) (n c : Nat) (xs : List Int) (w : World) (hR : Rd w a n 1 (xs.map enc1)) (hf : PredIn g lb valZ p xs w) :
    Calls Tryz.prog 98 #[.slice a n c, .func (.func g) #[] lb] w fun e w' => e = .returned (.int .i64 (idxGo p 0 xs)) ∧ Below w.heap.size w w' := by
  have HL := Lib.hid hR.length
  have hs := hR.small
  have HR := Lib.hid hR; clear hR
  have eg := hf.eg
  have HF := Lib.hid hf.gives; clear hf
  generalize hg : idxGo p 0 xs = R
  have HG := Lib.hid hg; clear hg
  go_enter Tryz.func98, Tryz.ntmps98
  go_wp2
  go_loopw [8] (fun i wr => ∃ k : Nat, k ≤ n ∧ i = .int .i64 k ∧ idxGo p k (xs.drop k) = R ∧ Below w.heap.size w wr) (fun i _ => n - (intOf i).toNat)
  case atStart => exact ⟨0, Nat.zero_le _, rfl, HG.out, Below.refl _ _⟩
  case round =>
    obtain ⟨k, hk, rfl, he, hB⟩ := hrel
    have HE := Lib.hid he; clear he
    by_cases hlt : k < n
    · obtain ⟨x, b, off, rfl, hb, hc, hx, _, HD⟩ := (HR.out.ext hB).nextK k hlt
      have h0 := hc 0 (by omega)
      clear hc
      simp [enc1] at h0
      have hcall := HF.out x hx wr hB
      have HB := Lib.hid hB; clear hB
      have HE2 : Hid ((if p x = true then (k : Int) else idxGo p (k + 1) (xs.drop (k + 1))) = R) := by have := HE.out; rw [HD.out] at this; exact this
      cases hq : p x
      · rw [hq] at hcall HE2
        go_wp2_with (go_at_fn g; refine hcall.mono ?_; rintro e w1 ⟨rfl, hb1⟩)
        go_roundw
        case rel => exact ⟨k + 1, by omega, by go_num, by simpa using HE2.out, HB.out.trans (hb1.mono HB.out.size)⟩
        case measure => simp [intOf]; omega
      · rw [hq] at hcall HE2
        have : R = k := by simpa using HE2.out.symm
        subst this
        go_wp2_with (go_at_fn g; refine hcall.mono ?_; rintro e w1 ⟨rfl, hb1⟩)
        go_ret
        exact ⟨rfl, HB.out.trans (hb1.mono HB.out.size)⟩
    · have : R = -1 := by rw [← HE.out, drop_end HL.out (by omega)]; rfl
      subst this
      go_wp2
      go_ret
      exact ⟨rfl, hB⟩
theorem bi_con (g : Nat) (lb : Array Value) (p : Int → Bool) (a : Option Addr) (n c : Nat) (xs : List Int) (w : World) (hR : Rd w a n 1 (xs.map enc1)) (hf : PredIn g lb valZ p xs w) :
    Calls Tryz.prog 63 #[.slice a n c, .func (.func g) #[] lb] w fun e w' => e = .returned (.bool (xs.any p)) ∧ Below w.heap.size w w' := by
  have HR := Lib.hid hR; clear hR
  have HF := Lib.hid hf; clear hf
  go_enter Tryz.func63, Tryz.ntmps63
  go_wp2_with (go_at_call 98; refine (bi_idx _ _ _ _ _ _ _ _ HR.out HF.out).mono ?_; rintro e w1 ⟨rfl, hb1⟩)
  go_ret
  exact ⟨ret_bool (idxGo_any p xs 0), by (repeat' (first | (with_reducible exact Below.refl _ _) | (with_reducible assumption) | (with_reducible refine Below.alloc ?_ ?_ _) | (with_reducible refine Below.drew ?_) | (with_reducible refine Below.draws ?_ _) | (with_reducible refine Below.setCell ?_ ?_ _) | (refine Below.then ?_ (by with_reducible assumption)) | go_size))⟩

theorem sgp_idx (g : Nat) (lb : Array Value) (p : P2 → Bool) (a : Option Addr) (n c : Nat) (xs : List P2) (w : World) (hR : Rd w a n 2 (xs.map enc2)) (hf : PredIn g lb valPc p xs w) :
    Calls Tryz.prog 99 #[.slice a n c, .func (.func g) #[] lb] w fun e w' => e = .returned (.int .i64 (idxGo p 0 xs)) ∧ Below w.heap.size w w' := by
  have HL := Lib.hid hR.length
  have hs := hR.small
  have HR := Lib.hid hR; clear hR
  have eg := hf.eg
  have HF := Lib.hid hf.gives; clear hf
  generalize hg : idxGo p 0 xs = R
  have HG := Lib.hid hg; clear hg
  go_enter Tryz.func99, Tryz.ntmps99
  go_wp2
  go_loopw [8] (fun i wr => ∃ k : Nat, k ≤ n ∧ i = .int .i64 k ∧ idxGo p k (xs.drop k) = R ∧ Below w.heap.size w wr) (fun i _ => n - (intOf i).toNat)
  case atStart => exact ⟨0, Nat.zero_le _, rfl, HG.out, Below.refl _ _⟩
  case round =>
    obtain ⟨k, hk, rfl, he, hB⟩ := hrel
    have HE := Lib.hid he; clear he
    by_cases hlt : k < n
    · obtain ⟨x, b, off, rfl, hb, hc, hx, _, HD⟩ := (HR.out.ext hB).nextK k hlt
      have h0 := hc 0 (by omega)
      have h1 := hc 1 (by omega)
      clear hc
      simp [enc2] at h0 h1
      have hcall := HF.out x hx wr hB
      have HB := Lib.hid hB; clear hB
      have HE2 : Hid ((if p x = true then (k : Int) else idxGo p (k + 1) (xs.drop (k + 1))) = R) := by have := HE.out; rw [HD.out] at this; exact this
      cases hq : p x
      · rw [hq] at hcall HE2
        go_wp2_with (go_at_fn g; refine hcall.mono ?_; rintro e w1 ⟨rfl, hb1⟩)
        go_roundw
        case rel => exact ⟨k + 1, by omega, by go_num, by simpa using HE2.out, HB.out.trans (hb1.mono HB.out.size)⟩
        case measure => simp [intOf]; omega
      · rw [hq] at hcall HE2
        have : R = k := by simpa using HE2.out.symm
        subst this
        go_wp2_with (go_at_fn g; refine hcall.mono ?_; rintro e w1 ⟨rfl, hb1⟩)
        go_ret
        exact ⟨rfl, HB.out.trans (hb1.mono HB.out.size)⟩
    · have : R = -1 := by rw [← HE.out, drop_end HL.out (by omega)]; rfl
      subst this
      go_wp2
      go_ret
      exact ⟨rfl, hB⟩
theorem sgp_con (g : Nat) (lb : Array Value) (p : P2 → Bool) (a : Option Addr) (n c : Nat) (xs : List P2) (w : World) (hR : Rd w a n 2 (xs.map enc2)) (hf : PredIn g lb valPc p xs w) :
    Calls Tryz.prog 64 #[.slice a n c, .func (.func g) #[] lb] w fun e w' => e = .returned (.bool (xs.any p)) ∧ Below w.heap.size w w' := by
  have HR := Lib.hid hR; clear hR
  have HF := Lib.hid hf; clear hf
  go_enter Tryz.func64, Tryz.ntmps64
  go_wp2_with (go_at_call 99; refine (sgp_idx _ _ _ _ _ _ _ _ HR.out HF.out).mono ?_; rintro e w1 ⟨rfl, hb1⟩)
  go_ret
  exact ⟨ret_bool (idxGo_any p xs 0), by (repeat' (first | (with_reducible exact Below.refl _ _) | (with_reducible assumption) | (with_reducible refine Below.alloc ?_ ?_ _) | (with_reducible refine Below.drew ?_) | (with_reducible refine Below.draws ?_ _) | (with_reducible refine Below.setCell ?_ ?_ _) | (refine Below.then ?_ (by with_reducible assumption)) | go_size))⟩

theorem v1_any (x : Int) (w : World) : Calls Tryz.prog 58 #[valZ x] w fun e w' => e = .returned (.bool (!inB x 0 1000)) ∧ Below w.heap.size w w' := by
  obtain ⟨B, hB⟩ : ∃ B, inB x 0 1000 = B := ⟨_, rfl⟩
  rw [hB]
  have HB := Lib.hid hB
  clear hB
  show Calls Tryz.prog 58 #[.int .i64 x] w _
  go_enter Tryz.func58, Tryz.ntmps58
  go_wp2_with (go_at_call 39; (with_reducible refine (cwithin_is HB.out).mono ?_); rintro e w1 ⟨rfl, rfl⟩)
  go_ret
  exact ⟨rfl, by (repeat' (first | (with_reducible exact Below.refl _ _) | (with_reducible assumption) | (with_reducible refine Below.alloc ?_ ?_ _) | (with_reducible refine Below.drew ?_) | (with_reducible refine Below.draws ?_ _) | (with_reducible refine Below.setCell ?_ ?_ _) | (refine Below.then ?_ (by with_reducible assumption)) | go_size))⟩
theorem v3_any (v : EvV) (w : World) (hR : Rd w v.a v.n 2 (v.es.map enc2)) : Calls Tryz.prog 61 #[valV v] w fun e w' => e = .returned (.bool (!evB v.es)) ∧ Below w.heap.size w w' := by
  obtain ⟨a, n, c, es⟩ := v
  have HR := Lib.hid hR
  clear hR
  obtain ⟨B, hB⟩ : ∃ B, evB es = B := ⟨_, rfl⟩
  have HE := Lib.hid (events_any a n c es w HR.out)
  rw [hB] at HE
  show Calls Tryz.prog 61 #[.slice a n c] w fun e w' => e = .returned (.bool (!evB es)) ∧ Below w.heap.size w w'
  rw [hB]
  clear hB
  go_enter Tryz.func61, Tryz.ntmps61
  go_wp2_with (go_at_call 62; (with_reducible refine HE.out.mono ?_); rintro e w1 ⟨rfl, hb1⟩)
  go_ret
  exact ⟨rfl, hb1⟩
def sgB (n : Nat) (g : P2) : Bool := inB g.1 0 1000000 && inB g.2 0 ((n : Int) - 1)
theorem v2_any (g : P2) (q n : Nat) (hn : n ≤ 1000) (w : World) (hq : q < w.heap.size) (hc : w.cell? ⟨q, 0, none⟩ = some (.int .i64 (n : Int))) : Calls Tryz.prog 59 #[valPc g, .pointer (some ⟨q, 0, none⟩)] w fun e w' => e = .returned (.bool (!sgB n g)) ∧ Below w.heap.size w w' := by
  obtain ⟨x, y⟩ := g
  have wn : IntKind.i64.wrap ((n : Int) - 1) = (n : Int) - 1 := IntWalk.i64_in _ (by omega)
  obtain ⟨A, hA⟩ : ∃ B, inB x 0 1000000 = B := ⟨_, rfl⟩
  obtain ⟨B, hB⟩ : ∃ B, inB y 0 ((n : Int) - 1) = B := ⟨_, rfl⟩
  show Calls Tryz.prog 59 #[.agg #[.int .i64 x, .int .i64 y], .pointer (some ⟨q, 0, none⟩)] w fun e w' => e = .returned (.bool (!sgB n (x, y))) ∧ Below w.heap.size w w'
  unfold sgB
  simp only []
  rw [hA, hB]
  have HA := Lib.hid hA; have HB := Lib.hid hB
  clear hA hB
  cases A
  · go_enter Tryz.func59, Tryz.ntmps59
    go_wp2_with (go_at_call 39; (with_reducible refine (cwithin_is HA.out).mono ?_); rintro e w1 ⟨rfl, rfl⟩)
    go_ret
    exact ⟨rfl, by (repeat' (first | (with_reducible exact Below.refl _ _) | (with_reducible assumption) | (with_reducible refine Below.alloc ?_ ?_ _) | (with_reducible refine Below.drew ?_) | (with_reducible refine Below.draws ?_ _) | (with_reducible refine Below.setCell ?_ ?_ _) | (refine Below.then ?_ (by with_reducible assumption)) | go_size))⟩
  · go_enter Tryz.func59, Tryz.ntmps59
    go_wp2_with (first
      | (go_at_call 39; (with_reducible refine (cwithin_is HA.out).mono ?_); rintro e w1 ⟨rfl, rfl⟩)
      | (go_at_call 39; (with_reducible refine (cwithin_is HB.out).mono ?_); rintro e w1 ⟨rfl, rfl⟩))
    go_ret
    exact ⟨rfl, by (repeat' (first | (with_reducible exact Below.refl _ _) | (with_reducible assumption) | (with_reducible refine Below.alloc ?_ ?_ _) | (with_reducible refine Below.drew ?_) | (with_reducible refine Below.draws ?_ _) | (with_reducible refine Below.setCell ?_ ?_ _) | (refine Below.then ?_ (by with_reducible assumption)) | go_size))⟩
end Go.Proofs.YtlhnhmimhpcoaaaGreat
namespace Go.Proofs.YtlhnhmimhpcoaaaGreat
open Go.RowKit
theorem wpList_pushM {P : Program} {ops : Array Oper} {rest : List Oper} {o : Oper} {a : Act} {Q : Exit → Act → World → Prop} {w : World} {T : TypeId} {arr : Array Value} {N : Nat} (hN : N = w.heap.size) (hgd : o.guard = none) (s x : Operand) (t : TypeId)
    (ho : o.op = .call { callee := .builtin .append, args := #[s, x], argTypes := #[t, t] }) {e k bytes B n c : Nat} (E : Elt P t e k bytes) {v : Value} {xs : List Value}
    (hs : a.eval s = v) (hown : w.ownsRow B e k v n xs) (hx : a.eval x = .slice (some ⟨N, 0, none⟩) 1 c) (harr : arr.size = k) (h1 : ∀ u ∈ arr.toList, u.oneCell' = true)
    (hn : n ≤ 100000000) (hby : bytes ≤ 1000) (hB : B ≤ w.heap.size)
    (h : ∀ a' c' w', w'.ownsRow B e k (.slice a' (n + 1) c') (n + 1) (xs ++ arr.toList) → (w.alloc (.cells arr T)).grownBy w' v.ownBlock → wpList P ops Q rest (a.put o.dst (.slice a' (n + 1) c')) w') :
    wpList P ops Q (o :: rest) a (w.alloc (.cells arr T)) := by
  subst hN
  obtain ⟨i, z, h2, h3, h4, h5, h6⟩ := E.hi
  refine wpList_append_own (w.alloc (.cells arr T)) hgd s x t ho B e i z k bytes E.ht h2 h3 h4 h5 h6 E.hk v n xs hs (hown.alloc _) ⟨w.heap.size, 0, none⟩ 1 c arr.toList hx (by simpa using harr) ?_ h1 (by unfold maxLen; omega) ?_ (by simp; omega) ?_
  · intro j u hj
    have : (w.alloc (.cells arr T)).cell? ⟨w.heap.size, j, none⟩ = arr[j]? := World.cell?_alloc_new w arr T j
    have e : (⟨w.heap.size, 0, none⟩ : Addr).add j = ⟨w.heap.size, j, none⟩ := by unfold Addr.add; split <;> simp_all
    rw [e, this]; simpa using hj
  · have : (n + 1) * bytes ≤ 100000001 * 1000 := Nat.mul_le_mul (by omega) hby
    omega
  · intro v' w' hown' hg _
    obtain ⟨hl, h7⟩ := hown'
    rcases h7 with ⟨_, h8⟩ | ⟨g, cap, cur, rfl, h9⟩
    · omega
    · exact h _ _ _ ⟨hl, .inr ⟨g, cap, cur, rfl, h9⟩⟩ hg
end Go.Proofs.YtlhnhmimhpcoaaaGreat
