/- Slack of both sides. The conditions: the tasks read as named. -/
import Derived.Test.YtabbmnnohnfbeaaRsSlkR
import Derived.Test.YtabbmnnohnfbeaaTkMut
import Derived.BigRegion
namespace Go.Proofs.Ytabbmnnohnfbeaa
open Go.RowKit
set_option linter.unusedSimpArgs false
set_option linter.unusedVariables false
theorem raised_is {a : Option Addr} {n c t : Nat} {m F S : Int} {L : List Ta} {b : Bool} {w : World} (hL : RdL w a n L) (hv : ValidT L) (hS : supB F S = true) (ht : t < n) (h0 : 0 ≤ m ∧ m ≤ 200) (h : accB (longL L t m) F S = b) :
    Calls Try.prog 88 #[.slice a n c, .agg #[.int .i64 F, .int .i64 S], .int .i64 (t : Nat), .int .i64 m] w fun e w' => e = .returned (.bool b) ∧ Below w.heap.size w w' := by subst h; exact raised_any a n c t m F S L w hL hv hS ht h0
theorem slkR_no {L : List Ta} {F S t : Int} (h : (okB L F S && inB t 0 ((L.length : Int) - 1)) = false) : slkR L F S t = (0, 1) := by unfold slkR; rw [h]; rfl
set_option maxRecDepth 100000 in
set_option maxHeartbeats 4000000 in
theorem Slack_any (a : Option Addr) (n c : Nat) (F S t : Int) (L : List Ta) (w : World) (hL : RdL w a n L) :
    Calls Try.prog 45 #[.slice a n c, .agg #[.int .i64 F, .int .i64 S], .int .i64 t] w fun e w' => e = rII (slkR L F S t).1 (slkR L F S t).2 ∧ Below w.heap.size w w' := by
  have hll := hL.length
  have hs := hL.small
  have HR := Lib.hid hL
  cases hok : okB L F S
  · rw [slkR_no (by rw [hok]; rfl)]
    have HOK := Lib.hid hok
    clear hL hok hll
    go_enter Try.func45, Try.ntmps45
    go_wp2_with (go_at_call 52; (with_reducible refine (right25_is (HR.out.ext (by (repeat' (first | (with_reducible exact Below.refl _ _) | (with_reducible assumption) | (with_reducible refine Below.alloc ?_ ?_ _) | (with_reducible refine Below.drew ?_) | (with_reducible refine Below.draws ?_ _) | (with_reducible refine Below.setCell ?_ ?_ _) | (refine Below.then ?_ (by with_reducible assumption)) | go_size)))) HOK.out).mono ?_); rintro e w1 ⟨rfl, hb1⟩; have B1 := Lib.hid (Below.then (show Below w.heap.size w (w.alloc (.cells #[.int .i64 F, .int .i64 S] 24)) by (repeat' (first | (with_reducible exact Below.refl _ _) | (with_reducible assumption) | (with_reducible refine Below.alloc ?_ ?_ _) | (with_reducible refine Below.drew ?_) | (with_reducible refine Below.draws ?_ _) | (with_reducible refine Below.setCell ?_ ?_ _) | (refine Below.then ?_ (by with_reducible assumption)) | go_size))) hb1); clear hb1)
    go_ret2
    exact ⟨rII_eq rfl rfl, B1.out⟩
  · have HOK := Lib.hid hok
    by_cases h0 : t < 0
    · rw [slkR_no (by rw [hok, Bool.true_and]; unfold inB; simp; omega)]
      have h0' : decide (t < 0) = true := by simpa using h0
      clear hL hok hll
      go_enter Try.func45, Try.ntmps45
      go_wp2_with (go_at_call 52; (with_reducible refine (right25_is (HR.out.ext (by (repeat' (first | (with_reducible exact Below.refl _ _) | (with_reducible assumption) | (with_reducible refine Below.alloc ?_ ?_ _) | (with_reducible refine Below.drew ?_) | (with_reducible refine Below.draws ?_ _) | (with_reducible refine Below.setCell ?_ ?_ _) | (refine Below.then ?_ (by with_reducible assumption)) | go_size)))) HOK.out).mono ?_); rintro e w1 ⟨rfl, hb1⟩; have B1 := Lib.hid (Below.then (show Below w.heap.size w (w.alloc (.cells #[.int .i64 F, .int .i64 S] 24)) by (repeat' (first | (with_reducible exact Below.refl _ _) | (with_reducible assumption) | (with_reducible refine Below.alloc ?_ ?_ _) | (with_reducible refine Below.drew ?_) | (with_reducible refine Below.draws ?_ _) | (with_reducible refine Below.setCell ?_ ?_ _) | (refine Below.then ?_ (by with_reducible assumption)) | go_size))) hb1); clear hb1)
      go_ret2
      exact ⟨rII_eq rfl rfl, B1.out⟩
    · have h0' : decide (t < 0) = false := by simpa using h0
      obtain ⟨q, rfl⟩ := Int.eq_ofNat_of_zero_le (show 0 ≤ t by omega)
      by_cases h1 : n ≤ q
      · rw [slkR_no (by rw [hok, Bool.true_and]; unfold inB; simp; omega)]
        have h1' : decide ((n : Int) ≤ (q : Int)) = true := by simp; omega
        clear hL hok hll
        go_enter Try.func45, Try.ntmps45
        go_wp2_with (go_at_call 52; (with_reducible refine (right25_is (HR.out.ext (by (repeat' (first | (with_reducible exact Below.refl _ _) | (with_reducible assumption) | (with_reducible refine Below.alloc ?_ ?_ _) | (with_reducible refine Below.drew ?_) | (with_reducible refine Below.draws ?_ _) | (with_reducible refine Below.setCell ?_ ?_ _) | (refine Below.then ?_ (by with_reducible assumption)) | go_size)))) HOK.out).mono ?_); rintro e w1 ⟨rfl, hb1⟩; have B1 := Lib.hid (Below.then (show Below w.heap.size w (w.alloc (.cells #[.int .i64 F, .int .i64 S] 24)) by (repeat' (first | (with_reducible exact Below.refl _ _) | (with_reducible assumption) | (with_reducible refine Below.alloc ?_ ?_ _) | (with_reducible refine Below.drew ?_) | (with_reducible refine Below.draws ?_ _) | (with_reducible refine Below.setCell ?_ ?_ _) | (refine Below.then ?_ (by with_reducible assumption)) | go_size))) hb1); clear hb1)
        go_ret2
        exact ⟨rII_eq rfl rfl, B1.out⟩
      · have h1' : decide ((n : Int) ≤ (q : Int)) = false := by simp; omega
        have hqn : q < n := by omega
        have hql : q < L.length := by omega
        have hvs : validL L = true ∧ supB F S = true := by unfold okB at hok; simpa using hok
        have HV := Lib.hid (valid_of hvs.1)
        have HS := Lib.hid hvs.2
        have hin : inB (q : Int) 0 ((L.length : Int) - 1) = true := inB_iff.2 (by omega)
        obtain ⟨ac, hac⟩ : ∃ b, accB L F S = b := ⟨_, rfl⟩
        have HAC := Lib.hid hac
        have hR : slkR L F S (q : Int) = if ac = true then (slkN L F S q, 0) else (0, 15) := by unfold slkR; rw [hok, hin, hac]; rfl
        rw [hR]
        cases ac
        · simp only [Bool.false_eq_true, if_false]
          clear hL hok hll hac hR hvs hin
          go_enter Try.func45, Try.ntmps45
          go_wp2_with (first
            | (go_at_call 52; (with_reducible refine (right25_is (HR.out.ext (by (repeat' (first | (with_reducible exact Below.refl _ _) | (with_reducible assumption) | (with_reducible refine Below.alloc ?_ ?_ _) | (with_reducible refine Below.drew ?_) | (with_reducible refine Below.draws ?_ _) | (with_reducible refine Below.setCell ?_ ?_ _) | (refine Below.then ?_ (by with_reducible assumption)) | go_size)))) HOK.out).mono ?_); rintro e w1 ⟨rfl, hb1⟩; have B1 := Lib.hid (Below.then (show Below w.heap.size w (w.alloc (.cells #[.int .i64 F, .int .i64 S] 24)) by (repeat' (first | (with_reducible exact Below.refl _ _) | (with_reducible assumption) | (with_reducible refine Below.alloc ?_ ?_ _) | (with_reducible refine Below.drew ?_) | (with_reducible refine Below.draws ?_ _) | (with_reducible refine Below.setCell ?_ ?_ _) | (refine Below.then ?_ (by with_reducible assumption)) | go_size))) hb1); have s0 := keep_cell' hb1 (b := w.heap.size) (o := 0) (v := .int .i64 F) (by simp [go_sem]); have s1 := keep_cell' hb1 (b := w.heap.size) (o := 1) (v := .int .i64 S) (by simp [go_sem]); clear hb1)
            | (go_at_call 53; (with_reducible refine (acc_is (HR.out.ext B1.out) HV.out HS.out HAC.out).mono ?_); rintro e w2 ⟨rfl, hb2⟩; have B2 := Lib.hid (Below.then B1.out hb2); clear hb2))
          go_ret2
          exact ⟨rII_eq rfl rfl, B2.out⟩
        · simp only [if_true]
          have HN := Lib.hid (slkN_is (L := L) hql hac)
          have HL0 : Hid (accB (longL L q 0) F S = true) := Lib.hid (by rw [longL_zero L hql]; exact hac)
          have HQL := Lib.hid hql
          clear hL hok hll hac hR hvs hin hql
          go_enter Try.func45, Try.ntmps45
          go_wp2_with (first
            | (go_at_call 52; (with_reducible refine (right25_is (HR.out.ext (by (repeat' (first | (with_reducible exact Below.refl _ _) | (with_reducible assumption) | (with_reducible refine Below.alloc ?_ ?_ _) | (with_reducible refine Below.drew ?_) | (with_reducible refine Below.draws ?_ _) | (with_reducible refine Below.setCell ?_ ?_ _) | (refine Below.then ?_ (by with_reducible assumption)) | go_size)))) HOK.out).mono ?_); rintro e w1 ⟨rfl, hb1⟩; have B1 := Lib.hid (Below.then (show Below w.heap.size w (w.alloc (.cells #[.int .i64 F, .int .i64 S] 24)) by (repeat' (first | (with_reducible exact Below.refl _ _) | (with_reducible assumption) | (with_reducible refine Below.alloc ?_ ?_ _) | (with_reducible refine Below.drew ?_) | (with_reducible refine Below.draws ?_ _) | (with_reducible refine Below.setCell ?_ ?_ _) | (refine Below.then ?_ (by with_reducible assumption)) | go_size))) hb1); have s0 := keep_cell' hb1 (b := w.heap.size) (o := 0) (v := .int .i64 F) (by simp [go_sem]); have s1 := keep_cell' hb1 (b := w.heap.size) (o := 1) (v := .int .i64 S) (by simp [go_sem]); clear hb1)
            | (go_at_call 53; (with_reducible refine (acc_is (HR.out.ext B1.out) HV.out HS.out HAC.out).mono ?_); rintro e w2 ⟨rfl, hb2⟩; have B2 := Lib.hid (Below.then B1.out hb2); have r0 := keep_cell' hb2 s0; have r1 := keep_cell' hb2 s1; clear hb2))
          have HS0 := Lib.hid r0; have HS1 := Lib.hid r1
          clear s0 s1 r0 r1
          go_loopw [8, 9, 10] (fun f l h wr => ∃ (fi hi : Int), 0 ≤ fi ∧ f = .int .i64 fi ∧ l = .int .i64 (fi + 1) ∧ h = .int .i64 hi ∧ fi ≤ hi ∧ hi ≤ 200 ∧ accB (longL L q fi) F S = true ∧ (hi = 200 ∨ accB (longL L q (hi + 1)) F S = false) ∧ Below w2.heap.size w2 wr) (fun _ l h _ => (intOf h - intOf l + 1).toNat)
          case atStart => exact ⟨0, 200, by omega, rfl, rfl, rfl, by omega, by omega, HL0.out, .inl rfl, Below.refl _ _⟩
          case round =>
            obtain ⟨fi, hi, hf0, rfl, rfl, rfl, hfh, hh2, ha1, ha2, hB⟩ := hrel
            have HA1 := Lib.hid ha1; have HA2 := Lib.hid ha2; have HB := Lib.hid hB
            have s0 := keep_cell' hB HS0.out; have s1 := keep_cell' hB HS1.out
            clear ha1 ha2 hB
            by_cases hlt : fi + 1 ≤ hi
            · have hlt' : decide (fi + 1 ≤ hi) = true := by simpa using hlt
              obtain ⟨mid, hmid⟩ : ∃ x, (fi + 1 + hi) / 2 = x := ⟨_, rfl⟩
              have hm1 : fi + 1 ≤ mid := by omega
              have hm2 : mid ≤ hi := by omega
              have hm0 : 0 ≤ fi + 1 + hi := by omega
              obtain ⟨b, hb⟩ : ∃ b, accB (longL L q mid) F S = b := ⟨_, rfl⟩
              have HBM := Lib.hid hb
              have hmm : 0 ≤ mid ∧ mid ≤ 200 := by omega
              cases b
              · clear hb
                go_wp2_with (go_at_call 88; (with_reducible refine (raised_is (HR.out.ext (Below.then B2.out HB.out)) HV.out HS.out hqn hmm HBM.out).mono ?_); rintro e w3 ⟨rfl, hb3⟩; have B3 := Lib.hid hb3; clear hb3)
                go_roundw
                case rel => exact ⟨fi, mid - 1, hf0, rfl, rfl, rfl, by omega, by omega, HA1.out, .inr (by rw [show mid - 1 + 1 = mid by omega]; exact HBM.out), Below.then HB.out B3.out⟩
                case measure => simp [intOf]; omega
              · clear hb
                go_wp2_with (go_at_call 88; (with_reducible refine (raised_is (HR.out.ext (Below.then B2.out HB.out)) HV.out HS.out hqn hmm HBM.out).mono ?_); rintro e w3 ⟨rfl, hb3⟩; have B3 := Lib.hid hb3; clear hb3)
                go_roundw
                case rel => exact ⟨mid, hi, by omega, rfl, rfl, rfl, by omega, by omega, HBM.out, HA2.out, Below.then HB.out B3.out⟩
                case measure => simp [intOf]; omega
            · have hlt' : decide (fi + 1 ≤ hi) = false := by simpa using hlt
              obtain rfl : fi = hi := by omega
              obtain rfl : fi = slkN L F S q := IsSlk.unique HV.out HQL.out ⟨hf0, hh2, HA1.out, HA2.out⟩ HN.out
              go_wp2_with fail
              go_ret2
              exact ⟨rII_eq rfl rfl, Below.then B2.out HB.out⟩
/-- the first piece of task q is made longer, in place -/
theorem MutT.long {B : Nat} {w : World} {a : Option Addr} {n c : Nat} {g : List TaV} (h : MutT B w a n c g) {q : Nat} {t : TaV} (hq : g[q]? = some t) {pb : Nat} (ha : t.a = some ⟨pb, 0, none⟩) {p : P2} (hp : t.pcs[0]? = some p) (m : Int) :
    ∃ g' t', MutT B (w.setCell ⟨pb, 0, none⟩ (.int .i64 (p.1 + m))) a n c g' ∧ g'.map TaV.ta = longL (g.map TaV.ta) q m ∧ g'[q]? = some t' ∧ t'.a = t.a ∧ t'.n = t.n ∧ t'.c = t.c ∧ t'.pcs[0]? = some (p.1 + m, p.2) := by
  have := h.setP (t' := { t with pcs := t.pcs.set 0 (p.1 + m, p.2) }) hq ha hp 0 (by omega) (.int .i64 (p.1 + m)) (p' := (p.1 + m, p.2)) rfl rfl
  refine ⟨_, { t with pcs := t.pcs.set 0 (p.1 + m, p.2) }, this, ?_, ?_, rfl, rfl, rfl, ?_⟩
  · rw [set_map, longL, taAt_of (by rw [List.getElem?_map, hq]; rfl)]
    congr 1
    unfold longT TaV.ta
    simp only []
    congr 1
    cases hc : t.pcs with
    | nil => rw [hc] at hp; simp at hp
    | cons x ps => rw [hc] at hp; simp at hp; subst hp; rfl
  · rw [List.getElem?_set_self (List.getElem?_eq_some_iff.1 hq).1]
  · simp only []
    rw [List.getElem?_set_self (List.getElem?_eq_some_iff.1 hp).1]
set_option maxRecDepth 100000 in
set_option maxHeartbeats 4000000 in
theorem rSlack_any (a : Option Addr) (n c : Nat) (F S t : Int) (L : List Ta) (w : World) (hL : RdL w a n L) (hN : NilOk a n c) :
    Calls Try.prog 46 #[.slice a n c, .agg #[.int .i64 F, .int .i64 S], .int .i64 t] w fun e w' => e = rII (slkR L F S t).1 (slkR L F S t).2 ∧ Below w.heap.size w w' := by
  have hll := hL.length
  have hs := hL.small
  have HR := Lib.hid hL
  have HNN := Lib.hid hN
  obtain ⟨ok, hok⟩ : ∃ b, (okB L F S && inB t 0 ((n : Int) - 1)) = b := ⟨_, rfl⟩
  have HOK := Lib.hid hok
  cases ok
  · rw [slkR_no (by rw [hll]; exact hok)]
    clear hL hok hll hN
    go_enter Try.func46, Try.ntmps46
    go_wp2_with (go_at_call 55; (with_reducible refine (ready_is (HR.out.ext (by (repeat' (first | (with_reducible exact Below.refl _ _) | (with_reducible assumption) | (with_reducible refine Below.alloc ?_ ?_ _) | (with_reducible refine Below.drew ?_) | (with_reducible refine Below.draws ?_ _) | (with_reducible refine Below.setCell ?_ ?_ _) | (refine Below.then ?_ (by with_reducible assumption)) | go_size)))) HOK.out).mono ?_); rintro e w1 ⟨rfl, hb1⟩; have B1 := Lib.hid (Below.then (show Below w.heap.size w (w.alloc (.cells #[.int .i64 F, .int .i64 S] 24)) by (repeat' (first | (with_reducible exact Below.refl _ _) | (with_reducible assumption) | (with_reducible refine Below.alloc ?_ ?_ _) | (with_reducible refine Below.drew ?_) | (with_reducible refine Below.draws ?_ _) | (with_reducible refine Below.setCell ?_ ?_ _) | (refine Below.then ?_ (by with_reducible assumption)) | go_size))) hb1); clear hb1)
    go_ret2
    exact ⟨rII_eq rfl rfl, B1.out⟩
  · rw [Bool.and_eq_true] at hok
    obtain ⟨hok1, hok2⟩ := hok
    obtain ⟨h0, h1⟩ := inB_iff.1 hok2
    obtain ⟨q, rfl⟩ := Int.eq_ofNat_of_zero_le h0
    have hqn : q < n := by omega
    have hql : q < L.length := by omega
    have hvs : validL L = true ∧ supB F S = true := by unfold okB at hok1; simpa using hok1
    have hV := valid_of hvs.1
    have HV := Lib.hid hV
    have HS := Lib.hid hvs.2
    have hn5 : n ≤ 5 := by rw [← hll]; exact hV.r.len
    have HP : Hid (∀ t ∈ L, t.pcs.length ≤ 1000) := Lib.hid (fun t ht => by have := (hV.r.pcs t ht).2; omega)
    have HQL := Lib.hid hql
    obtain ⟨ac, hac⟩ : ∃ b, accB L F S = b := ⟨_, rfl⟩
    have hR : slkR L F S (q : Int) = if ac = true then (slkN L F S q, 0) else (0, 15) := by unfold slkR; rw [hok1, hll, hok2, hac]; rfl
    obtain ⟨R, hRR⟩ : ∃ R, slkFrom L F S q (201 - 0) 0 (-1) = R := ⟨_, rfl⟩
    have HA := Lib.hid hRR
    have HN0 : Hid (ac = false → R = -1) := Lib.hid (fun e => by rw [← hRR]; exact slkN_no hql (hac.trans e))
    have HN1 : Hid (ac = true → 0 ≤ R ∧ R = slkN L F S q) := Lib.hid (fun e => by
      have := slkN_is (L := L) hql (hac.trans e)
      have h2 : slkN L F S q = R := hRR
      rw [h2] at this
      exact ⟨this.lo, h2.symm⟩)
    have HRES := Lib.hid hR
    rw [hR]
    clear hL hok1 hok2 hll hac hR hvs hV hql hRR hN
    go_enter Try.func46, Try.ntmps46
    go_wp2_with (go_at_call 55; (with_reducible refine (ready_is (HR.out.ext (by (repeat' (first | (with_reducible exact Below.refl _ _) | (with_reducible assumption) | (with_reducible refine Below.alloc ?_ ?_ _) | (with_reducible refine Below.drew ?_) | (with_reducible refine Below.draws ?_ _) | (with_reducible refine Below.setCell ?_ ?_ _) | (refine Below.then ?_ (by with_reducible assumption)) | go_size)))) HOK.out).mono ?_); rintro e w1 ⟨rfl, hb1⟩; have B1 := Lib.hid (Below.then (show Below w.heap.size w (w.alloc (.cells #[.int .i64 F, .int .i64 S] 24)) by (repeat' (first | (with_reducible exact Below.refl _ _) | (with_reducible assumption) | (with_reducible refine Below.alloc ?_ ?_ _) | (with_reducible refine Below.drew ?_) | (with_reducible refine Below.draws ?_ _) | (with_reducible refine Below.setCell ?_ ?_ _) | (refine Below.then ?_ (by with_reducible assumption)) | go_size))) hb1); have s0 := keep_cell' hb1 (b := w.heap.size) (o := 0) (v := .int .i64 F) (by simp [go_sem]); have s1 := keep_cell' hb1 (b := w.heap.size) (o := 1) (v := .int .i64 S) (by simp [go_sem]); clear hb1)
    have HS0 := Lib.hid s0; have HS1 := Lib.hid s1
    have hl1 := World.block_lt_of_cell? w1 _ s0
    simp only [] at hl1
    clear s0 s1
    go_loopw [9, 10] (fun bv nv wr => ∃ (k : Nat) (b : Int), k ≤ 201 ∧ nv = .int .i64 k ∧ bv = .int .i64 b ∧ slkFrom L F S q (201 - k) k b = R ∧ Below w1.heap.size w1 wr) (fun _ nv _ => 201 - (intOf nv).toNat)
    case atStart => exact ⟨0, -1, Nat.zero_le _, rfl, rfl, HA.out, Below.refl _ _⟩
    case round =>
      clear HA
      obtain ⟨k, b, hk, rfl, rfl, he, hB⟩ := hrel
      have HE := Lib.hid he; have HB := Lib.hid hB
      have s0 := keep_cell' hB HS0.out; have s1 := keep_cell' hB HS1.out
      clear he hB
      by_cases hlt : k ≤ 200
      · have hlt' : decide ((k : Int) ≤ 200) = true := by simp; omega
        have hE := HE.out
        obtain ⟨x, hx⟩ : ∃ x, accB (longL L q k) F S = x := ⟨_, rfl⟩
        have HX := Lib.hid hx
        rw [show 201 - k = (201 - (k + 1)) + 1 by omega, slkFrom, hx] at hE
        have HE2 := Lib.hid hE
        clear hE hx
        go_wp2_with (go_at_call 29; (with_reducible refine (copied_M _ _ _ L (by omega) HP.out _ (HR.out.ext (Below.then B1.out HB.out)) HNN.out).mono ?_); rintro e w2 ⟨a2, c2, g2, rfl, hm2, hg2, hb2⟩; have HM2 := Lib.hid hm2; have HG2 := Lib.hid hg2; have B2 := Lib.hid hb2; have t0 := keep_cell' hb2 s0; have t1 := keep_cell' hb2 s1; clear hm2 hg2 hb2)
        obtain ⟨qb, rfl, hq1, hq2⟩ := HM2.out.addr (by omega)
        have hgl : g2.length = n := HM2.out.rd.length
        obtain ⟨t, ht⟩ : ∃ t, g2[q]? = some t := ⟨_, List.getElem?_eq_getElem (by omega)⟩
        have htm : t.ta ∈ L := by rw [← HG2.out]; exact List.mem_map_of_mem (List.mem_of_getElem? ht)
        have hpl := HV.out.r.pcs _ htm
        have hpn : t.pcs.length = t.n := by have := (HM2.out.rd.ok _ (List.mem_of_getElem? ht)).1.length; simpa using this
        have hpl' : 1 ≤ t.pcs.length ∧ t.pcs.length ≤ 8 := hpl
        obtain ⟨pb, hpa, hp1, hp2, _⟩ := (HM2.out.own.ok _ (List.mem_of_getElem? ht)).addr (by omega)
        obtain ⟨p, hp⟩ : ∃ p, t.pcs[0]? = some p := ⟨_, List.getElem?_eq_getElem (by omega)⟩
        obtain ⟨c5, f5⟩ := HM2.out.at_ ht 5 (by omega)
        obtain ⟨z0, g0⟩ := HM2.out.piece ht hpa hp 0 (by omega)
        obtain ⟨g3, _, hM3, hg3, _⟩ := HM2.out.long ht hpa hp k
        have hpb := (HV.out.r.piece _ htm p (List.mem_of_getElem? hp)).1
        obtain ⟨pt, py⟩ := p
        simp [encTa, hpa] at c5
        simp [enc2] at z0
        simp only [Nat.zero_mul, Nat.add_zero] at g0
        simp only [] at hpb
        have hwr : IntKind.i64.wrap (pt + k) = pt + k := IntWalk.i64_in _ (by omega)
        have hne1 : ¬ pb = w.heap.size := by have := HB.out.size; omega
        have hn0 : 0 < t.n := by omega
        rw [HG2.out] at hg3
        have HRD : Hid (RdL (w2.setCell ⟨pb, 0, none⟩ (.int .i64 (pt + k))).drew (some ⟨qb, 0, none⟩) n (longL L q k)) := Lib.hid (by
          rw [← hg3]
          exact (hM3.ext (Below.refl _ _).drew).rdL)
        have HW4 : Hid (Below w1.heap.size w1 (w2.setCell ⟨pb, 0, none⟩ (.int .i64 (pt + k))).drew) := Lib.hid ((Below.then HB.out B2.out).trans ((Below.refl w1.heap.size w2).setCell (by have := HB.out.size; simp only []; omega) _).drew)
        have HV4 := Lib.hid (HV.out.long HQL.out (m := k) (by omega) (by omega))
        clear hM3 hg3 ht htm hpl hpl' hpn hp
        cases x
        · have hE2 := HE2.out
          simp only [Bool.false_eq_true, if_false] at hE2
          subst hE2
          cases ac
          · obtain rfl := HN0.out rfl
            go_wp2_with fail
            go_region
            go_wp2_with (go_at_call 68; (with_reducible refine (racc_is4 HRD.out HV4.out HS.out HX.out).mono ?_); rintro e w5 ⟨rfl, hb5⟩; have B5 := Lib.hid (Below.then HW4.out hb5); clear hb5)
            go_ret2
            exact ⟨rII_eq rfl rfl, Below.then B1.out B5.out⟩
          · obtain ⟨hb0, hbs⟩ := HN1.out rfl
            have hb0' : decide (b < 0) = false := by simp; omega
            go_wp2_with fail
            go_region
            go_wp2_with (go_at_call 68; (with_reducible refine (racc_is4 HRD.out HV4.out HS.out HX.out).mono ?_); rintro e w5 ⟨rfl, hb5⟩; have B5 := Lib.hid (Below.then HW4.out hb5); clear hb5)
            go_ret2
            exact ⟨rII_eq rfl rfl, Below.then B1.out B5.out⟩
        · simp only [if_true] at HE2
          go_wp2_with fail
          go_region
          go_wp2_with (go_at_call 68; (with_reducible refine (racc_is4 HRD.out HV4.out HS.out HX.out).mono ?_); rintro e w5 ⟨rfl, hb5⟩; have B5 := Lib.hid (Below.then HW4.out hb5); clear hb5)
          go_roundw
          case rel => exact ⟨k + 1, k, by omega, by go_num, rfl, HE2.out, B5.out⟩
          case measure => simp [intOf]; omega
      · have hlt' : decide ((k : Int) ≤ 200) = false := by simp; omega
        have hE := HE.out
        rw [show 201 - k = 0 by omega, slkFrom] at hE
        subst hE
        cases ac
        · obtain rfl := HN0.out rfl
          go_wp2_with fail
          go_ret2
          exact ⟨rII_eq rfl rfl, Below.then B1.out HB.out⟩
        · obtain ⟨hb0, hbs⟩ := HN1.out rfl
          have hb0' : decide (b < 0) = false := by simp; omega
          go_wp2_with fail
          go_ret2
          exact ⟨rII_eq rfl rfl, Below.then B1.out HB.out⟩
end Go.Proofs.Ytabbmnnohnfbeaa
