/- The contract of Valid of a run (program). The conditions: the run reads as named. -/
import Derived.Test.YtmahagcghpoekaaGreatMg5
import Derived.Test.YtmahagcghpoekaaGreatMg9
import Derived.BigRegion
import Derived.IntWalk
namespace Go.Proofs.YtmahagcghpoekaaGreat
open Go.RowKit
set_option linter.unusedSimpArgs false
set_option linter.unusedVariables false
theorem cwithin_is {n a b : Int} {x : Bool} {w : World} (h : inB n a b = x) : Calls Tryz.prog 47 #[.int .i64 n, .int .i64 a, .int .i64 b] w fun e w' => e = .returned (.bool x) ∧ w = w' := by
  subst h
  go_enter Tryz.func47, Tryz.ntmps47
  go_wp2
  all_goals (go_ret; exact ⟨ret_bool (by rw [inB_eq]; simp [*]; try omega), rfl⟩)
theorem cin_is {n a b : Int} {x : Bool} {w : World} (h : inB n a b = x) : Calls Tryz.prog 81 #[.int .i64 n, .int .i64 a, .int .i64 b] w fun e w' => e = .returned (.bool x) ∧ w = w' := by
  subst h
  go_enter Tryz.func81, Tryz.ntmps81
  go_wp2
  all_goals (go_ret; exact ⟨ret_bool (by rw [inB_eq]; simp [*]; try omega), rfl⟩)
def gtP : Option Int → Int → Bool
  | none, _ => true
  | some x, y => decide (x ≤ y)
/-- events that may be, from one on; the moment ahead of them -/
def okFrom : Option Int → List P2 → Bool
  | _, [] => true
  | p, e :: es => (inB e.1 0 1000000 && inB e.2 0 1000000 && gtP p e.1) && okFrom (some e.1) es
def evB (l : List P2) : Bool := okFrom none l && decide (l.length ≤ 40)
def prvE (l : List P2) : Nat → Option Int
  | 0 => none
  | k + 1 => some ((l[k]?).getD default).1
theorem okFrom_step {l : List P2} {k : Nat} {x y : Int} (h : l[k]? = some (x, y)) : okFrom (prvE l k) (l.drop k) = ((inB x 0 1000000 && inB y 0 1000000 && gtP (prvE l k) x) && okFrom (prvE l (k + 1)) (l.drop (k + 1))) := by
  obtain ⟨h1, h2⟩ := List.getElem?_eq_some_iff.1 h
  rw [List.drop_eq_getElem_cons h1, h2, okFrom]
  simp only [prvE, h]
  rfl
set_option maxRecDepth 10000 in
set_option maxHeartbeats 2000000 in
theorem events_any (a : Option Addr) (n c : Nat) (l : List P2) (w : World) (hR : Rd w a n 2 (l.map enc2)) : Calls Tryz.prog 51 #[.slice a n c] w fun e w' => e = .returned (.bool (evB l)) ∧ Below w.heap.size w w' := by
  have hs := hR.small
  have hln := hR.length
  have HR := Lib.hid hR
  have HL := Lib.hid hln
  obtain ⟨B, hB⟩ : ∃ B, evB l = B := ⟨_, rfl⟩
  rw [hB]
  have HB0 : Hid ((okFrom (prvE l 0) (l.drop 0) && decide (n ≤ 40)) = B) := Lib.hid (by rw [← hB, ← hln]; rfl)
  clear hR hB hln
  go_enter Tryz.func51, Tryz.ntmps51
  go_wp2
  go_loopw [7] (fun i wr => ∃ k : Nat, k ≤ n ∧ i = .int .i64 k ∧ (okFrom (prvE l k) (l.drop k) && decide (n ≤ 40)) = B ∧ Below w.heap.size w wr) (fun i _ => n - (intOf i).toNat)
  case atStart => exact ⟨0, Nat.zero_le _, rfl, HB0.out, Below.refl _ _⟩
  case round =>
    clear HB0
    obtain ⟨k, hk, rfl, hX, hB⟩ := hrel
    have HB := Lib.hid hB
    by_cases hlt : k < n
    · obtain ⟨x, y, b, off, rfl, hb, d0, d1, hg, _⟩ := (HR.out.ext hB).pc_at' k hlt
      rw [okFrom_step hg] at hX
      cases hx : inB x 0 1000000
      · obtain rfl : B = false := by rw [hx] at hX; simpa using hX.symm
        have HX := Lib.hid hx
        clear hX hB hg hx
        go_wp2_with (refine wp_region_later_lit (by kernel_rfl) (by kernel_rfl) ?_; (repeat (go_big_quiet_step ((go_at_call 47; exact later_same (cwithin_is HX.out))))); refine wpQuiet_nil ?_; intro w1 hb1)
        go_ret
        exact ⟨rfl, Below.then (Below.alloc HB.out HB.out.size _) hb1⟩
      · cases hy : inB y 0 1000000
        · obtain rfl : B = false := by rw [hx, hy] at hX; simpa using hX.symm
          have HX := Lib.hid hx; have HY := Lib.hid hy
          clear hX hB hg hx hy
          go_wp2_with (refine wp_region_later_lit (by kernel_rfl) (by kernel_rfl) ?_; (repeat (go_big_quiet_step ((first | (go_at_call 47; exact later_same (cwithin_is HX.out)) | (go_at_call 47; exact later_same (cwithin_is HY.out)))))); refine wpQuiet_nil ?_; intro w1 hb1)
          go_ret
          exact ⟨rfl, Below.then (Below.alloc HB.out HB.out.size _) hb1⟩
        · rw [hx, hy] at hX
          have HX := Lib.hid hx; have HY := Lib.hid hy
          rcases Nat.eq_zero_or_pos k with hk0 | hk0
          · have hp : prvE l k = none := by rw [hk0]; rfl
            rw [hp, gtP] at hX
            have HX2 : Hid ((okFrom (prvE l (k + 1)) (l.drop (k + 1)) && decide (n ≤ 40)) = B) := Lib.hid (by simpa using hX)
            have hk0' : decide ((0 : Int) < (k : Int)) = false := by simp; omega
            have hk0'' : decide (0 < k) = false := by simp; omega
            clear hX hB hg hx hy hp hk0
            go_wp2_with (refine wp_region_later_lit (by kernel_rfl) (by kernel_rfl) ?_; (repeat (go_big_quiet_step ((first | (go_at_call 47; exact later_same (cwithin_is HX.out)) | (go_at_call 47; exact later_same (cwithin_is HY.out)))))); refine wpQuiet_nil ?_; intro w1 hb1)
            go_roundw
            case rel => exact ⟨k + 1, hlt, by go_num, HX2.out, Below.then (Below.alloc HB.out HB.out.size _) hb1⟩
            case measure => simp [intOf]; omega
          · obtain ⟨z, z2, b', off', e', _, g0, _, hg', _⟩ := (HR.out.ext hB).pc_at' (k - 1) (by omega)
            simp at e'
            obtain ⟨rfl, rfl⟩ := e'
            have hp : prvE l k = some z := by
              obtain ⟨m, rfl⟩ : ∃ m, k = m + 1 := ⟨k - 1, by omega⟩
              rw [Nat.add_sub_cancel] at hg'
              simp [prvE, hg']
            rw [hp, gtP] at hX
            have hk0' : decide ((0 : Int) < (k : Int)) = true := by simp; omega
            have hk0'' : decide (0 < k) = true := by simp; omega
            have wk : IntKind.i64.wrap ((k : Int) - 1) = ((k - 1 : Nat) : Int) := by rw [IntWalk.i64_in _ (by omega)]; omega
            have hk1 : k - 1 < n := by omega
            by_cases hz : z ≤ x
            · have hz' : decide (x < z) = false := by simp; omega
              have HX2 : Hid ((okFrom (prvE l (k + 1)) (l.drop (k + 1)) && decide (n ≤ 40)) = B) := Lib.hid (by simpa [hz] using hX)
              clear hX hB hg hx hy hp hg' hz
              go_wp2_with (refine wp_region_later_lit (by kernel_rfl) (by kernel_rfl) ?_; (repeat (go_big_quiet_step ((first | (go_at_call 47; exact later_same (cwithin_is HX.out)) | (go_at_call 47; exact later_same (cwithin_is HY.out)))))); refine wpQuiet_nil ?_; intro w1 hb1)
              go_roundw
              case rel => exact ⟨k + 1, hlt, by go_num, HX2.out, Below.then (Below.alloc HB.out HB.out.size _) hb1⟩
              case measure => simp [intOf]; omega
            · have hz' : decide (x < z) = true := by simp; omega
              obtain rfl : B = false := by simpa [hz] using hX.symm
              clear hX hB hg hx hy hp hg' hz
              go_wp2_with (refine wp_region_later_lit (by kernel_rfl) (by kernel_rfl) ?_; (repeat (go_big_quiet_step ((first | (go_at_call 47; exact later_same (cwithin_is HX.out)) | (go_at_call 47; exact later_same (cwithin_is HY.out)))))); refine wpQuiet_nil ?_; intro w1 hb1)
              go_ret
              exact ⟨rfl, Below.then (Below.alloc HB.out HB.out.size _) hb1⟩
    · rw [List.drop_of_length_le (by rw [HL.out]; omega)] at hX
      have hX2 : decide (n ≤ 40) = B := by simpa [okFrom] using hX
      have hX3 : decide ((n : Int) ≤ 40) = B := by rw [← hX2]; simp; omega
      clear hX hB
      go_wp2
      go_ret
      exact ⟨rfl, HB.out⟩
/-- a list of events in memory -/
structure EvV where
  a : Option Addr
  n : Nat
  c : Nat
  es : List P2
deriving Inhabited
def encV (v : EvV) : List Value := [.slice v.a v.n v.c]
abbrev valV (v : EvV) : Value := .slice v.a v.n v.c
abbrev valZ (x : Int) : Value := .int .i64 x
def EvL (w : World) (a : Option Addr) (n : Nat) (evs : List (List P2)) : Prop := ∃ g : List EvV, Rd w a n 1 (g.map encV) ∧ (∀ v ∈ g, Rd w v.a v.n 2 (v.es.map enc2)) ∧ g.map EvV.es = evs
theorem EvL.ext {w w' : World} {a : Option Addr} {n : Nat} {evs : List (List P2)} (h : EvL w a n evs) (hb : Below w.heap.size w w') : EvL w' a n evs := by
  obtain ⟨g, h1, h2, h3⟩ := h
  exact ⟨g, h1.ext hb, fun v hv => (h2 v hv).ext hb, h3⟩
theorem ev_idx (g : Nat) (lb : Array Value) (p : EvV → Bool) (a : Option Addr) (n c : Nat) (xs : List EvV) (w : World) (hR : Rd w a n 1 (xs.map encV)) (hf : PredIn g lb valV p xs w) :
    Calls Tryz.prog 75 #[.slice a n c, .func (.func g) #[] lb] w fun e w' => e = .returned (.int .i64 (idxGo p 0 xs)) ∧ Below w.heap.size w w' := by
  have HL := Lib.hid hR.length
  have hs := hR.small
  have HR := Lib.hid hR; clear hR
  have eg := hf.eg
  have HF := Lib.hid hf.gives; clear hf
  generalize hg : idxGo p 0 xs = R
  have HG := Lib.hid hg; clear hg
  go_enter Tryz.func75, Tryz.ntmps75
  go_wp2
  go_loopw [8] (fun i wr => ∃ k : Nat, k ≤ n ∧ i = .int .i64 k ∧ idxGo p k (xs.drop k) = R ∧ Below w.heap.size w wr) (fun i _ => n - (intOf i).toNat)
  case atStart => exact ⟨0, Nat.zero_le _, rfl, HG.out, Below.refl _ _⟩
  case round =>
    obtain ⟨k, hk, rfl, he, hB⟩ := hrel
    have HE := Lib.hid he; clear he
    by_cases hlt : k < n
    · obtain ⟨x, b, off, rfl, hb, hc, hx, _, HD⟩ := (HR.out.ext hB).nextK k hlt
      have h0 := hc 0 (by omega)
      clear hc
      simp [encV] at h0
      have hcall := HF.out x hx wr hB
      have HB := Lib.hid hB; clear hB
      have HE2 : Hid ((if p x = true then (k : Int) else idxGo p (k + 1) (xs.drop (k + 1))) = R) := by have := HE.out; rw [HD.out] at this; exact this
      cases hq : p x
      · rw [hq] at hcall HE2
        go_wp2_with (go_at_fn g; refine hcall.mono ?_; rintro e w1 ⟨rfl, hb1⟩)
        go_roundw
        case rel => exact ⟨k + 1, by omega, by go_num, by simpa using HE2.out, HB.out.trans (hb1.mono HB.out.size)⟩
        case measure => simp [intOf]; omega
      · rw [hq] at hcall HE2
        have : R = k := by simpa using HE2.out.symm
        subst this
        go_wp2_with (go_at_fn g; refine hcall.mono ?_; rintro e w1 ⟨rfl, hb1⟩)
        go_ret
        exact ⟨rfl, HB.out.trans (hb1.mono HB.out.size)⟩
    · have : R = -1 := by rw [← HE.out, drop_end HL.out (by omega)]; rfl
      subst this
      go_wp2
      go_ret
      exact ⟨rfl, hB⟩
theorem ev_con (g : Nat) (lb : Array Value) (p : EvV → Bool) (a : Option Addr) (n c : Nat) (xs : List EvV) (w : World) (hR : Rd w a n 1 (xs.map encV)) (hf : PredIn g lb valV p xs w) :
    Calls Tryz.prog 49 #[.slice a n c, .func (.func g) #[] lb] w fun e w' => e = .returned (.bool (xs.any p)) ∧ Below w.heap.size w w' := by
  have HR := Lib.hid hR; clear hR
  have HF := Lib.hid hf; clear hf
  go_enter Tryz.func49, Tryz.ntmps49
  go_wp2_with (go_at_call 75; refine (ev_idx _ _ _ _ _ _ _ _ HR.out HF.out).mono ?_; rintro e w1 ⟨rfl, hb1⟩)
  go_ret
  exact ⟨ret_bool (idxGo_any p xs 0), by (repeat' (first | (with_reducible exact Below.refl _ _) | (with_reducible assumption) | (with_reducible refine Below.alloc ?_ ?_ _) | (with_reducible refine Below.drew ?_) | (with_reducible refine Below.draws ?_ _) | (with_reducible refine Below.setCell ?_ ?_ _) | (refine Below.then ?_ (by with_reducible assumption)) | go_size))⟩

theorem bi_idx (g : Nat) (lb : Array Value) (p : Int → Bool) (a : Option Addr) (n c : Nat) (xs : List Int) (w : World) (hR : Rd w a n 1 (xs.map enc1)) (hf : PredIn g lb valZ p xs w) :
    Calls Tryz.prog 33 #[.slice a n c, .func (.func g) #[] lb] w fun e w' => e = .returned (.int .i64 (idxGo p 0 xs)) ∧ Below w.heap.size w w' := by
  have HL := Lib.hid hR.length
  have hs := hR.small
  have HR := Lib.hid hR; clear hR
  have eg := hf.eg
  have HF := Lib.hid hf.gives; clear hf
  generalize hg : idxGo p 0 xs = R
  have HG := Lib.hid hg; clear hg
  go_enter Tryz.func33, Tryz.ntmps33
  go_wp2
  go_loopw [8] (fun i wr => ∃ k : Nat, k ≤ n ∧ i = .int .i64 k ∧ idxGo p k (xs.drop k) = R ∧ Below w.heap.size w wr) (fun i _ => n - (intOf i).toNat)
  case atStart => exact ⟨0, Nat.zero_le _, rfl, HG.out, Below.refl _ _⟩
  case round =>
    obtain ⟨k, hk, rfl, he, hB⟩ := hrel
    have HE := Lib.hid he; clear he
    by_cases hlt : k < n
    · obtain ⟨x, b, off, rfl, hb, hc, hx, _, HD⟩ := (HR.out.ext hB).nextK k hlt
      have h0 := hc 0 (by omega)
      clear hc
      simp [enc1] at h0
      have hcall := HF.out x hx wr hB
      have HB := Lib.hid hB; clear hB
      have HE2 : Hid ((if p x = true then (k : Int) else idxGo p (k + 1) (xs.drop (k + 1))) = R) := by have := HE.out; rw [HD.out] at this; exact this
      cases hq : p x
      · rw [hq] at hcall HE2
        go_wp2_with (go_at_fn g; refine hcall.mono ?_; rintro e w1 ⟨rfl, hb1⟩)
        go_roundw
        case rel => exact ⟨k + 1, by omega, by go_num, by simpa using HE2.out, HB.out.trans (hb1.mono HB.out.size)⟩
        case measure => simp [intOf]; omega
      · rw [hq] at hcall HE2
        have : R = k := by simpa using HE2.out.symm
        subst this
        go_wp2_with (go_at_fn g; refine hcall.mono ?_; rintro e w1 ⟨rfl, hb1⟩)
        go_ret
        exact ⟨rfl, HB.out.trans (hb1.mono HB.out.size)⟩
    · have : R = -1 := by rw [← HE.out, drop_end HL.out (by omega)]; rfl
      subst this
      go_wp2
      go_ret
      exact ⟨rfl, hB⟩
theorem bi_con (g : Nat) (lb : Array Value) (p : Int → Bool) (a : Option Addr) (n c : Nat) (xs : List Int) (w : World) (hR : Rd w a n 1 (xs.map enc1)) (hf : PredIn g lb valZ p xs w) :
    Calls Tryz.prog 52 #[.slice a n c, .func (.func g) #[] lb] w fun e w' => e = .returned (.bool (xs.any p)) ∧ Below w.heap.size w w' := by
  have HR := Lib.hid hR; clear hR
  have HF := Lib.hid hf; clear hf
  go_enter Tryz.func52, Tryz.ntmps52
  go_wp2_with (go_at_call 33; refine (bi_idx _ _ _ _ _ _ _ _ HR.out HF.out).mono ?_; rintro e w1 ⟨rfl, hb1⟩)
  go_ret
  exact ⟨ret_bool (idxGo_any p xs 0), by (repeat' (first | (with_reducible exact Below.refl _ _) | (with_reducible assumption) | (with_reducible refine Below.alloc ?_ ?_ _) | (with_reducible refine Below.drew ?_) | (with_reducible refine Below.draws ?_ _) | (with_reducible refine Below.setCell ?_ ?_ _) | (refine Below.then ?_ (by with_reducible assumption)) | go_size))⟩

theorem sgp_idx (g : Nat) (lb : Array Value) (p : P2 → Bool) (a : Option Addr) (n c : Nat) (xs : List P2) (w : World) (hR : Rd w a n 2 (xs.map enc2)) (hf : PredIn g lb valPc p xs w) :
    Calls Tryz.prog 76 #[.slice a n c, .func (.func g) #[] lb] w fun e w' => e = .returned (.int .i64 (idxGo p 0 xs)) ∧ Below w.heap.size w w' := by
  have HL := Lib.hid hR.length
  have hs := hR.small
  have HR := Lib.hid hR; clear hR
  have eg := hf.eg
  have HF := Lib.hid hf.gives; clear hf
  generalize hg : idxGo p 0 xs = R
  have HG := Lib.hid hg; clear hg
  go_enter Tryz.func76, Tryz.ntmps76
  go_wp2
  go_loopw [8] (fun i wr => ∃ k : Nat, k ≤ n ∧ i = .int .i64 k ∧ idxGo p k (xs.drop k) = R ∧ Below w.heap.size w wr) (fun i _ => n - (intOf i).toNat)
  case atStart => exact ⟨0, Nat.zero_le _, rfl, HG.out, Below.refl _ _⟩
  case round =>
    obtain ⟨k, hk, rfl, he, hB⟩ := hrel
    have HE := Lib.hid he; clear he
    by_cases hlt : k < n
    · obtain ⟨x, b, off, rfl, hb, hc, hx, _, HD⟩ := (HR.out.ext hB).nextK k hlt
      have h0 := hc 0 (by omega)
      have h1 := hc 1 (by omega)
      clear hc
      simp [enc2] at h0 h1
      have hcall := HF.out x hx wr hB
      have HB := Lib.hid hB; clear hB
      have HE2 : Hid ((if p x = true then (k : Int) else idxGo p (k + 1) (xs.drop (k + 1))) = R) := by have := HE.out; rw [HD.out] at this; exact this
      cases hq : p x
      · rw [hq] at hcall HE2
        go_wp2_with (go_at_fn g; refine hcall.mono ?_; rintro e w1 ⟨rfl, hb1⟩)
        go_roundw
        case rel => exact ⟨k + 1, by omega, by go_num, by simpa using HE2.out, HB.out.trans (hb1.mono HB.out.size)⟩
        case measure => simp [intOf]; omega
      · rw [hq] at hcall HE2
        have : R = k := by simpa using HE2.out.symm
        subst this
        go_wp2_with (go_at_fn g; refine hcall.mono ?_; rintro e w1 ⟨rfl, hb1⟩)
        go_ret
        exact ⟨rfl, HB.out.trans (hb1.mono HB.out.size)⟩
    · have : R = -1 := by rw [← HE.out, drop_end HL.out (by omega)]; rfl
      subst this
      go_wp2
      go_ret
      exact ⟨rfl, hB⟩
theorem sgp_con (g : Nat) (lb : Array Value) (p : P2 → Bool) (a : Option Addr) (n c : Nat) (xs : List P2) (w : World) (hR : Rd w a n 2 (xs.map enc2)) (hf : PredIn g lb valPc p xs w) :
    Calls Tryz.prog 53 #[.slice a n c, .func (.func g) #[] lb] w fun e w' => e = .returned (.bool (xs.any p)) ∧ Below w.heap.size w w' := by
  have HR := Lib.hid hR; clear hR
  have HF := Lib.hid hf; clear hf
  go_enter Tryz.func53, Tryz.ntmps53
  go_wp2_with (go_at_call 76; refine (sgp_idx _ _ _ _ _ _ _ _ HR.out HF.out).mono ?_; rintro e w1 ⟨rfl, hb1⟩)
  go_ret
  exact ⟨ret_bool (idxGo_any p xs 0), by (repeat' (first | (with_reducible exact Below.refl _ _) | (with_reducible assumption) | (with_reducible refine Below.alloc ?_ ?_ _) | (with_reducible refine Below.drew ?_) | (with_reducible refine Below.draws ?_ _) | (with_reducible refine Below.setCell ?_ ?_ _) | (refine Below.then ?_ (by with_reducible assumption)) | go_size))⟩

theorem v1_any (x : Int) (w : World) : Calls Tryz.prog 46 #[valZ x] w fun e w' => e = .returned (.bool (!inB x 0 1000)) ∧ Below w.heap.size w w' := by
  obtain ⟨B, hB⟩ : ∃ B, inB x 0 1000 = B := ⟨_, rfl⟩
  rw [hB]
  have HB := Lib.hid hB
  clear hB
  show Calls Tryz.prog 46 #[.int .i64 x] w _
  go_enter Tryz.func46, Tryz.ntmps46
  go_wp2_with (go_at_call 47; (with_reducible refine (cwithin_is HB.out).mono ?_); rintro e w1 ⟨rfl, rfl⟩)
  go_ret
  exact ⟨rfl, by (repeat' (first | (with_reducible exact Below.refl _ _) | (with_reducible assumption) | (with_reducible refine Below.alloc ?_ ?_ _) | (with_reducible refine Below.drew ?_) | (with_reducible refine Below.draws ?_ _) | (with_reducible refine Below.setCell ?_ ?_ _) | (refine Below.then ?_ (by with_reducible assumption)) | go_size))⟩
theorem v3_any (v : EvV) (w : World) (hR : Rd w v.a v.n 2 (v.es.map enc2)) : Calls Tryz.prog 50 #[valV v] w fun e w' => e = .returned (.bool (!evB v.es)) ∧ Below w.heap.size w w' := by
  obtain ⟨a, n, c, es⟩ := v
  have HR := Lib.hid hR
  clear hR
  obtain ⟨B, hB⟩ : ∃ B, evB es = B := ⟨_, rfl⟩
  have HE := Lib.hid (events_any a n c es w HR.out)
  rw [hB] at HE
  show Calls Tryz.prog 50 #[.slice a n c] w fun e w' => e = .returned (.bool (!evB es)) ∧ Below w.heap.size w w'
  rw [hB]
  clear hB
  go_enter Tryz.func50, Tryz.ntmps50
  go_wp2_with (go_at_call 51; (with_reducible refine HE.out.mono ?_); rintro e w1 ⟨rfl, hb1⟩)
  go_ret
  exact ⟨rfl, hb1⟩
def sgB (n : Nat) (g : P2) : Bool := inB g.1 0 1000000 && inB g.2 0 ((n : Int) - 1)
theorem v2_any (g : P2) (q n : Nat) (hn : n ≤ 1000) (w : World) (hq : q < w.heap.size) (hc : w.cell? ⟨q, 0, none⟩ = some (.int .i64 (n : Int))) : Calls Tryz.prog 48 #[valPc g, .pointer (some ⟨q, 0, none⟩)] w fun e w' => e = .returned (.bool (!sgB n g)) ∧ Below w.heap.size w w' := by
  obtain ⟨x, y⟩ := g
  have wn : IntKind.i64.wrap ((n : Int) - 1) = (n : Int) - 1 := IntWalk.i64_in _ (by omega)
  obtain ⟨A, hA⟩ : ∃ B, inB x 0 1000000 = B := ⟨_, rfl⟩
  obtain ⟨B, hB⟩ : ∃ B, inB y 0 ((n : Int) - 1) = B := ⟨_, rfl⟩
  show Calls Tryz.prog 48 #[.agg #[.int .i64 x, .int .i64 y], .pointer (some ⟨q, 0, none⟩)] w fun e w' => e = .returned (.bool (!sgB n (x, y))) ∧ Below w.heap.size w w'
  unfold sgB
  simp only []
  rw [hA, hB]
  have HA := Lib.hid hA; have HB := Lib.hid hB
  clear hA hB
  cases A
  · go_enter Tryz.func48, Tryz.ntmps48
    go_wp2_with (go_at_call 47; (with_reducible refine (cwithin_is HA.out).mono ?_); rintro e w1 ⟨rfl, rfl⟩)
    go_ret
    exact ⟨rfl, by (repeat' (first | (with_reducible exact Below.refl _ _) | (with_reducible assumption) | (with_reducible refine Below.alloc ?_ ?_ _) | (with_reducible refine Below.drew ?_) | (with_reducible refine Below.draws ?_ _) | (with_reducible refine Below.setCell ?_ ?_ _) | (refine Below.then ?_ (by with_reducible assumption)) | go_size))⟩
  · go_enter Tryz.func48, Tryz.ntmps48
    go_wp2_with (first
      | (go_at_call 47; (with_reducible refine (cwithin_is HA.out).mono ?_); rintro e w1 ⟨rfl, rfl⟩)
      | (go_at_call 47; (with_reducible refine (cwithin_is HB.out).mono ?_); rintro e w1 ⟨rfl, rfl⟩))
    go_ret
    exact ⟨rfl, by (repeat' (first | (with_reducible exact Below.refl _ _) | (with_reducible assumption) | (with_reducible refine Below.alloc ?_ ?_ _) | (with_reducible refine Below.drew ?_) | (with_reducible refine Below.draws ?_ _) | (with_reducible refine Below.setCell ?_ ?_ _) | (refine Below.then ?_ (by with_reducible assumption)) | go_size))⟩
end Go.Proofs.YtmahagcghpoekaaGreat
