/- Contracts of Valid and of the tests of numbers, of both sides. The conditions: the slots read as named. -/
import Derived.Test.YtgldgomjlcojaaaIrow
import Derived.Test.YtgldgomjlcojaaaBsPure
namespace Go.Proofs.Ytgldgomjlcojaaa
open Go.RowKit
set_option linter.unusedSimpArgs false
set_option linter.unusedVariables false
abbrev val2 (x : P2) : Value := .agg #[.int .i64 x.1, .int .i64 x.2]
theorem okS_def (a b : Int) : okS (a, b) = (decide (0 ≤ a) && decide (a ≤ 3) && (decide (1 ≤ b) && decide (b ≤ 50))) := by unfold okS; rw [inB_eq, inB_eq]
theorem valid1_any (x : P2) (w : World) : Calls Try.prog 61 #[val2 x] w fun e w' => e = .returned (.bool (!okS x)) ∧ Below w.heap.size w w' := by
  obtain ⟨a, b⟩ := x
  rw [okS_def]
  go_enter Try.func61, Try.ntmps61
  go_wp2
  all_goals (go_ret; exact ⟨ret_bool (by first | rfl | (rw [Bool.eq_iff_iff]; simp [*] <;> (first | omega | (intros; omega)))), by (repeat' (first | (with_reducible exact Below.refl _ _) | (with_reducible assumption) | (with_reducible refine Below.alloc ?_ ?_ _) | (with_reducible refine Below.drew ?_) | (with_reducible refine Below.draws ?_ _) | (with_reducible refine Below.setCell ?_ ?_ _) | (refine Below.then ?_ (by with_reducible assumption)) | go_size))⟩)
theorem sl_idx (g : Nat) (lb : Array Value) (p : P2 → Bool) (a : Option Addr) (n c : Nat) (xs : List P2) (w : World) (hR : Rd w a n 2 (xs.map enc2)) (hf : PredIn g lb val2 p xs w) :
    Calls Try.prog 66 #[.slice a n c, .func (.func g) #[] lb] w fun e w' => e = .returned (.int .i64 (idxGo p 0 xs)) ∧ Below w.heap.size w w' := by
  have HL := Lib.hid hR.length
  have hs := hR.small
  have HR := Lib.hid hR; clear hR
  have eg := hf.eg
  have HF := Lib.hid hf.gives; clear hf
  generalize hg : idxGo p 0 xs = R
  have HG := Lib.hid hg; clear hg
  go_enter Try.func66, Try.ntmps66
  go_wp2
  go_loopw [8] (fun i wr => ∃ k : Nat, k ≤ n ∧ i = .int .i64 k ∧ idxGo p k (xs.drop k) = R ∧ Below w.heap.size w wr) (fun i _ => n - (intOf i).toNat)
  case atStart => exact ⟨0, Nat.zero_le _, rfl, HG.out, Below.refl _ _⟩
  case round =>
    obtain ⟨k, hk, rfl, he, hB⟩ := hrel
    have HE := Lib.hid he; clear he
    by_cases hlt : k < n
    · obtain ⟨x, b, off, rfl, hb, hc, hx, _, HD⟩ := (HR.out.ext hB).nextK k hlt
      have h0 := hc 0 (by omega)
      have h1 := hc 1 (by omega)
      clear hc
      simp [enc2] at h0 h1
      have hcall := HF.out x hx wr hB
      have HB := Lib.hid hB; clear hB
      have HE2 : Hid ((if p x = true then (k : Int) else idxGo p (k + 1) (xs.drop (k + 1))) = R) := by have := HE.out; rw [HD.out] at this; exact this
      cases hq : p x
      · rw [hq] at hcall HE2
        go_wp2_with (go_at_fn g; refine hcall.mono ?_; rintro e w1 ⟨rfl, hb1⟩)
        go_roundw
        case rel => exact ⟨k + 1, by omega, by go_num, by simpa using HE2.out, HB.out.trans (hb1.mono HB.out.size)⟩
        case measure => simp [intOf]; omega
      · rw [hq] at hcall HE2
        have : R = k := by simpa using HE2.out.symm
        subst this
        go_wp2_with (go_at_fn g; refine hcall.mono ?_; rintro e w1 ⟨rfl, hb1⟩)
        go_ret
        exact ⟨rfl, HB.out.trans (hb1.mono HB.out.size)⟩
    · have : R = -1 := by rw [← HE.out, drop_end HL.out (by omega)]; rfl
      subst this
      go_wp2
      go_ret
      exact ⟨rfl, hB⟩
theorem sl_con (g : Nat) (lb : Array Value) (p : P2 → Bool) (a : Option Addr) (n c : Nat) (xs : List P2) (w : World) (hR : Rd w a n 2 (xs.map enc2)) (hf : PredIn g lb val2 p xs w) :
    Calls Try.prog 60 #[.slice a n c, .func (.func g) #[] lb] w fun e w' => e = .returned (.bool (xs.any p)) ∧ Below w.heap.size w w' := by
  have HR := Lib.hid hR; clear hR
  have HF := Lib.hid hf; clear hf
  go_enter Try.func60, Try.ntmps60
  go_wp2_with (go_at_call 66; refine (sl_idx _ _ _ _ _ _ _ _ HR.out HF.out).mono ?_; rintro e w1 ⟨rfl, hb1⟩)
  go_ret
  exact ⟨ret_bool (idxGo_any p xs 0), by (repeat' (first | (with_reducible exact Below.refl _ _) | (with_reducible assumption) | (with_reducible refine Below.alloc ?_ ?_ _) | (with_reducible refine Below.drew ?_) | (with_reducible refine Below.draws ?_ _) | (with_reducible refine Below.setCell ?_ ?_ _) | (refine Below.then ?_ (by with_reducible assumption)) | go_size))⟩

theorem any_not {α : Type} (p : α → Bool) (l : List α) : l.any (fun x => !p x) = !l.all p := by
  induction l with
  | nil => rfl
  | cons x l ih => simp [ih, Bool.not_and]
theorem valid_any (a : Option Addr) (n c : Nat) (l : List P2) (w : World) (hR : Rd w a n 2 (l.map enc2)) :
    Calls Try.prog 32 #[.slice a n c] w fun e w' => e = .returned (.bool (validS l)) ∧ Below w.heap.size w w' := by
  have hl := hR.length
  have hc := sl_con 61 #[] (fun x => !okS x) a n c l w hR ⟨fun args w => by kernel_rfl, fun x _ w' _ => valid1_any x w'⟩
  rw [any_not] at hc
  have HC := Lib.hid hc; clear hc
  have e : validS l = (decide (1 ≤ n) && decide (n ≤ 8) && l.all okS) := by rw [validS, hl]
  have hs := hR.small
  rw [e]
  generalize l.all okS = R at *
  clear e hl hR
  by_cases h1 : n < 1
  · go_enter Try.func32, Try.ntmps32
    go_wp2
    go_ret
    exact ⟨ret_bool (by rw [show decide (1 ≤ n) = false by simp; omega]; rfl), by (repeat' (first | (with_reducible exact Below.refl _ _) | (with_reducible assumption) | (with_reducible refine Below.alloc ?_ ?_ _) | (with_reducible refine Below.drew ?_) | (with_reducible refine Below.draws ?_ _) | (with_reducible refine Below.setCell ?_ ?_ _) | (refine Below.then ?_ (by with_reducible assumption)) | go_size))⟩
  · by_cases h2 : 8 < n
    · go_enter Try.func32, Try.ntmps32
      go_wp2
      go_ret
      exact ⟨ret_bool (by rw [show decide (n ≤ 8) = false by simp; omega]; simp), by (repeat' (first | (with_reducible exact Below.refl _ _) | (with_reducible assumption) | (with_reducible refine Below.alloc ?_ ?_ _) | (with_reducible refine Below.drew ?_) | (with_reducible refine Below.draws ?_ _) | (with_reducible refine Below.setCell ?_ ?_ _) | (refine Below.then ?_ (by with_reducible assumption)) | go_size))⟩
    · go_enter Try.func32, Try.ntmps32
      go_wp2_with (go_at_call 60; refine HC.out.mono ?_; rintro e w1 ⟨rfl, hb1⟩)
      go_ret
      exact ⟨ret_bool (by rw [show decide (n ≤ 8) = true by simp; omega, show decide (1 ≤ n) = true by simp; omega]; simp), hb1⟩
theorem rvalid_any (a : Option Addr) (n c : Nat) (l : List P2) (w : World) (hR : Rd w a n 2 (l.map enc2)) :
    Calls Try.prog 12 #[.slice a n c] w fun e w' => e = .returned (.bool (validS l)) ∧ w = w' := by
  have hl := hR.length
  have e : validS l = (decide (1 ≤ n) && decide (n ≤ 8) && l.all okS) := by rw [validS, hl]
  have hs := hR.small
  rw [e]
  obtain ⟨R, hr⟩ : ∃ R, l.all okS = R := ⟨_, rfl⟩
  rw [hr]
  have HST : Hid ((l.drop 0).all okS = R) := Lib.hid hr
  have HL := Lib.hid hl; have HR := Lib.hid hR
  clear e hl hR hr
  by_cases h1 : n < 1
  · go_enter Try.func12, Try.ntmps12
    go_wp2
    go_ret
    exact ⟨ret_bool (by rw [show decide (1 ≤ n) = false by simp; omega]; rfl), rfl⟩
  · by_cases h2 : 8 < n
    · go_enter Try.func12, Try.ntmps12
      go_wp2
      go_ret
      exact ⟨ret_bool (by rw [show decide (n ≤ 8) = false by simp; omega]; simp), rfl⟩
    · have HF : Hid ((decide (1 ≤ n) && decide (n ≤ 8) && R) = R) := Lib.hid (by rw [show decide (n ≤ 8) = true by simp; omega, show decide (1 ≤ n) = true by simp; omega]; simp)
      rw [HF.out]
      go_enter Try.func12, Try.ntmps12
      go_wp2
      go_loop [3] (fun i => ∃ k : Nat, k ≤ n ∧ i = .int .i64 k ∧ (l.drop k).all okS = R) (fun i => n - (intOf i).toNat)
      case atStart => exact ⟨0, Nat.zero_le _, rfl, HST.out⟩
      case round =>
        obtain ⟨k, hk, rfl, he⟩ := hrel
        have HE := Lib.hid he; clear he
        by_cases hlt : k < n
        · obtain ⟨⟨x, y⟩, b, off, rfl, hb, h3, h4, HD⟩ := HR.out.next2 k hlt
          have HE2 : Hid ((okS (x, y) && (l.drop (k + 1)).all okS) = R) := by have := HE.out; rw [HD.out] at this; exact Lib.hid this
          clear HE HD
          simp only [] at h3 h4
          cases hq : okS (x, y)
          · have hv : R = false := by have := HE2.out; rw [hq] at this; simpa using this.symm
            subst hv
            have HQ := Lib.hid hq
            clear hq
            go_wp2
            all_goals first
              | (go_ret; exact ⟨rfl, rfl⟩)
              | (exfalso; have h5 := HQ.out; rw [okS_def] at h5; simp at h5; omega)
          · have HE3 : Hid ((l.drop (k + 1)).all okS = R) := by have := HE2.out; rw [hq, Bool.true_and] at this; exact Lib.hid this
            obtain ⟨⟨h5, h6⟩, h7, h8⟩ := okS_iff.1 hq
            simp only [] at h5 h6 h7 h8
            clear hq HE2
            go_wp2
            go_round
            case rel => exact ⟨k + 1, by omega, by go_num, HE3.out⟩
            case measure => simp [intOf]; omega
        · have hv : R = true := by rw [← HE.out, drop_end HL.out (by omega)]; rfl
          subst hv
          go_wp2
          go_ret
          exact ⟨rfl, rfl⟩
theorem valid_val {a : Option Addr} {n c : Nat} {l : List P2} {w : World} {b : Bool} (hR : Rd w a n 2 (l.map enc2)) (h : validS l = b) : Calls Try.prog 32 #[.slice a n c] w fun e w' => e = .returned (.bool b) ∧ Below w.heap.size w w' := h ▸ valid_any a n c l w hR
theorem rvalid_val {a : Option Addr} {n c : Nat} {l : List P2} {w : World} {b : Bool} (hR : Rd w a n 2 (l.map enc2)) (h : validS l = b) : Calls Try.prog 12 #[.slice a n c] w fun e w' => e = .returned (.bool b) ∧ w = w' := h ▸ rvalid_any a n c l w hR
theorem isMaster_val {n : Int} {w : World} {b : Bool} (h : inB n 0 3 = b) : Calls Try.prog 57 #[.int .i64 n] w fun e w' => e = .returned (.bool b) ∧ w = w' := by
  subst h
  rw [inB_eq]
  go_enter Try.func57, Try.ntmps57
  go_wp2
  all_goals (go_ret; exact ⟨ret_bool (by first | rfl | (rw [Bool.eq_iff_iff]; simp [*] <;> (first | omega | (intros; omega)))), rfl⟩)
theorem within_val {n k : Int} {w : World} {b : Bool} (h : inB n 0 k = b) : Calls Try.prog 56 #[.int .i64 n, .int .i64 k] w fun e w' => e = .returned (.bool b) ∧ w = w' := by
  subst h
  rw [inB_eq]
  go_enter Try.func56, Try.ntmps56
  go_wp2
  all_goals (go_ret; exact ⟨ret_bool (by first | rfl | (rw [Bool.eq_iff_iff]; simp [*] <;> (first | omega | (intros; omega)))), rfl⟩)
/-- a request's numbers are as they must be -/
def okR (m o k : Int) : Bool := inB m 0 3 && inB o 0 10000 && inB k 1 100
abbrev val3 (a b c : Int) : Value := .agg #[.int .i64 a, .int .i64 b, .int .i64 c]
theorem isRequest_val {m o k : Int} {w : World} {b : Bool} (h : okR m o k = b) : Calls Try.prog 44 #[val3 m o k] w fun e w' => e = .returned (.bool b) ∧ Below w.heap.size w w' := by
  subst h
  unfold okR
  rw [show inB k 1 100 = (decide (1 ≤ k) && decide (k ≤ 100)) from inB_eq _ _ _]
  cases hm : inB m 0 3
  · go_enter Try.func44, Try.ntmps44
    go_wp2_with (go_at_call 57; refine (isMaster_val hm).mono ?_; rintro e w1 ⟨rfl, rfl⟩)
    go_ret
    exact ⟨rfl, by (repeat' (first | (with_reducible exact Below.refl _ _) | (with_reducible assumption) | (with_reducible refine Below.alloc ?_ ?_ _) | (with_reducible refine Below.drew ?_) | (with_reducible refine Below.draws ?_ _) | (with_reducible refine Below.setCell ?_ ?_ _) | (refine Below.then ?_ (by with_reducible assumption)) | go_size))⟩
  · cases ho : inB o 0 10000
    · go_enter Try.func44, Try.ntmps44
      go_wp2_with (first | (go_at_call 57; refine (isMaster_val hm).mono ?_; rintro e w1 ⟨rfl, rfl⟩) | (go_at_call 56; refine (within_val ho).mono ?_; rintro e w1 ⟨rfl, rfl⟩))
      go_ret
      exact ⟨rfl, by (repeat' (first | (with_reducible exact Below.refl _ _) | (with_reducible assumption) | (with_reducible refine Below.alloc ?_ ?_ _) | (with_reducible refine Below.drew ?_) | (with_reducible refine Below.draws ?_ _) | (with_reducible refine Below.setCell ?_ ?_ _) | (refine Below.then ?_ (by with_reducible assumption)) | go_size))⟩
    · go_enter Try.func44, Try.ntmps44
      go_wp2_with (first | (go_at_call 57; refine (isMaster_val hm).mono ?_; rintro e w1 ⟨rfl, rfl⟩) | (go_at_call 56; refine (within_val ho).mono ?_; rintro e w1 ⟨rfl, rfl⟩))
      all_goals (go_ret; exact ⟨ret_bool (by first | rfl | (rw [Bool.eq_iff_iff]; simp [*] <;> (first | omega | (intros; omega)))), by (repeat' (first | (with_reducible exact Below.refl _ _) | (with_reducible assumption) | (with_reducible refine Below.alloc ?_ ?_ _) | (with_reducible refine Below.drew ?_) | (with_reducible refine Below.draws ?_ _) | (with_reducible refine Below.setCell ?_ ?_ _) | (refine Below.then ?_ (by with_reducible assumption)) | go_size))⟩)
/-- what asks tests -/
def askB (l : List P2) (m k lo hi : Int) : Bool := validS l && inB m 0 3 && inB k lo hi
def errB (b : Bool) : Int := if b then 0 else 1
theorem asks_val {a : Option Addr} {n c : Nat} {l : List P2} {m k lo hi : Int} {w : World} {b : Bool} (hR : Rd w a n 2 (l.map enc2)) (h : askB l m k lo hi = b) : Calls Try.prog 53 #[.slice a n c, .int .i64 m, .int .i64 k, .int .i64 lo, .int .i64 hi] w fun e w' => e = .returned (.int .i64 (errB b)) ∧ w = w' := by
  subst h
  unfold askB errB
  cases hv : validS l
  · have HC := Lib.hid (rvalid_val (c := c) hR hv)
    go_enter Try.func53, Try.ntmps53
    go_wp2_with (go_at_call 12; refine (HC.out).mono ?_; rintro e w1 ⟨rfl, rfl⟩)
    go_ret
    exact ⟨rfl, rfl⟩
  · have HC := Lib.hid (rvalid_val (c := c) hR hv)
    rw [inB_eq, inB_eq]
    go_enter Try.func53, Try.ntmps53
    go_wp2_with (go_at_call 12; refine (HC.out).mono ?_; rintro e w1 ⟨rfl, rfl⟩)
    all_goals (go_ret; exact ⟨ret_int (by simp [*] <;> (first | omega | (intros; omega))), rfl⟩)
theorem few_yes {a b : Option Addr} {n c k d : Nat} {w : World} (h : n ≤ 60) (h2 : k ≤ 200) : Calls Try.prog 11 #[.slice a n c, .slice b k d] w fun e w' => e = .returned (.bool true) ∧ w = w' := by
  have q : decide ((k : Int) ≤ 200) = true := by simp; omega
  go_enter Try.func11, Try.ntmps11
  go_wp2
  go_ret
  exact ⟨rfl, rfl⟩
theorem few_no {a b : Option Addr} {n c k d : Nat} {w : World} (hn : n ≤ 9223372036854775807) (hk : k ≤ 9223372036854775807) (h : ¬ (n ≤ 60 ∧ k ≤ 200)) : Calls Try.prog 11 #[.slice a n c, .slice b k d] w fun e w' => e = .returned (.bool false) ∧ w = w' := by
  by_cases h1 : n ≤ 60
  · have h2 : 200 < k := by omega
    have q : decide ((k : Int) ≤ 200) = false := by simp; omega
    go_enter Try.func11, Try.ntmps11
    go_wp2
    go_ret
    exact ⟨rfl, rfl⟩
  · have h2 : 60 < n := by omega
    go_enter Try.func11, Try.ntmps11
    go_wp2
    go_ret
    exact ⟨rfl, rfl⟩
end Go.Proofs.Ytgldgomjlcojaaa
