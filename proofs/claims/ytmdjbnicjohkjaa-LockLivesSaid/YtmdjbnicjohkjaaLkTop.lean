/- Contracts of isThread, ready, Chain, Owner and Circle of both sides. The conditions: the graph reads as named. -/
import Derived.Test.YtmdjbnicjohkjaaLkRvalid
namespace Go.Proofs.Ytmdjbnicjohkjaa
open Go.RowKit
set_option linter.unusedSimpArgs false
set_option linter.unusedVariables false
/-- a list made by the call, and an error number -/
def OutIE (B : Nat) (w : World) (xs : List Int) (er : Int) (e : Ending) (w' : World) : Prop :=
  ∃ a n c, e = .returned (.tuple #[.slice a n c, .int .i64 er]) ∧ w'.ownsRow B 3 1 (.slice a n c) n (xs.flatMap enc1) ∧ Below B w w'
theorem OutIE.none {B : Nat} {w w' : World} {er : Int} (hb : Below B w w') : OutIE B w [] er (.returned (.tuple #[.slice none 0 0, .int .i64 er])) w' := ⟨_, _, _, rfl, World.ownsRow_nil _ _ _ _, hb⟩
/-- a valid graph and a thread of it -/
def isTh (g : List Th) (t : Int) : Bool := validG g && inB t 0 ((g.length : Int) - 1)
theorem isTh_iff {g : List Th} {t : Int} : isTh g t = true ↔ validG g = true ∧ 0 ≤ t ∧ t < g.length := by
  unfold isTh; rw [Bool.and_eq_true, inB_iff]; constructor <;> (rintro ⟨h1, h2, h3⟩; exact ⟨h1, by omega, by omega⟩)
theorem validG_len {g : List Th} (h : validG g = true) : g.length ≤ 8 := by
  simp only [validG, Bool.and_eq_true, decide_eq_true_eq] at h; exact h.1.1
theorem isThread_any (a : Option Addr) (n c : Nat) (g : List ThV) (t : Int) (w : World) (hG : RdG w a n g) :
    Calls Try.prog 48 #[.slice a n c, .int .i64 t] w fun e w' => e = .returned (.bool (isTh (g.map ThV.th) t)) ∧ Below w.heap.size w w' := by
  have hgl : (g.map ThV.th).length = n := by simp [hG.length]
  have HR := Lib.hid hG; clear hG
  have e : isTh (g.map ThV.th) t = (validG (g.map ThV.th) && inB t 0 ((n : Int) - 1)) := by rw [isTh, hgl]
  rw [e]
  have HC := Lib.hid (valid_any a n c g w HR.out)
  generalize validG (g.map ThV.th) = V at *
  clear hgl e
  have q2 : inB t 0 ((n : Int) - 1) = (decide (0 ≤ t) && decide (t < n)) := by rw [inB_eq]; congr 1; rw [decide_eq_decide]; omega
  rw [q2]
  clear q2
  cases V
  all_goals
    go_enter Try.func48, Try.ntmps48
    go_wp2_with (go_at_call 22; refine (HC.out).mono ?_; rintro e w1 ⟨rfl, hb1⟩; obtain ⟨hc1, hf1, hz1, hr1⟩ := bfacts hb1; (try simp only [World.size_alloc, World.size_setCell, World.size_drew, World.size_drewN] at hz1 hr1); (try have hw0 : w.heap.size < w1.heap.size := by omega); (try have hw1 : w.heap.size + 1 < w1.heap.size := by omega); (try have hw2 : w.heap.size + 1 + 1 < w1.heap.size := by omega))
    all_goals
      go_ret
      exact ⟨ret_bool (by simp [*] <;> (first | omega | (intros; omega))), by (repeat' (first | (with_reducible exact Below.refl _ _) | (with_reducible assumption) | (with_reducible refine Below.alloc ?_ ?_ _) | (with_reducible refine Below.drew ?_) | (with_reducible refine Below.draws ?_ _) | (with_reducible refine Below.setCell ?_ ?_ _) | (refine Below.then ?_ (by with_reducible assumption)) | go_size))⟩
theorem ready_any (a : Option Addr) (n c : Nat) (g : List ThV) (t : Int) (w : World) (hG : RdG w a n g) :
    Calls Try.prog 50 #[.slice a n c, .int .i64 t] w fun e w' => e = .returned (.int .i64 (if isTh (g.map ThV.th) t then 0 else 1)) ∧ Below w.heap.size w w' := by
  have hgl : (g.map ThV.th).length = n := by simp [hG.length]
  have HR := Lib.hid hG; clear hG
  have e : isTh (g.map ThV.th) t = (validG (g.map ThV.th) && inB t 0 ((n : Int) - 1)) := by rw [isTh, hgl]
  rw [e]
  have HC := Lib.hid (rvalid_any a n c g w HR.out)
  generalize validG (g.map ThV.th) = V at *
  clear hgl e
  have q2 : inB t 0 ((n : Int) - 1) = (decide (0 ≤ t) && decide (t < n)) := by rw [inB_eq]; congr 1; rw [decide_eq_decide]; omega
  rw [q2]
  clear q2
  cases V
  all_goals
    go_enter Try.func50, Try.ntmps50
    go_wp2_with (go_at_call 23; refine (HC.out).mono ?_; rintro e w1 ⟨rfl, hb1⟩; obtain ⟨hc1, hf1, hz1, hr1⟩ := bfacts hb1; (try simp only [World.size_alloc, World.size_setCell, World.size_drew, World.size_drewN] at hz1 hr1); (try have hw0 : w.heap.size < w1.heap.size := by omega); (try have hw1 : w.heap.size + 1 < w1.heap.size := by omega); (try have hw2 : w.heap.size + 1 + 1 < w1.heap.size := by omega))
    all_goals
      go_ret
      exact ⟨ret_int (by simp [*] <;> (first | omega | (intros; omega))), by (repeat' (first | (with_reducible exact Below.refl _ _) | (with_reducible assumption) | (with_reducible refine Below.alloc ?_ ?_ _) | (with_reducible refine Below.drew ?_) | (with_reducible refine Below.draws ?_ _) | (with_reducible refine Below.setCell ?_ ?_ _) | (refine Below.then ?_ (by with_reducible assumption)) | go_size))⟩
/-- what Chain gives -/
def chainR (g : List Th) (t : Int) : List Int × Int := if isTh g t then (chainG g t.toNat, 0) else ([], 1)
theorem Chain_any (a : Option Addr) (n c : Nat) (g : List ThV) (t : Int) (w : World) (hG : RdG w a n g) :
    Calls Try.prog 16 #[.slice a n c, .int .i64 t] w (OutIE w.heap.size w (chainR (g.map ThV.th) t).1 (chainR (g.map ThV.th) t).2) := by
  have hgl : (g.map ThV.th).length = n := by simp [hG.length]
  have HC := Lib.hid (isThread_any a n c g t w hG)
  have HR := Lib.hid hG; clear hG
  cases h : isTh (g.map ThV.th) t
  · rw [h] at HC
    rw [show chainR (g.map ThV.th) t = ([], 1) by rw [chainR, h]; rfl]
    go_enter Try.func16, Try.ntmps16
    go_wp2_with (go_at_call 48; refine (HC.out).mono ?_; rintro e w1 ⟨rfl, hb1⟩; obtain ⟨hc1, hf1, hz1, hr1⟩ := bfacts hb1; (try simp only [World.size_alloc, World.size_setCell, World.size_drew, World.size_drewN] at hz1 hr1); (try have hw0 : w.heap.size < w1.heap.size := by omega); (try have hw1 : w.heap.size + 1 < w1.heap.size := by omega); (try have hw2 : w.heap.size + 1 + 1 < w1.heap.size := by omega))
    go_ret2
    exact .none (by (repeat' (first | (with_reducible exact Below.refl _ _) | (with_reducible assumption) | (with_reducible refine Below.alloc ?_ ?_ _) | (with_reducible refine Below.drew ?_) | (with_reducible refine Below.draws ?_ _) | (with_reducible refine Below.setCell ?_ ?_ _) | (refine Below.then ?_ (by with_reducible assumption)) | go_size)))
  · rw [h] at HC
    rw [show chainR (g.map ThV.th) t = (chainG (g.map ThV.th) t.toNat, 0) by rw [chainR, h]; rfl]
    obtain ⟨h1, h2, h3⟩ := isTh_iff.1 h
    have h8 := validG_len h1
    obtain ⟨i, rfl⟩ := Int.eq_ofNat_of_zero_le h2
    rw [hgl] at h3 h8
    have hi : i < n := by omega
    clear h h1 h2 h3 hgl
    simp only [Int.toNat_natCast]
    go_enter Try.func16, Try.ntmps16
    go_wp2_with (first | (go_at_call 48; refine (HC.out).mono ?_; rintro e w1 ⟨rfl, hb1⟩; obtain ⟨hc1, hf1, hz1, hr1⟩ := bfacts hb1; (try simp only [World.size_alloc, World.size_setCell, World.size_drew, World.size_drewN] at hz1 hr1); (try have hw0 : w.heap.size < w1.heap.size := by omega); (try have hw1 : w.heap.size + 1 < w1.heap.size := by omega); (try have hw2 : w.heap.size + 1 + 1 < w1.heap.size := by omega)) | (go_at_call 49; refine (chain_any _ _ _ g i hi (by omega) _ (HR.out.ext hb1)).mono ?_; rintro e w2 ⟨a2, n2, c2, rfl, ho, hb2⟩; have HO := Lib.hid ho; have HB2 := Lib.hid hb2; clear ho hb2))
    go_ret2
    exact ⟨a2, n2, c2, rfl, owns_mono HO.out hb1.size, Below.then hb1 HB2.out⟩
theorem rChain_any (a : Option Addr) (n c : Nat) (g : List ThV) (t : Int) (w : World) (hG : RdG w a n g) :
    Calls Try.prog 17 #[.slice a n c, .int .i64 t] w (OutIE w.heap.size w (chainR (g.map ThV.th) t).1 (chainR (g.map ThV.th) t).2) := by
  have hgl : (g.map ThV.th).length = n := by simp [hG.length]
  have HC := Lib.hid (ready_any a n c g t w hG)
  have HR := Lib.hid hG; clear hG
  cases h : isTh (g.map ThV.th) t
  · rw [h] at HC
    rw [show chainR (g.map ThV.th) t = ([], 1) by rw [chainR, h]; rfl]
    go_enter Try.func17, Try.ntmps17
    go_wp2_with (go_at_call 50; refine (HC.out).mono ?_; rintro e w1 ⟨rfl, hb1⟩; obtain ⟨hc1, hf1, hz1, hr1⟩ := bfacts hb1; (try simp only [World.size_alloc, World.size_setCell, World.size_drew, World.size_drewN] at hz1 hr1); (try have hw0 : w.heap.size < w1.heap.size := by omega); (try have hw1 : w.heap.size + 1 < w1.heap.size := by omega); (try have hw2 : w.heap.size + 1 + 1 < w1.heap.size := by omega))
    go_ret2
    exact .none (by (repeat' (first | (with_reducible exact Below.refl _ _) | (with_reducible assumption) | (with_reducible refine Below.alloc ?_ ?_ _) | (with_reducible refine Below.drew ?_) | (with_reducible refine Below.draws ?_ _) | (with_reducible refine Below.setCell ?_ ?_ _) | (refine Below.then ?_ (by with_reducible assumption)) | go_size)))
  · rw [h] at HC
    rw [show chainR (g.map ThV.th) t = (chainG (g.map ThV.th) t.toNat, 0) by rw [chainR, h]; rfl]
    obtain ⟨h1, h2, h3⟩ := isTh_iff.1 h
    have h8 := validG_len h1
    obtain ⟨i, rfl⟩ := Int.eq_ofNat_of_zero_le h2
    rw [hgl] at h3 h8
    have hi : i < n := by omega
    clear h h1 h2 h3 hgl
    simp only [Int.toNat_natCast]
    go_enter Try.func17, Try.ntmps17
    go_wp2_with (first | (go_at_call 50; refine (HC.out).mono ?_; rintro e w1 ⟨rfl, hb1⟩; obtain ⟨hc1, hf1, hz1, hr1⟩ := bfacts hb1; (try simp only [World.size_alloc, World.size_setCell, World.size_drew, World.size_drewN] at hz1 hr1); (try have hw0 : w.heap.size < w1.heap.size := by omega); (try have hw1 : w.heap.size + 1 < w1.heap.size := by omega); (try have hw2 : w.heap.size + 1 + 1 < w1.heap.size := by omega)) | (go_at_call 51; refine (rchain_any _ _ _ g i hi (by omega) _ (HR.out.ext hb1)).mono ?_; rintro e w2 ⟨a2, n2, c2, rfl, ho, hb2⟩; have HO := Lib.hid ho; have HB2 := Lib.hid hb2; clear ho hb2))
    go_ret2
    exact ⟨a2, n2, c2, rfl, owns_mono HO.out hb1.size, Below.then hb1 HB2.out⟩
/-- what Owner gives -/
def ownerR (g : List Th) (l : Int) : Int × Int := if validG g && inB l 0 5 then (if 0 ≤ holderG g l then (holderG g l, 0) else (0, 3)) else (0, 1)
theorem Owner_any (a : Option Addr) (n c : Nat) (g : List ThV) (l : Int) (w : World) (hG : RdG w a n g) :
    Calls Try.prog 20 #[.slice a n c, .int .i64 l] w fun e w' => e = rII (ownerR (g.map ThV.th) l).1 (ownerR (g.map ThV.th) l).2 ∧ Below w.heap.size w w' := by
  have HC := Lib.hid (valid_any a n c g w hG)
  have HR := Lib.hid hG; clear hG
  unfold ownerR
  generalize validG (g.map ThV.th) = V at *
  obtain ⟨H, hH⟩ : ∃ H, H = holderG (g.map ThV.th) l := ⟨_, rfl⟩
  rw [← hH]
  have HH := Lib.hid hH; clear hH
  cases V
  · go_enter Try.func20, Try.ntmps20
    go_wp2_with (first | (go_at_call 22; refine (HC.out).mono ?_; rintro e w1 ⟨rfl, hb1⟩; obtain ⟨hc1, hf1, hz1, hr1⟩ := bfacts hb1; (try simp only [World.size_alloc, World.size_setCell, World.size_drew, World.size_drewN] at hz1 hr1); (try have hw0 : w.heap.size < w1.heap.size := by omega); (try have hw1 : w.heap.size + 1 < w1.heap.size := by omega); (try have hw2 : w.heap.size + 1 + 1 < w1.heap.size := by omega)) | (go_at_call 54; refine (isLock_any _ _).mono ?_; rintro e w1 ⟨rfl, rfl⟩))
    go_ret2
    exact ⟨rII_eq rfl rfl, by (repeat' (first | (with_reducible exact Below.refl _ _) | (with_reducible assumption) | (with_reducible refine Below.alloc ?_ ?_ _) | (with_reducible refine Below.drew ?_) | (with_reducible refine Below.draws ?_ _) | (with_reducible refine Below.setCell ?_ ?_ _) | (refine Below.then ?_ (by with_reducible assumption)) | go_size))⟩
  · cases q : inB l 0 5
    · go_enter Try.func20, Try.ntmps20
      go_wp2_with (first | (go_at_call 22; refine (HC.out).mono ?_; rintro e w1 ⟨rfl, hb1⟩; obtain ⟨hc1, hf1, hz1, hr1⟩ := bfacts hb1; (try simp only [World.size_alloc, World.size_setCell, World.size_drew, World.size_drewN] at hz1 hr1); (try have hw0 : w.heap.size < w1.heap.size := by omega); (try have hw1 : w.heap.size + 1 < w1.heap.size := by omega); (try have hw2 : w.heap.size + 1 + 1 < w1.heap.size := by omega)) | (go_at_call 54; refine (isLock_any _ _).mono ?_; rintro e w1 ⟨rfl, rfl⟩))
      go_ret2
      exact ⟨rII_eq rfl rfl, by (repeat' (first | (with_reducible exact Below.refl _ _) | (with_reducible assumption) | (with_reducible refine Below.alloc ?_ ?_ _) | (with_reducible refine Below.drew ?_) | (with_reducible refine Below.draws ?_ _) | (with_reducible refine Below.setCell ?_ ?_ _) | (refine Below.then ?_ (by with_reducible assumption)) | go_size))⟩
    · by_cases q1 : 0 ≤ H
      · rw [if_pos q1]
        go_enter Try.func20, Try.ntmps20
        go_wp2_with (first | (go_at_call 22; refine (HC.out).mono ?_; rintro e w1 ⟨rfl, hb1⟩; obtain ⟨hc1, hf1, hz1, hr1⟩ := bfacts hb1; (try simp only [World.size_alloc, World.size_setCell, World.size_drew, World.size_drewN] at hz1 hr1); (try have hw0 : w.heap.size < w1.heap.size := by omega); (try have hw1 : w.heap.size + 1 < w1.heap.size := by omega); (try have hw2 : w.heap.size + 1 + 1 < w1.heap.size := by omega)) | (go_at_call 54; refine (isLock_any _ _).mono ?_; rintro e w1 ⟨rfl, rfl⟩) | (go_at_call 55; refine (holder_any _ _ _ _ l _ (HR.out.ext (by (repeat' (first | (with_reducible exact Below.refl _ _) | (with_reducible assumption) | (with_reducible refine Below.alloc ?_ ?_ _) | (with_reducible refine Below.drew ?_) | (with_reducible refine Below.draws ?_ _) | (with_reducible refine Below.setCell ?_ ?_ _) | (refine Below.then ?_ (by with_reducible assumption)) | go_size))))).mono ?_; rw [← HH.out]; rintro e w2 ⟨rfl, hb2⟩))
        go_ret2
        exact ⟨rII_eq rfl rfl, by (repeat' (first | (with_reducible exact Below.refl _ _) | (with_reducible assumption) | (with_reducible refine Below.alloc ?_ ?_ _) | (with_reducible refine Below.drew ?_) | (with_reducible refine Below.draws ?_ _) | (with_reducible refine Below.setCell ?_ ?_ _) | (refine Below.then ?_ (by with_reducible assumption)) | go_size))⟩
      · rw [if_neg q1]
        go_enter Try.func20, Try.ntmps20
        go_wp2_with (first | (go_at_call 22; refine (HC.out).mono ?_; rintro e w1 ⟨rfl, hb1⟩; obtain ⟨hc1, hf1, hz1, hr1⟩ := bfacts hb1; (try simp only [World.size_alloc, World.size_setCell, World.size_drew, World.size_drewN] at hz1 hr1); (try have hw0 : w.heap.size < w1.heap.size := by omega); (try have hw1 : w.heap.size + 1 < w1.heap.size := by omega); (try have hw2 : w.heap.size + 1 + 1 < w1.heap.size := by omega)) | (go_at_call 54; refine (isLock_any _ _).mono ?_; rintro e w1 ⟨rfl, rfl⟩) | (go_at_call 55; refine (holder_any _ _ _ _ l _ (HR.out.ext (by (repeat' (first | (with_reducible exact Below.refl _ _) | (with_reducible assumption) | (with_reducible refine Below.alloc ?_ ?_ _) | (with_reducible refine Below.drew ?_) | (with_reducible refine Below.draws ?_ _) | (with_reducible refine Below.setCell ?_ ?_ _) | (refine Below.then ?_ (by with_reducible assumption)) | go_size))))).mono ?_; rw [← HH.out]; rintro e w2 ⟨rfl, hb2⟩))
        go_ret2
        exact ⟨rII_eq rfl rfl, by (repeat' (first | (with_reducible exact Below.refl _ _) | (with_reducible assumption) | (with_reducible refine Below.alloc ?_ ?_ _) | (with_reducible refine Below.drew ?_) | (with_reducible refine Below.draws ?_ _) | (with_reducible refine Below.setCell ?_ ?_ _) | (refine Below.then ?_ (by with_reducible assumption)) | go_size))⟩
theorem rOwner_any (a : Option Addr) (n c : Nat) (g : List ThV) (l : Int) (w : World) (hG : RdG w a n g) :
    Calls Try.prog 21 #[.slice a n c, .int .i64 l] w fun e w' => e = rII (ownerR (g.map ThV.th) l).1 (ownerR (g.map ThV.th) l).2 ∧ Below w.heap.size w w' := by
  have HC := Lib.hid (rvalid_any a n c g w hG)
  have HR := Lib.hid hG; clear hG
  unfold ownerR
  generalize validG (g.map ThV.th) = V at *
  obtain ⟨H, hH⟩ : ∃ H, H = holderG (g.map ThV.th) l := ⟨_, rfl⟩
  rw [← hH]
  have HH := Lib.hid hH; clear hH
  cases V
  · go_enter Try.func21, Try.ntmps21
    go_wp2_with (first | (go_at_call 23; refine (HC.out).mono ?_; rintro e w1 ⟨rfl, hb1⟩; obtain ⟨hc1, hf1, hz1, hr1⟩ := bfacts hb1; (try simp only [World.size_alloc, World.size_setCell, World.size_drew, World.size_drewN] at hz1 hr1); (try have hw0 : w.heap.size < w1.heap.size := by omega); (try have hw1 : w.heap.size + 1 < w1.heap.size := by omega); (try have hw2 : w.heap.size + 1 + 1 < w1.heap.size := by omega)) | (go_at_call 56; refine (risLock_any _ _).mono ?_; rintro e w1 ⟨rfl, rfl⟩))
    go_ret2
    exact ⟨rII_eq rfl rfl, by (repeat' (first | (with_reducible exact Below.refl _ _) | (with_reducible assumption) | (with_reducible refine Below.alloc ?_ ?_ _) | (with_reducible refine Below.drew ?_) | (with_reducible refine Below.draws ?_ _) | (with_reducible refine Below.setCell ?_ ?_ _) | (refine Below.then ?_ (by with_reducible assumption)) | go_size))⟩
  · cases q : inB l 0 5
    · go_enter Try.func21, Try.ntmps21
      go_wp2_with (first | (go_at_call 23; refine (HC.out).mono ?_; rintro e w1 ⟨rfl, hb1⟩; obtain ⟨hc1, hf1, hz1, hr1⟩ := bfacts hb1; (try simp only [World.size_alloc, World.size_setCell, World.size_drew, World.size_drewN] at hz1 hr1); (try have hw0 : w.heap.size < w1.heap.size := by omega); (try have hw1 : w.heap.size + 1 < w1.heap.size := by omega); (try have hw2 : w.heap.size + 1 + 1 < w1.heap.size := by omega)) | (go_at_call 56; refine (risLock_any _ _).mono ?_; rintro e w1 ⟨rfl, rfl⟩))
      go_ret2
      exact ⟨rII_eq rfl rfl, by (repeat' (first | (with_reducible exact Below.refl _ _) | (with_reducible assumption) | (with_reducible refine Below.alloc ?_ ?_ _) | (with_reducible refine Below.drew ?_) | (with_reducible refine Below.draws ?_ _) | (with_reducible refine Below.setCell ?_ ?_ _) | (refine Below.then ?_ (by with_reducible assumption)) | go_size))⟩
    · by_cases q1 : 0 ≤ H
      · rw [if_pos q1]
        have q2 : ¬ H < 0 := by omega
        go_enter Try.func21, Try.ntmps21
        go_wp2_with (first | (go_at_call 23; refine (HC.out).mono ?_; rintro e w1 ⟨rfl, hb1⟩; obtain ⟨hc1, hf1, hz1, hr1⟩ := bfacts hb1; (try simp only [World.size_alloc, World.size_setCell, World.size_drew, World.size_drewN] at hz1 hr1); (try have hw0 : w.heap.size < w1.heap.size := by omega); (try have hw1 : w.heap.size + 1 < w1.heap.size := by omega); (try have hw2 : w.heap.size + 1 + 1 < w1.heap.size := by omega)) | (go_at_call 56; refine (risLock_any _ _).mono ?_; rintro e w1 ⟨rfl, rfl⟩) | (go_at_call 57; refine (rholder_any _ _ _ _ l _ (HR.out.ext (by (repeat' (first | (with_reducible exact Below.refl _ _) | (with_reducible assumption) | (with_reducible refine Below.alloc ?_ ?_ _) | (with_reducible refine Below.drew ?_) | (with_reducible refine Below.draws ?_ _) | (with_reducible refine Below.setCell ?_ ?_ _) | (refine Below.then ?_ (by with_reducible assumption)) | go_size))))).mono ?_; rw [← HH.out]; rintro e w2 ⟨rfl, hb2⟩))
        go_ret2
        exact ⟨rII_eq rfl rfl, by (repeat' (first | (with_reducible exact Below.refl _ _) | (with_reducible assumption) | (with_reducible refine Below.alloc ?_ ?_ _) | (with_reducible refine Below.drew ?_) | (with_reducible refine Below.draws ?_ _) | (with_reducible refine Below.setCell ?_ ?_ _) | (refine Below.then ?_ (by with_reducible assumption)) | go_size))⟩
      · rw [if_neg q1]
        have q2 : H < 0 := by omega
        go_enter Try.func21, Try.ntmps21
        go_wp2_with (first | (go_at_call 23; refine (HC.out).mono ?_; rintro e w1 ⟨rfl, hb1⟩; obtain ⟨hc1, hf1, hz1, hr1⟩ := bfacts hb1; (try simp only [World.size_alloc, World.size_setCell, World.size_drew, World.size_drewN] at hz1 hr1); (try have hw0 : w.heap.size < w1.heap.size := by omega); (try have hw1 : w.heap.size + 1 < w1.heap.size := by omega); (try have hw2 : w.heap.size + 1 + 1 < w1.heap.size := by omega)) | (go_at_call 56; refine (risLock_any _ _).mono ?_; rintro e w1 ⟨rfl, rfl⟩) | (go_at_call 57; refine (rholder_any _ _ _ _ l _ (HR.out.ext (by (repeat' (first | (with_reducible exact Below.refl _ _) | (with_reducible assumption) | (with_reducible refine Below.alloc ?_ ?_ _) | (with_reducible refine Below.drew ?_) | (with_reducible refine Below.draws ?_ _) | (with_reducible refine Below.setCell ?_ ?_ _) | (refine Below.then ?_ (by with_reducible assumption)) | go_size))))).mono ?_; rw [← HH.out]; rintro e w2 ⟨rfl, hb2⟩))
        go_ret2
        exact ⟨rII_eq rfl rfl, by (repeat' (first | (with_reducible exact Below.refl _ _) | (with_reducible assumption) | (with_reducible refine Below.alloc ?_ ?_ _) | (with_reducible refine Below.drew ?_) | (with_reducible refine Below.draws ?_ _) | (with_reducible refine Below.setCell ?_ ?_ _) | (refine Below.then ?_ (by with_reducible assumption)) | go_size))⟩
end Go.Proofs.Ytmdjbnicjohkjaa
