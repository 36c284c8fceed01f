/- Easier: the plain functions and the program's contract. The conditions: the tasks read as named. -/
import Derived.Test.YtabbmnnohnfbeaaRsMem
import Derived.Test.YtabbmnnohnfbeaaRsSim
namespace Go.Proofs.Ytabbmnnohnfbeaa
open Go.RowKit
set_option linter.unusedSimpArgs false
set_option linter.unusedVariables false
def pcE (p q : P2) : Bool := decide (p.2 = q.2) && decide (q.1 ≤ p.1)
def easP : List P2 → List P2 → Bool
  | [], [] => true
  | p :: ps, q :: qs => pcE p q && easP ps qs
  | _, _ => false
def loosB (t u : Ta) : Bool := decide (t.first ≤ u.first ∧ t.gap ≤ u.gap ∧ u.jit ≤ t.jit)
def easT (t u : Ta) : Bool := loosB t u && (decide (t.pri = u.pri) && (decide (t.dl ≤ u.dl) && easP t.pcs u.pcs))
def easL : List Ta → List Ta → Bool
  | [], [] => true
  | t :: L, u :: K => easT t u && easL L K
  | _, _ => false
def easR (L K : List Ta) : Bool × Int := if validL L && validL K then (easL L K, 0) else (false, 1)
theorem easP_len : ∀ {ps qs : List P2}, ¬ ps.length = qs.length → easP ps qs = false
  | [], [], h => absurd rfl h
  | [], _ :: _, _ => rfl
  | _ :: _, [], _ => rfl
  | p :: ps, q :: qs, h => by rw [easP, easP_len (fun e => h (by simp [e])), Bool.and_false]
theorem easL_len : ∀ {ps qs : List Ta}, ¬ ps.length = qs.length → easL ps qs = false
  | [], [], h => absurd rfl h
  | [], _ :: _, _ => rfl
  | _ :: _, [], _ => rfl
  | p :: ps, q :: qs, h => by rw [easL, easL_len (fun e => h (by simp [e])), Bool.and_false]
theorem easP_iff : ∀ {ps qs : List P2}, easP ps qs = true ↔ ps.length = qs.length ∧ ∀ (k : Nat) (p q : P2), ps[k]? = some p → qs[k]? = some q → p.2 = q.2 ∧ q.1 ≤ p.1
  | [], [] => by simp [easP]
  | [], _ :: _ => by simp [easP]
  | _ :: _, [] => by simp [easP]
  | p :: ps, q :: qs => by
    simp only [easP, Bool.and_eq_true, pcE, decide_eq_true_eq, easP_iff (ps := ps) (qs := qs), List.length_cons, Nat.add_right_cancel_iff]
    constructor
    · rintro ⟨h1, h2, h3⟩
      refine ⟨h2, fun k => ?_⟩
      cases k with
      | zero => intro a b ha hb; simp at ha hb; subst ha; subst hb; exact h1
      | succ k => intro a b ha hb; exact h3 k a b (by simpa using ha) (by simpa using hb)
    · rintro ⟨h1, h2⟩
      exact ⟨h2 0 p q rfl rfl, h1, fun k a b ha hb => h2 (k + 1) a b (by simpa using ha) (by simpa using hb)⟩
theorem easL_iff : ∀ {L K : List Ta}, easL L K = true ↔ L.length = K.length ∧ ∀ (k : Nat) (t u : Ta), L[k]? = some t → K[k]? = some u → easT t u = true
  | [], [] => by simp [easL]
  | [], _ :: _ => by simp [easL]
  | _ :: _, [] => by simp [easL]
  | t :: L, u :: K => by
    simp only [easL, Bool.and_eq_true, easL_iff (L := L) (K := K), List.length_cons, Nat.add_right_cancel_iff]
    constructor
    · rintro ⟨h1, h2, h3⟩
      refine ⟨h2, fun k => ?_⟩
      cases k with
      | zero => intro a b ha hb; simp at ha hb; subst ha; subst hb; exact h1
      | succ k => intro a b ha hb; exact h3 k a b (by simpa using ha) (by simpa using hb)
    · rintro ⟨h1, h2⟩
      exact ⟨h2 0 t u rfl rfl, h1, fun k a b ha hb => h2 (k + 1) a b (by simpa using ha) (by simpa using hb)⟩
theorem easT_iff {t u : Ta} : easT t u = true ↔ (t.first ≤ u.first ∧ t.gap ≤ u.gap ∧ u.jit ≤ t.jit) ∧ t.pri = u.pri ∧ t.dl ≤ u.dl ∧ easP t.pcs u.pcs = true := by
  simp only [easT, loosB, Bool.and_eq_true, decide_eq_true_eq]
theorem looser_is {f g j f' g' j' : Int} {b : Bool} {w : World} (hv : vpat f g j = true) (hv' : vpat f' g' j' = true) (h : decide (f' ≤ f ∧ g' ≤ g ∧ j ≤ j') = b) :
    Calls Try.prog 85 #[patV f g j, patV f' g' j'] w fun e w' => e = rBI b 0 ∧ Below w.heap.size w w' := by
  subst h
  go_enter Try.func85, Try.ntmps85
  go_wp2_with (go_at_call 75; refine (valid_any _ _ _ _).mono ?_; rintro e w1 ⟨rfl, hb1⟩; obtain ⟨hc1, hf1, hz1, hr1⟩ := bfacts hb1; (try simp only [World.size_alloc, World.size_setCell, World.size_drew, World.size_drewN] at hz1 hr1); (try have hw0 : w.heap.size < w1.heap.size := by omega); (try have hw1 : w.heap.size + 1 < w1.heap.size := by omega); (try have hw2 : w.heap.size + 1 + 1 < w1.heap.size := by omega))
  all_goals (go_ret2; exact ⟨rBI_eq (by simp [*] <;> omega) rfl, by (repeat' (first | (with_reducible exact Below.refl _ _) | (with_reducible assumption) | (with_reducible refine Below.alloc ?_ ?_ _) | (with_reducible refine Below.drew ?_) | (with_reducible refine Below.draws ?_ _) | (with_reducible refine Below.setCell ?_ ?_ _) | (refine Below.then ?_ (by with_reducible assumption)) | go_size))⟩)
theorem pcE_any (p l p' l' : Int) (w : World) : Calls Try.prog 87 #[.agg #[.int .i64 p, .int .i64 l], .agg #[.int .i64 p', .int .i64 l']] w fun e w' => e = .returned (.bool (pcE (p, l) (p', l'))) ∧ Below w.heap.size w w' := by
  by_cases h1 : l = l'
  · subst h1
    by_cases h2 : p' ≤ p
    · have h2' : decide (p' ≤ p) = true := by simpa using h2
      go_enter Try.func87, Try.ntmps87
      go_wp2
      go_ret
      exact ⟨ret_bool (by simp [pcE, h2]), by (repeat' (first | (with_reducible exact Below.refl _ _) | (with_reducible assumption) | (with_reducible refine Below.alloc ?_ ?_ _) | (with_reducible refine Below.drew ?_) | (with_reducible refine Below.draws ?_ _) | (with_reducible refine Below.setCell ?_ ?_ _) | (refine Below.then ?_ (by with_reducible assumption)) | go_size))⟩
    · have h2' : decide (p' ≤ p) = false := by simpa using h2
      go_enter Try.func87, Try.ntmps87
      go_wp2
      go_ret
      exact ⟨ret_bool (by simp [pcE, h2]), by (repeat' (first | (with_reducible exact Below.refl _ _) | (with_reducible assumption) | (with_reducible refine Below.alloc ?_ ?_ _) | (with_reducible refine Below.drew ?_) | (with_reducible refine Below.draws ?_ _) | (with_reducible refine Below.setCell ?_ ?_ _) | (refine Below.then ?_ (by with_reducible assumption)) | go_size))⟩
  · go_enter Try.func87, Try.ntmps87
    go_wp2
    go_ret
    exact ⟨ret_bool (by simp [pcE, h1]), by (repeat' (first | (with_reducible exact Below.refl _ _) | (with_reducible assumption) | (with_reducible refine Below.alloc ?_ ?_ _) | (with_reducible refine Below.drew ?_) | (with_reducible refine Below.draws ?_ _) | (with_reducible refine Below.setCell ?_ ?_ _) | (refine Below.then ?_ (by with_reducible assumption)) | go_size))⟩
theorem pcE_is {p l p' l' : Int} {b : Bool} {w : World} (h : pcE (p, l) (p', l') = b) : Calls Try.prog 87 #[.agg #[.int .i64 p, .int .i64 l], .agg #[.int .i64 p', .int .i64 l']] w fun e w' => e = .returned (.bool b) ∧ Below w.heap.size w w' := by subst h; exact pcE_any p l p' l' w
set_option maxRecDepth 10000 in
set_option maxHeartbeats 2000000 in
theorem eqP_any (a b : Option Addr) (n m c d : Nat) (ps qs : List P2) (w : World) (hA : Rd w a n 2 (ps.map enc2)) (hB : Rd w b m 2 (qs.map enc2)) :
    Calls Try.prog 86 #[.slice a n c, .slice b m d, .func (.func 87) #[] #[]] w fun e w' => e = .returned (.bool (easP ps qs)) ∧ Below w.heap.size w w' := by
  have hs := hA.small
  have hs2 := hB.small
  have HLA := Lib.hid hA.length
  have HLB := Lib.hid hB.length
  have HA := Lib.hid hA; have HB := Lib.hid hB
  by_cases hnm : n = m
  · subst hnm
    obtain ⟨R, hR⟩ : ∃ R, easP ps qs = R := ⟨_, rfl⟩
    have HR : Hid (easP (ps.drop 0) (qs.drop 0) = R) := Lib.hid hR
    rw [hR]
    clear hA hB hR
    go_enter Try.func86, Try.ntmps86
    go_wp2
    go_loopw [17] (fun i wr => ∃ k : Nat, k ≤ n ∧ i = .int .i64 k ∧ easP (ps.drop k) (qs.drop k) = R ∧ Below w.heap.size w wr) (fun i _ => n - (intOf i).toNat)
    case atStart => exact ⟨0, Nat.zero_le _, rfl, HR.out, by (repeat' (first | (with_reducible exact Below.refl _ _) | (with_reducible assumption) | (with_reducible refine Below.alloc ?_ ?_ _) | (with_reducible refine Below.drew ?_) | (with_reducible refine Below.draws ?_ _) | (with_reducible refine Below.setCell ?_ ?_ _) | (refine Below.then ?_ (by with_reducible assumption)) | go_size))⟩
    case round =>
      clear HR
      obtain ⟨k, hk, rfl, he, hb⟩ := hrel
      have HE := Lib.hid he; have HW := Lib.hid hb
      clear he hb
      by_cases hlt : k < n
      · obtain ⟨x, y, b1, o1, rfl, hb1, c0, c1, hg, HD⟩ := (HA.out.ext HW.out).pc_at k hlt
        obtain ⟨x', y', b2, o2, rfl, hb2, d0, d1, hg', HD'⟩ := (HB.out.ext HW.out).pc_at k hlt
        have hE := HE.out
        rw [HD.out, HD'.out, easP] at hE
        obtain ⟨v, hv⟩ : ∃ v, pcE (x, y) (x', y') = v := ⟨_, rfl⟩
        have HV := Lib.hid hv
        rw [hv] at hE
        have n1 : ¬ b1 = wr.heap.size := by omega
        have n2 : ¬ b2 = wr.heap.size := by omega
        clear HE HD HD' hg hg' hv
        cases v
        · obtain rfl : R = false := by rw [← hE, Bool.false_and]
          clear hE
          go_wp2_with (go_at_call 87; (with_reducible refine (pcE_is HV.out).mono ?_); rintro e w1 ⟨rfl, hw1⟩; have B1 := Lib.hid (Below.then (show Below wr.heap.size wr _ by (repeat' (first | (with_reducible exact Below.refl _ _) | (with_reducible assumption) | (with_reducible refine Below.alloc ?_ ?_ _) | (with_reducible refine Below.drew ?_) | (with_reducible refine Below.draws ?_ _) | (with_reducible refine Below.setCell ?_ ?_ _) | (refine Below.then ?_ (by with_reducible assumption)) | go_size))) hw1); clear hw1)
          go_ret
          exact ⟨rfl, Below.then HW.out B1.out⟩
        · rw [Bool.true_and] at hE
          have HE := Lib.hid hE
          clear hE
          go_wp2_with (go_at_call 87; (with_reducible refine (pcE_is HV.out).mono ?_); rintro e w1 ⟨rfl, hw1⟩; have B1 := Lib.hid (Below.then (show Below wr.heap.size wr _ by (repeat' (first | (with_reducible exact Below.refl _ _) | (with_reducible assumption) | (with_reducible refine Below.alloc ?_ ?_ _) | (with_reducible refine Below.drew ?_) | (with_reducible refine Below.draws ?_ _) | (with_reducible refine Below.setCell ?_ ?_ _) | (refine Below.then ?_ (by with_reducible assumption)) | go_size))) hw1); clear hw1)
          go_roundw
          case rel => exact ⟨k + 1, by omega, by go_num, HE.out, Below.then HW.out B1.out⟩
          case measure => simp [intOf]; omega
      · obtain rfl : R = true := by rw [← HE.out, drop_end HLA.out (by omega), drop_end HLB.out (by omega)]; rfl
        clear HE
        go_wp2
        go_ret
        exact ⟨rfl, HW.out⟩
  · rw [easP_len (fun h => hnm (by rw [← HLA.out, ← HLB.out, h]))]
    clear hA hB
    go_enter Try.func86, Try.ntmps86
    go_wp2
    go_ret
    exact ⟨rfl, by (repeat' (first | (with_reducible exact Below.refl _ _) | (with_reducible assumption) | (with_reducible refine Below.alloc ?_ ?_ _) | (with_reducible refine Below.drew ?_) | (with_reducible refine Below.draws ?_ _) | (with_reducible refine Below.setCell ?_ ?_ _) | (refine Below.then ?_ (by with_reducible assumption)) | go_size))⟩
theorem eqP_is {a b : Option Addr} {n m c d : Nat} {ps qs : List P2} {v : Bool} {w : World} (hA : Rd w a n 2 (ps.map enc2)) (hB : Rd w b m 2 (qs.map enc2)) (h : easP ps qs = v) :
    Calls Try.prog 86 #[.slice a n c, .slice b m d, .func (.func 87) #[] #[]] w fun e w' => e = .returned (.bool v) ∧ Below w.heap.size w w' := by subst h; exact eqP_any a b n m c d ps qs w hA hB
end Go.Proofs.Ytabbmnnohnfbeaa
