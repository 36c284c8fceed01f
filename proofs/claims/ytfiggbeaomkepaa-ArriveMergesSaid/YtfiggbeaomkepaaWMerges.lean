/- The walk of ArriveMerges: it returns true. No condition. -/
import Derived.Test.YtfiggbeaomkepaaStPRm
import Derived.Test.YtfiggbeaomkepaaWCounts
namespace Go.Proofs.Ytfiggbeaomkepaa.StP
open Go.RowKit Go.Proofs.Ytfiggbeaomkepaa
set_option linter.unusedSimpArgs false
set_option linter.unusedVariables false
theorem own_own {a : Option Addr} {n c : Nat} {w : World} {xs : List P2} (hR : Rd w a n 2 (xs.map enc2)) (hnil : n = 0 → (a = none ∧ c = 0) ∨ ∃ ad, a = some ad) (hn : n ≤ 1000) :
    Calls Try.prog 23 #[.slice a n c] w fun e w' => (∃ a' c', e = .returned (.slice a' n c') ∧ w'.ownsRow w.heap.size 61 2 (.slice a' n c') n (xs.flatMap enc2)) ∧ Below w.heap.size w w' := by
  have HR := Lib.hid hR; clear hR
  have HN := Lib.hid hnil; clear hnil
  have e2 := E2
  have hcap : (n : Int) + 2 = ((n + 2 : Nat) : Int) := by omega
  have HC := Lib.hid hcap; clear hcap
  go_enter Try.func23, Try.ntmps23
  go_wp2_with (first
    | (at_make; refine wpList_mk0 rfl _ _ _ rfl e2 (n + 2) rfl rfl HC.out (by omega) (by decide) (Nat.le_refl _) ?_; intro w1 hown1 hb1; have HO1 := Lib.hid hown1; have HB1 := Lib.hid hb1; clear hown1 hb1)
    | (at_builtin; refine wpList_pushAll rfl _ _ _ rfl e2 enc2_len enc2_one rfl HO1.out rfl (HR.out.ext HB1.out) HN.out (by omega) (by decide) HB1.out.size ?_; rintro v' w2 hown2 ⟨a', c', rfl⟩ hb2; have HO2 := Lib.hid hown2; have HB2 := Lib.hid hb2; clear hown2 hb2))
  go_ret
  exact ⟨⟨a', c', rfl, by simpa using HO2.out⟩, HB1.out.trans HB2.out⟩
theorem pairs_is {a b : Option Addr} {n m cn cm : Nat} {xs : List P2} {w : World} (ha : Rd w a n 2 (xs.map enc2)) (hb : Rd w b m 2 (xs.map enc2)) :
    Calls Try.prog 28 #[.slice a n cn, .slice b m cm] w fun e w' => e = .returned (.bool true) ∧ Below w.heap.size w w' := by
  have := pairs_any a b n m cn cm xs xs w ha hb
  rw [decide_eq_true rfl] at this
  exact this
theorem mrg_is {a b : Option Addr} {n m c d : Nat} {xs ys : List P2} {w : World} {L : List P2} {E : Int} (hR : Rd w a n 2 (xs.map enc2)) (hS : Rd w b m 2 (ys.map enc2)) (ha : n = 0 → (a = none ∧ c = 0) ∨ ∃ ad, a = some ad) (hb : m = 0 → (b = none ∧ d = 0) ∨ ∃ ad, b = some ad) (h : mergeR xs ys = (L, E)) :
    Calls Try.prog 46 #[.slice a n c, .slice b m d] w (OutP w.heap.size w L E) := by have := merge_any a b n m c d xs ys w hR hS ha hb; rw [h] at this; exact this
theorem rmrg_is {a b : Option Addr} {n m c d : Nat} {xs ys : List P2} {w : World} {L : List P2} {E : Int} (hn : n ≤ 1000) (hm : m ≤ 1000) (hR : Rd w a n 2 (xs.map enc2)) (hS : Rd w b m 2 (ys.map enc2)) (ha : n = 0 → (a = none ∧ c = 0) ∨ ∃ ad, a = some ad) (hb : m = 0 → (b = none ∧ d = 0) ∨ ∃ ad, b = some ad) (h : mergeR xs ys = (L, E)) :
    Calls Try.prog 47 #[.slice a n c, .slice b m d] w (OutP w.heap.size w L E) := by have := rmerge_any a b n m c d xs ys w hn hm hR hS ha hb; rw [h] at this; exact this
theorem psort_perm {xs ys : List P2} (h : xs.Perm ys) : isortL (ltOf pcmp) xs = isortL (ltOf pcmp) ys := by
  have p : (isortL (ltOf pcmp) xs).Perm (isortL (ltOf pcmp) ys) := (isort_perm _ _).trans (h.trans (isort_perm _ _).symm)
  refine p.eq_of_pairwise (le := fun a b => ltOf pcmp b a = false) (fun a b _ _ h1 h2 => ?_) (isort_srt pswo xs) (isort_srt pswo ys)
  rw [pcmp_no] at h1 h2
  obtain ⟨a1, a2⟩ := a
  obtain ⟨b1, b2⟩ := b
  simp only [] at h1 h2
  have e1 : a1 = b1 := by omega
  have e2 : a2 = b2 := by omega
  rw [e1, e2]
theorem isort_permI {xs ys : List Int} (h : xs.Perm ys) : isortL ltI xs = isortL ltI ys := by
  have p : (isortL ltI xs).Perm (isortL ltI ys) := (isort_perm _ _).trans (h.trans (isort_perm _ _).symm)
  have hw : Swo ltI := ⟨fun a b h => by unfold ltI at *; simp at *; omega, fun a b c h k => by unfold ltI at *; simp at *; omega⟩
  refine p.eq_of_pairwise (le := fun a b => ltI b a = false) (fun a b _ _ h1 h2 => ?_) (isort_srt hw xs) (isort_srt hw ys)
  unfold ltI at h1 h2
  simp at h1 h2
  omega
theorem merge_comm (xs ys : List P2) : mergeR ys xs = mergeR xs ys := by
  unfold mergeR
  rw [Bool.or_comm, Nat.add_comm, psort_perm (List.perm_append_comm (l₁ := ys) (l₂ := xs))]
theorem merge_rel {xs ys ms : List P2} (h : mergeR xs ys = (ms, 0)) : relR ms = (isortL ltI (relL (xs ++ ys)), 0) ∧ relR (xs ++ ys) = (isortL ltI (relL (xs ++ ys)), 0) ∧ xs.length + ys.length ≤ 40 := by
  unfold mergeR at h
  split at h
  · simp at h
  · rename_i h1
    split at h
    · simp at h
    · rename_i h2
      have hm : isortL (ltOf pcmp) (xs ++ ys) = ms := congrArg Prod.fst h
      have hp : ms.Perm (xs ++ ys) := by rw [← hm]; exact isort_perm _ _
      have l0 : listE (xs ++ ys) = 0 := by
        unfold listE
        rw [if_neg (by simpa using h1), if_neg (by rw [List.length_append]; exact h2)]
      have l1 : listE ms = 0 := by
        unfold listE
        rw [if_neg (by rw [hp.any_eq]; simpa using h1), if_neg (by rw [hp.length_eq, List.length_append]; exact h2)]
      refine ⟨?_, by rw [relR_ok l0], by omega⟩
      rw [relR_ok l1]
      exact congrArg (fun l => (l, (0 : Int))) (isort_permI (hp.map _))
set_option maxRecDepth 100000 in
set_option maxHeartbeats 4000000 in
theorem arriveMerges_walk {w : World} (a : Option Addr) (n c : Nat) (xs : List P2) (hR : Rd w a n 2 (xs.map enc2)) (hnil : n = 0 → (a = none ∧ c = 0) ∨ ∃ ad, a = some ad) (hz1 : n ≤ 281474976710656) (b : Option Addr) (m d : Nat) (ys : List P2) (hS : Rd w b m 2 (ys.map enc2)) (hnil2 : m = 0 → (b = none ∧ d = 0) ∨ ∃ ad, b = some ad) (hz2 : m ≤ 281474976710656) :
    Calls Try.prog 13 #[.slice a n c, .slice b m d] w fun e w' => e = .returned (.bool true) ∧ Below w.heap.size w w' := by
  have hs1 := hR.small
  have hs2 := hS.small
  have HLx := Lib.hid hR.length; have HLy := Lib.hid hS.length
  have HR := Lib.hid hR; have HS := Lib.hid hS; have HN := Lib.hid hnil; have HN2 := Lib.hid hnil2
  clear hR hS hnil hnil2
  by_cases hbig : 300 < n + m
  · have hgi : (300 : Int) < (n : Int) + (m : Int) := by omega
    go_enter Try.func13, Try.ntmps13
    go_wp2_with (go_at_call 16; refine (sane_any _).mono ?_; rintro e w1 ⟨rfl, hb1⟩; obtain ⟨hc1, hf1, hz1, hr1⟩ := bfacts hb1; (try simp only [World.size_alloc, World.size_setCell, World.size_drew, World.size_drewN] at hz1 hr1); (try have hw0 : w.heap.size < w1.heap.size := by omega); (try have hw1 : w.heap.size + 1 < w1.heap.size := by omega); (try have hw2 : w.heap.size + 1 + 1 < w1.heap.size := by omega))
    go_ret
    exact ⟨rfl, by (repeat' (first | (with_reducible exact Below.refl _ _) | (with_reducible assumption) | (with_reducible refine Below.alloc ?_ ?_ _) | (with_reducible refine Below.drew ?_) | (with_reducible refine Below.draws ?_ _) | (with_reducible refine Below.setCell ?_ ?_ _) | (refine Below.then ?_ (by with_reducible assumption)) | go_size))⟩
  · have hnm : n ≤ 300 ∧ m ≤ 300 := by omega
    obtain ⟨hn3, hm3⟩ := hnm
    have hgi : ¬ (300 : Int) < (n : Int) + (m : Int) := by omega
    obtain ⟨ms, M, hM⟩ : ∃ ms M, mergeR xs ys = (ms, M) := ⟨_, _, rfl⟩
    have HM := Lib.hid hM
    have HM2 : Hid (mergeR ys xs = (ms, M)) := Lib.hid ((merge_comm xs ys).trans hM)
    by_cases h0 : M = 0
    · subst h0
      obtain ⟨r1, r2, r3⟩ := merge_rel hM
      obtain ⟨RL, hRL⟩ : ∃ RL, isortL ltI (relL (xs ++ ys)) = RL := ⟨_, rfl⟩
      rw [hRL] at r1 r2
      have R1 := Lib.hid r1; have R2 := Lib.hid r2
      rw [HLx.out, HLy.out] at r3
      have e2 := E2
      clear hM r1 r2 hRL hbig
      go_enter Try.func13, Try.ntmps13
      go_wp2_with (first
        | (go_at_call 23; (with_reducible refine (own_own HR.out HN.out (by omega)).mono ?_); rintro e w1 ⟨⟨a1, c1, rfl, hk⟩, hb1⟩; have HK1 := Lib.hid hk; have B1 := Lib.hid hb1; clear hk hb1)
        | (go_at_call 23; (with_reducible refine (own_own (HS.out.ext B1.out) HN2.out (by omega)).mono ?_); rintro e w2 ⟨⟨a2, c2, rfl, hk⟩, hb2⟩; have HK2 := Lib.hid (ownsP_rd hk); have HN4 := Lib.hid (owns_nil hk); have HN3 := Lib.hid (owns_nil HK1.out); have HK3 := Lib.hid ((ownsP_rd HK1.out).ext hb2); have B2 := Lib.hid (Below.then B1.out hb2); clear hk hb2)
        | (go_at_call 46; (with_reducible refine (mrg_is HK3.out HK2.out HN3.out HN4.out HM.out).mono ?_); rintro e w3 ⟨a3, n3, c3, rfl, hk, hb3⟩; have HA := Lib.hid (ownsP_rd hk); have B3 := Lib.hid (Below.then B2.out hb3); have C3 := Lib.hid hb3; clear hk hb3)
        | (go_at_call 47; (with_reducible refine (rmrg_is (by omega) (by omega) (HR.out.ext B3.out) (HS.out.ext B3.out) HN.out HN2.out HM.out).mono ?_); rintro e w4 ⟨a4, n4, c4, rfl, hk, hb4⟩; have HB := Lib.hid (ownsP_rd hk); have B4 := Lib.hid (Below.then B3.out hb4); have C4 := Lib.hid hb4; clear hk hb4)
        | (go_at_call 46; (with_reducible refine (mrg_is (HS.out.ext B4.out) (HR.out.ext B4.out) HN2.out HN.out HM2.out).mono ?_); rintro e w5 ⟨a5, n5, c5, rfl, hk, hb5⟩; have HC := Lib.hid (ownsP_rd hk); have HB5 := Lib.hid (HB.out.ext hb5); have HA5 := Lib.hid ((HA.out.ext C4.out).ext hb5); have HK5 := Lib.hid (((HK3.out.ext C3.out).ext C4.out).ext hb5); have HK6 := Lib.hid (((HK2.out.ext C3.out).ext C4.out).ext hb5); have hb1 := Below.then B4.out hb5; have B5 := Lib.hid hb1; clear hk hb5)
        | (go_at_call 28; (with_reducible refine (pairs_is (HA5.out.ext (by (repeat' (first | (with_reducible exact Below.refl _ _) | (with_reducible assumption) | (with_reducible refine Below.alloc ?_ ?_ _) | (with_reducible refine Below.drew ?_) | (with_reducible refine Below.draws ?_ _) | (with_reducible refine Below.setCell ?_ ?_ _) | (refine Below.then ?_ (by with_reducible assumption)) | go_size)))) (HB5.out.ext (by (repeat' (first | (with_reducible exact Below.refl _ _) | (with_reducible assumption) | (with_reducible refine Below.alloc ?_ ?_ _) | (with_reducible refine Below.drew ?_) | (with_reducible refine Below.draws ?_ _) | (with_reducible refine Below.setCell ?_ ?_ _) | (refine Below.then ?_ (by with_reducible assumption)) | go_size))))).mono ?_); rintro e w1 ⟨rfl, hb1⟩)
        | (go_at_call 28; (with_reducible refine (pairs_is (HC.out.ext (by (repeat' (first | (with_reducible exact Below.refl _ _) | (with_reducible assumption) | (with_reducible refine Below.alloc ?_ ?_ _) | (with_reducible refine Below.drew ?_) | (with_reducible refine Below.draws ?_ _) | (with_reducible refine Below.setCell ?_ ?_ _) | (refine Below.then ?_ (by with_reducible assumption)) | go_size)))) (HB5.out.ext (by (repeat' (first | (with_reducible exact Below.refl _ _) | (with_reducible assumption) | (with_reducible refine Below.alloc ?_ ?_ _) | (with_reducible refine Below.drew ?_) | (with_reducible refine Below.draws ?_ _) | (with_reducible refine Below.setCell ?_ ?_ _) | (refine Below.then ?_ (by with_reducible assumption)) | go_size))))).mono ?_); rintro e w1 ⟨rfl, hb1⟩)
        | (go_at_call 28; (with_reducible refine (pairs_is (HK5.out.ext (by (repeat' (first | (with_reducible exact Below.refl _ _) | (with_reducible assumption) | (with_reducible refine Below.alloc ?_ ?_ _) | (with_reducible refine Below.drew ?_) | (with_reducible refine Below.draws ?_ _) | (with_reducible refine Below.setCell ?_ ?_ _) | (refine Below.then ?_ (by with_reducible assumption)) | go_size)))) (HR.out.ext (by (repeat' (first | (with_reducible exact Below.refl _ _) | (with_reducible assumption) | (with_reducible refine Below.alloc ?_ ?_ _) | (with_reducible refine Below.drew ?_) | (with_reducible refine Below.draws ?_ _) | (with_reducible refine Below.setCell ?_ ?_ _) | (refine Below.then ?_ (by with_reducible assumption)) | go_size))))).mono ?_); rintro e w1 ⟨rfl, hb1⟩)
        | (go_at_call 28; (with_reducible refine (pairs_is (HK6.out.ext (by (repeat' (first | (with_reducible exact Below.refl _ _) | (with_reducible assumption) | (with_reducible refine Below.alloc ?_ ?_ _) | (with_reducible refine Below.drew ?_) | (with_reducible refine Below.draws ?_ _) | (with_reducible refine Below.setCell ?_ ?_ _) | (refine Below.then ?_ (by with_reducible assumption)) | go_size)))) (HS.out.ext (by (repeat' (first | (with_reducible exact Below.refl _ _) | (with_reducible assumption) | (with_reducible refine Below.alloc ?_ ?_ _) | (with_reducible refine Below.drew ?_) | (with_reducible refine Below.draws ?_ _) | (with_reducible refine Below.setCell ?_ ?_ _) | (refine Below.then ?_ (by with_reducible assumption)) | go_size))))).mono ?_); rintro e w1 ⟨rfl, hb1⟩)
        | (go_at_call 43; (with_reducible refine (rel_is (HA5.out.ext (by (repeat' (first | (with_reducible exact Below.refl _ _) | (with_reducible assumption) | (with_reducible refine Below.alloc ?_ ?_ _) | (with_reducible refine Below.drew ?_) | (with_reducible refine Below.draws ?_ _) | (with_reducible refine Below.setCell ?_ ?_ _) | (refine Below.then ?_ (by with_reducible assumption)) | go_size)))) R1.out).mono ?_); rintro e w6 ⟨a6, n6, c6, rfl, ho6, hb6⟩; have HR6 := Lib.hid (ownsI_rd ho6); have hw6 : Below w.heap.size w w6 := (by (repeat' (first | (with_reducible exact Below.refl _ _) | (with_reducible assumption) | (with_reducible refine Below.alloc ?_ ?_ _) | (with_reducible refine Below.drew ?_) | (with_reducible refine Below.draws ?_ _) | (with_reducible refine Below.setCell ?_ ?_ _) | (refine Below.then ?_ (by with_reducible assumption)) | go_size))); have B6 := Lib.hid hw6; clear ho6)
        | (at_builtin; refine wpList_pushAll (B := w6.heap.size) rfl _ _ _ rfl e2 enc2_len enc2_one rfl HO7.out rfl (HS.out.ext (Below.then B6.out B7.out)) HN2.out (by omega) (by decide) B7.out.size ?_; intro v8 w8 hown8 hv8 hb8; obtain ⟨a8, c8, rfl⟩ := hv8; rw [← List.flatMap_append] at hown8; have HR8 := Lib.hid (ownsP_rd hown8); have hw8 : Below w6.heap.size w6 w8 := B7.out.trans hb8; have hw8' : Below w.heap.size w w8 := Below.then B6.out hw8; have HR68 := Lib.hid (HR6.out.ext hw8); clear hown8)
        | (at_builtin; refine wpList_pushAll (B := w6.heap.size) (n := 0) (xs := []) (v := .slice none 0 0) rfl _ _ _ rfl e2 enc2_len enc2_one rfl (World.ownsRow_nil _ _ _ _) rfl (HR.out.ext B6.out) HN.out (by omega) (by decide) (Nat.le_refl _) ?_; intro v7 w7 hown7 hv7 hb7; obtain ⟨a7, c7, rfl⟩ := hv7; rw [Nat.zero_add, List.nil_append] at hown7; rw [Nat.zero_add]; have HO7 := Lib.hid hown7; have B7 := Lib.hid hb7; clear hown7 hb7)
        | (go_at_call 44; (with_reducible refine (rrel_is HR8.out R2.out).mono ?_); rintro e w9 ⟨a9, n9, c9, rfl, ho9, hb9⟩; have HR9 := Lib.hid (ownsI_rd ho9); have HR69 := Lib.hid (HR68.out.ext hb9); clear ho9)
        | (go_at_call 42; (with_reducible refine (lints_eq _ _ _ _ _ _ RL _ HR69.out HR9.out).mono ?_); rintro e w1 ⟨rfl, hb1⟩)
        | (go_at_call 16; refine (sane_any _).mono ?_; rintro e w1 ⟨rfl, hb1⟩))
      go_ret
      exact ⟨rfl, by (repeat' (first | (with_reducible exact Below.refl _ _) | (with_reducible assumption) | (with_reducible refine Below.alloc ?_ ?_ _) | (with_reducible refine Below.drew ?_) | (with_reducible refine Below.draws ?_ _) | (with_reducible refine Below.setCell ?_ ?_ _) | (refine Below.then ?_ (by with_reducible assumption)) | go_size))⟩
    · have h0' : (M == 0) = false := by simpa using h0
      clear hM hbig
      go_enter Try.func13, Try.ntmps13
      go_wp2_with (first
        | (go_at_call 23; (with_reducible refine (own_own HR.out HN.out (by omega)).mono ?_); rintro e w1 ⟨⟨a1, c1, rfl, hk⟩, hb1⟩; have HK1 := Lib.hid hk; have B1 := Lib.hid hb1; clear hk hb1)
        | (go_at_call 23; (with_reducible refine (own_own (HS.out.ext B1.out) HN2.out (by omega)).mono ?_); rintro e w2 ⟨⟨a2, c2, rfl, hk⟩, hb2⟩; have HK2 := Lib.hid (ownsP_rd hk); have HN4 := Lib.hid (owns_nil hk); have HN3 := Lib.hid (owns_nil HK1.out); have HK3 := Lib.hid ((ownsP_rd HK1.out).ext hb2); have B2 := Lib.hid (Below.then B1.out hb2); clear hk hb2)
        | (go_at_call 46; (with_reducible refine (mrg_is HK3.out HK2.out HN3.out HN4.out HM.out).mono ?_); rintro e w3 ⟨a3, n3, c3, rfl, hk, hb3⟩; have HA := Lib.hid (ownsP_rd hk); have B3 := Lib.hid (Below.then B2.out hb3); have C3 := Lib.hid hb3; clear hk hb3)
        | (go_at_call 47; (with_reducible refine (rmrg_is (by omega) (by omega) (HR.out.ext B3.out) (HS.out.ext B3.out) HN.out HN2.out HM.out).mono ?_); rintro e w4 ⟨a4, n4, c4, rfl, hk, hb4⟩; have HB := Lib.hid (ownsP_rd hk); have B4 := Lib.hid (Below.then B3.out hb4); have C4 := Lib.hid hb4; clear hk hb4)
        | (go_at_call 46; (with_reducible refine (mrg_is (HS.out.ext B4.out) (HR.out.ext B4.out) HN2.out HN.out HM2.out).mono ?_); rintro e w5 ⟨a5, n5, c5, rfl, hk, hb5⟩; have HC := Lib.hid (ownsP_rd hk); have HB5 := Lib.hid (HB.out.ext hb5); have HA5 := Lib.hid ((HA.out.ext C4.out).ext hb5); have HK5 := Lib.hid (((HK3.out.ext C3.out).ext C4.out).ext hb5); have HK6 := Lib.hid (((HK2.out.ext C3.out).ext C4.out).ext hb5); have hb1 := Below.then B4.out hb5; have B5 := Lib.hid hb1; clear hk hb5)
        | (go_at_call 28; (with_reducible refine (pairs_is (HA5.out.ext (by (repeat' (first | (with_reducible exact Below.refl _ _) | (with_reducible assumption) | (with_reducible refine Below.alloc ?_ ?_ _) | (with_reducible refine Below.drew ?_) | (with_reducible refine Below.draws ?_ _) | (with_reducible refine Below.setCell ?_ ?_ _) | (refine Below.then ?_ (by with_reducible assumption)) | go_size)))) (HB5.out.ext (by (repeat' (first | (with_reducible exact Below.refl _ _) | (with_reducible assumption) | (with_reducible refine Below.alloc ?_ ?_ _) | (with_reducible refine Below.drew ?_) | (with_reducible refine Below.draws ?_ _) | (with_reducible refine Below.setCell ?_ ?_ _) | (refine Below.then ?_ (by with_reducible assumption)) | go_size))))).mono ?_); rintro e w1 ⟨rfl, hb1⟩)
        | (go_at_call 28; (with_reducible refine (pairs_is (HC.out.ext (by (repeat' (first | (with_reducible exact Below.refl _ _) | (with_reducible assumption) | (with_reducible refine Below.alloc ?_ ?_ _) | (with_reducible refine Below.drew ?_) | (with_reducible refine Below.draws ?_ _) | (with_reducible refine Below.setCell ?_ ?_ _) | (refine Below.then ?_ (by with_reducible assumption)) | go_size)))) (HB5.out.ext (by (repeat' (first | (with_reducible exact Below.refl _ _) | (with_reducible assumption) | (with_reducible refine Below.alloc ?_ ?_ _) | (with_reducible refine Below.drew ?_) | (with_reducible refine Below.draws ?_ _) | (with_reducible refine Below.setCell ?_ ?_ _) | (refine Below.then ?_ (by with_reducible assumption)) | go_size))))).mono ?_); rintro e w1 ⟨rfl, hb1⟩)
        | (go_at_call 28; (with_reducible refine (pairs_is (HK5.out.ext (by (repeat' (first | (with_reducible exact Below.refl _ _) | (with_reducible assumption) | (with_reducible refine Below.alloc ?_ ?_ _) | (with_reducible refine Below.drew ?_) | (with_reducible refine Below.draws ?_ _) | (with_reducible refine Below.setCell ?_ ?_ _) | (refine Below.then ?_ (by with_reducible assumption)) | go_size)))) (HR.out.ext (by (repeat' (first | (with_reducible exact Below.refl _ _) | (with_reducible assumption) | (with_reducible refine Below.alloc ?_ ?_ _) | (with_reducible refine Below.drew ?_) | (with_reducible refine Below.draws ?_ _) | (with_reducible refine Below.setCell ?_ ?_ _) | (refine Below.then ?_ (by with_reducible assumption)) | go_size))))).mono ?_); rintro e w1 ⟨rfl, hb1⟩)
        | (go_at_call 28; (with_reducible refine (pairs_is (HK6.out.ext (by (repeat' (first | (with_reducible exact Below.refl _ _) | (with_reducible assumption) | (with_reducible refine Below.alloc ?_ ?_ _) | (with_reducible refine Below.drew ?_) | (with_reducible refine Below.draws ?_ _) | (with_reducible refine Below.setCell ?_ ?_ _) | (refine Below.then ?_ (by with_reducible assumption)) | go_size)))) (HS.out.ext (by (repeat' (first | (with_reducible exact Below.refl _ _) | (with_reducible assumption) | (with_reducible refine Below.alloc ?_ ?_ _) | (with_reducible refine Below.drew ?_) | (with_reducible refine Below.draws ?_ _) | (with_reducible refine Below.setCell ?_ ?_ _) | (refine Below.then ?_ (by with_reducible assumption)) | go_size))))).mono ?_); rintro e w1 ⟨rfl, hb1⟩)
        | (go_at_call 16; refine (sane_any _).mono ?_; rintro e w1 ⟨rfl, hb1⟩))
      go_ret
      exact ⟨rfl, by (repeat' (first | (with_reducible exact Below.refl _ _) | (with_reducible assumption) | (with_reducible refine Below.alloc ?_ ?_ _) | (with_reducible refine Below.drew ?_) | (with_reducible refine Below.draws ?_ _) | (with_reducible refine Below.setCell ?_ ?_ _) | (refine Below.then ?_ (by with_reducible assumption)) | go_size))⟩
end Go.Proofs.Ytfiggbeaomkepaa.StP
