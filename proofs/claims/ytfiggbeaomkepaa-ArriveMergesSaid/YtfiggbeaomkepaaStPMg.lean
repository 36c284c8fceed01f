/- The contracts of Merge of both sides. The conditions: the lists read as named. -/
import Derived.Test.YtfiggbeaomkepaaStPMer
import Derived.Test.YtfiggbeaomkepaaCtRel
namespace Go.Proofs.Ytfiggbeaomkepaa.StP
open Go.RowKit Go.Proofs.Ytfiggbeaomkepaa
set_option linter.unusedSimpArgs false
set_option linter.unusedVariables false
theorem ins_nil (g : Nat) (cb : Array Value) (w : World) : Calls Try.prog 100 #[.slice none 0 0, .int .i64 0, .int .i64 0, .func (.func g) #[] cb] w fun e w' => e = .returned (.tuple #[]) ∧ w = w' := by
  go_enter Try.func100, Try.ntmps100
  go_wp2
  go_loopw [8] (fun v wr => v = .int .i64 1 ∧ w = wr) (fun _ _ => 0)
  case atStart => exact ⟨rfl, rfl⟩
  case round =>
    obtain ⟨rfl, rfl⟩ := hrel
    go_wp2
    go_end0
    exact ⟨rfl, rfl⟩
theorem stable_nil (g : Nat) (cb : Array Value) (w : World) : Calls Try.prog 79 #[.slice none 0 0, .int .i64 0, .func (.func g) #[] cb] w fun e w' => e = .returned (.tuple #[]) ∧ w = w' := by
  go_enter Try.func79, Try.ntmps79
  go_wp2
  go_loopw [7, 8] (fun u v wr => u = .int .i64 0 ∧ v = .int .i64 20 ∧ w = wr) (fun _ _ _ => 0)
  case atStart => exact ⟨rfl, rfl, rfl⟩
  case round =>
    obtain ⟨rfl, rfl, rfl⟩ := hrel
    go_wp2_with (go_at_call 100; (with_reducible refine (ins_nil _ _ _).mono ?_); rintro e w1 ⟨rfl, rfl⟩)
    go_loopw [6] (fun u wr => u = .int .i64 20 ∧ w = wr) (fun _ _ => 0)
    case atStart => exact ⟨rfl, rfl⟩
    case round =>
      obtain ⟨rfl, rfl⟩ := hrel
      go_wp2
      go_end0
      exact ⟨rfl, rfl⟩
theorem sort_nil (g : Nat) (cb : Array Value) (w : World) : Calls Try.prog 61 #[.slice none 0 0, .func (.func g) #[] cb] w fun e w' => e = .returned (.tuple #[]) ∧ w = w' := by
  go_enter Try.func61, Try.ntmps61
  go_wp2_with (go_at_call 79; (with_reducible refine (stable_nil _ _ _).mono ?_); rintro e w1 ⟨rfl, rfl⟩)
  go_end0
  exact ⟨rfl, rfl⟩
def SortV (B : Nat) (w : World) (v : Value) (n : Nat) (xs : List P2) (e : Ending) (w' : World) : Prop :=
  e = .returned (.tuple #[]) ∧ w'.ownsRow B 61 2 v n (xs.flatMap enc2) ∧ w.grownBy w' v.ownBlock
theorem sort_all (B n c : Nat) (a : Option Addr) (xs : List P2) (w : World) (hn : n ≤ 40) (hO : w.ownsRow B 61 2 (.slice a n c) n (xs.flatMap enc2)) :
    Calls Try.prog 61 #[.slice a n c, .func (.func 62) #[] #[]] w (SortV B w (.slice a n c) n (isortL (ltOf pcmp) xs)) := by
  have hlen : xs.length = n := (ownsP_rd hO).length
  rcases hO.2 with ⟨hv, h0⟩ | ⟨g, cap, cur, hv, hB, hg, hn', hc, hs, ht⟩
  · simp at hv
    obtain ⟨rfl, rfl, rfl⟩ := hv
    obtain rfl : xs = [] := List.length_eq_zero_iff.1 hlen
    refine (sort_nil _ _ w).mono ?_
    rintro e w' ⟨rfl, rfl⟩
    exact ⟨rfl, hO, World.grownBy.refl _ _⟩
  · simp at hv
    obtain ⟨rfl, rfl⟩ := hv
    exact sortStable40 pswo _ _ B g n c xs w hn hO (mcmp_on g xs w)
def mergeR (xs ys : List P2) : List P2 × Int := if xs.any farB || ys.any farB then ([], 1) else if 40 < xs.length + ys.length then ([], 2) else (isortL (ltOf pcmp) (xs ++ ys), 0)
theorem check_two (a b : Option Addr) (n m c d : Nat) (w : World) (xs ys : List P2) (hR : Rd w a n 2 (xs.map enc2)) (hS : Rd w b m 2 (ys.map enc2)) :
    Calls Try.prog 52 #[.slice (some ⟨w.heap.size, 0, none⟩) 2 2] (w.alloc (.cells #[.slice a n c, .slice b m d] 34)) fun e w' => e = .returned (.int .i64 (checkE [xs, ys])) ∧ Below w.heap.size w w' := by
  have hbW : Below w.heap.size w (w.alloc (.cells #[.slice a n c, .slice b m d] 34)) := by (repeat' (first | (with_reducible exact Below.refl _ _) | (with_reducible assumption) | (with_reducible refine Below.alloc ?_ ?_ _) | (with_reducible refine Below.drew ?_) | (with_reducible refine Below.draws ?_ _) | (with_reducible refine Below.setCell ?_ ?_ _) | (refine Below.then ?_ (by with_reducible assumption)) | go_size))
  refine (check_any (some ⟨w.heap.size, 0, none⟩) 2 2 (w.alloc (.cells #[.slice a n c, .slice b m d] 34)) [⟨a, n, c, xs, hR.ext hbW⟩, ⟨b, m, d, ys, hS.ext hbW⟩] ⟨rfl, by omega, fun _ => ⟨w.heap.size, 0, rfl, by simp, fun i hi j hj => ?_⟩⟩).mono ?_
  · have hi2 : i = 0 ∨ i = 1 := by simp at hi; omega
    obtain rfl : j = 0 := by omega
    rcases hi2 with rfl | rfl
    · simp [Hd.val]
    · simp [Hd.val]
  · rintro e w' ⟨rfl, hb⟩
    exact ⟨rfl, Below.then hbW hb⟩
theorem two_heads (w : World) (s t : ISl) : Rd (w.alloc (.cells #[valS s, valS t] 34)) (some ⟨w.heap.size, 0, none⟩) 2 1 ([s, t].map fun s => [valS s]) := by
  refine ⟨rfl, by omega, fun _ => ⟨w.heap.size, 0, rfl, by simp, fun i hi j hj => ?_⟩⟩
  have hi2 : i = 0 ∨ i = 1 := by simp at hi; omega
  obtain rfl : j = 0 := by omega
  rcases hi2 with rfl | rfl <;> simp
theorem two_ok {w : World} {a b : Option Addr} {n m c d : Nat} {xs ys : List P2} (h1 : Rd w a n 2 (xs.map enc2)) (h2 : Rd w b m 2 (ys.map enc2)) (h3 : n = 0 → (a = none ∧ c = 0) ∨ ∃ ad, a = some ad) (h4 : m = 0 → (b = none ∧ d = 0) ∨ ∃ ad, b = some ad) : ∀ s ∈ [(⟨a, n, c, xs⟩ : ISl), ⟨b, m, d, ys⟩], s.ok w := by
  intro s hs
  rcases List.mem_cons.1 hs with rfl | hs
  · exact ⟨h1, h3⟩
  · rcases List.mem_cons.1 hs with rfl | hs
    · exact ⟨h2, h4⟩
    · simp at hs
def CatP (w : World) (N : Nat) (zs : List P2) (e : Ending) (w' : World) : Prop :=
  ∃ a' c', e = .returned (.slice a' N c') ∧ w'.ownsRow w.heap.size 61 2 (.slice a' N c') N (zs.flatMap enc2) ∧ Below w.heap.size w w'
theorem concat_two {a b : Option Addr} {n m c d N : Nat} {xs ys : List P2} {w : World} (hR : Rd w a n 2 (xs.map enc2)) (hS : Rd w b m 2 (ys.map enc2)) (ha : n = 0 → (a = none ∧ c = 0) ∨ ∃ ad, a = some ad) (hb : m = 0 → (b = none ∧ d = 0) ∨ ∃ ad, b = some ad) (hN : n + m = N) (h1 : N ≤ 1000) :
    Calls Try.prog 60 #[.slice (some ⟨w.heap.size, 0, none⟩) 2 2] (w.alloc (.cells #[.slice a n c, .slice b m d] 34)) (CatP w N (xs ++ ys)) := by
  have hbW : Below w.heap.size w (w.alloc (.cells #[.slice a n c, .slice b m d] 34)) := by (repeat' (first | (with_reducible exact Below.refl _ _) | (with_reducible assumption) | (with_reducible refine Below.alloc ?_ ?_ _) | (with_reducible refine Below.drew ?_) | (with_reducible refine Below.draws ?_ _) | (with_reducible refine Below.setCell ?_ ?_ _) | (refine Below.then ?_ (by with_reducible assumption)) | go_size))
  have hz : sizeS [⟨a, n, c, xs⟩, ⟨b, m, d, ys⟩] = N := by simp only [sizeS]; omega
  have := concat_any (some ⟨w.heap.size, 0, none⟩) 2 2 [⟨a, n, c, xs⟩, ⟨b, m, d, ys⟩] _ (two_heads w ⟨a, n, c, xs⟩ ⟨b, m, d, ys⟩) (two_ok (hR.ext hbW) (hS.ext hbW) ha hb) (by rw [hz]; exact h1)
  rw [hz] at this
  refine this.mono ?_
  rintro e w' ⟨a', c', rfl, ho, hb'⟩
  refine ⟨a', c', rfl, ?_, hbW.trans (hb'.mono hbW.size)⟩
  have h2 := owns_mono ho hbW.size
  simp only [catS, List.append_nil] at h2
  exact h2
set_option maxHeartbeats 2000000 in
theorem merge_any (a b : Option Addr) (n m c d : Nat) (xs ys : List P2) (w : World) (hR : Rd w a n 2 (xs.map enc2)) (hS : Rd w b m 2 (ys.map enc2)) (ha : n = 0 → (a = none ∧ c = 0) ∨ ∃ ad, a = some ad) (hb : m = 0 → (b = none ∧ d = 0) ∨ ∃ ad, b = some ad) :
    Calls Try.prog 46 #[.slice a n c, .slice b m d] w (OutP w.heap.size w (mergeR xs ys).1 (mergeR xs ys).2) := by
  have HLx := Lib.hid hR.length; have HLy := Lib.hid hS.length
  have HR := Lib.hid hR; have HS := Lib.hid hS; have HA := Lib.hid ha; have HB := Lib.hid hb
  obtain ⟨E, hE⟩ : ∃ E, checkE [xs, ys] = E := ⟨_, rfl⟩
  have HE := Lib.hid hE
  clear hR hS ha hb
  by_cases h0 : E = 0
  · subst h0
    have hc : (xs.any farB || ys.any farB) = false ∧ xs.length ≤ 40 ∧ ys.length ≤ 40 := by
      unfold checkE at hE
      simp only [List.any_cons, List.any_nil, Bool.or_false] at hE
      split at hE
      · omega
      · split at hE
        · omega
        · rename_i h1 h2
          refine ⟨by simpa using h1, ?_⟩
          simp at h2; omega
    obtain ⟨q1, q2, q3⟩ := hc
    rw [HLx.out] at q2
    rw [HLy.out] at q3
    have HMR : Hid (mergeR xs ys = if 40 < n + m then ([], 2) else (isortL (ltOf pcmp) (xs ++ ys), 0)) := Lib.hid (by unfold mergeR; rw [q1, HLx.out, HLy.out]; rfl)
    rw [HMR.out]
    clear hE q1
    obtain ⟨N, hN⟩ : ∃ N, n + m = N := ⟨_, rfl⟩
    have hN1 : N ≤ 1000 := by omega
    rw [hN]
    by_cases h40 : 40 < N
    · have k1 : (40 : Int) < (N : Int) := by omega
      rw [if_pos h40]
      go_enter Try.func46, Try.ntmps46
      go_wp2_with (first
        | (go_at_call 52; (with_reducible refine (check_two _ _ _ _ _ _ _ _ _ HR.out HS.out).mono ?_); rw [HE.out]; rintro e w1 ⟨rfl, hb1⟩; have B1 := Lib.hid hb1; clear hb1)
        | (go_at_call 60; (with_reducible refine (concat_two (HR.out.ext B1.out) (HS.out.ext B1.out) HA.out HB.out hN hN1).mono ?_); rintro e w2 ⟨a2, c2, rfl, ho2, hb2⟩; have HO2 := Lib.hid ho2; have B2 := Lib.hid hb2; clear ho2 hb2))
      go_ret2
      exact ⟨none, 0, 0, rfl, World.ownsRow_nil _ _ _ _, Below.then B1.out B2.out⟩
    · have k1 : ¬ (40 : Int) < (N : Int) := by omega
      rw [if_neg h40]
      go_enter Try.func46, Try.ntmps46
      go_wp2_with (first
        | (go_at_call 52; (with_reducible refine (check_two _ _ _ _ _ _ _ _ _ HR.out HS.out).mono ?_); rw [HE.out]; rintro e w1 ⟨rfl, hb1⟩; have B1 := Lib.hid hb1; clear hb1)
        | (go_at_call 60; (with_reducible refine (concat_two (HR.out.ext B1.out) (HS.out.ext B1.out) HA.out HB.out hN hN1).mono ?_); rintro e w2 ⟨a2, c2, rfl, ho2, hb2⟩; have HO2 := Lib.hid ho2; have B2 := Lib.hid hb2; clear ho2 hb2)
        | (go_at_call 61; refine (sort_all _ _ _ _ (xs ++ ys) _ (by omega) HO2.out).mono ?_; rintro e w3 ⟨rfl, ho3, hg3⟩; have HO3 := Lib.hid ho3; have HG3 := Lib.hid hg3; clear ho3 hg3))
      go_ret2
      have hb12 : Below w.heap.size w w2 := Below.then B1.out B2.out
      exact ⟨_, _, _, rfl, owns_mono HO3.out B1.out.size, hb12.trans (grown_below (owns_mono HO2.out B1.out.size) HG3.out hb12.size)⟩
  · have h0' : (E != 0) = true := by simpa using h0
    have HMR : Hid (mergeR xs ys = ([], E)) := Lib.hid (by
      unfold checkE at hE
      simp only [List.any_cons, List.any_nil, Bool.or_false] at hE
      unfold mergeR
      split at hE
      · rename_i h1; rw [if_pos h1, hE]
      · rename_i h1
        split at hE
        · rename_i h2
          rw [if_neg h1, if_pos (by simp at h2; omega), hE]
        · omega)
    rw [HMR.out]
    clear hE
    go_enter Try.func46, Try.ntmps46
    go_wp2_with (go_at_call 52; (with_reducible refine (check_two _ _ _ _ _ _ _ _ _ HR.out HS.out).mono ?_); rw [HE.out]; rintro e w1 ⟨rfl, hb1⟩)
    go_ret2
    exact ⟨none, 0, 0, rfl, World.ownsRow_nil _ _ _ _, hb1⟩
end Go.Proofs.Ytfiggbeaomkepaa.StP
