/- Contracts of the methods of a wheel. The conditions: the wheel reads as the one of a table; numbers in range. -/
import Derived.Test.YtgldgomjlcojaaaBsTurn
namespace Go.Proofs.Ytgldgomjlcojaaa
open Go.RowKit
set_option linter.unusedSimpArgs false
set_option linter.unusedVariables false
/-- a wheel reads as that of a table -/
structure RdW (w : World) (h : Nat → Hdr) (T : List Int) : Prop where
  row : ∀ i, i < 5 → Rd w (h i).a (h i).n 1 ((rowOf T i).map enc1)
theorem IRows.rdW {B : Nat} {w : World} {h T} (hR : IRows B w 5 h (rowOf T)) : RdW w h T := ⟨fun i hi => ownsI_rd (hR.own i hi)⟩
theorem RdW.ext {w w' : World} {h T} (hR : RdW w h T) (hb : Below w.heap.size w w') : RdW w' h T := ⟨fun i hi => (hR.row i hi).ext hb⟩
theorem RdW.len {w : World} {h T} (hR : RdW w h T) : (h 0).n = T.length := ((hR.row 0 (by omega)).length).symm
theorem RdW.cnt {w : World} {h T} (hR : RdW w h T) {m : Nat} (hm : m < 4) : (h (m + 1)).n = cnt T m := by
  rw [← (hR.row (m + 1) (by omega)).length]; unfold rowOf posI; rw [List.length_map, posN_len]
theorem cnt_le (T : List Int) (m : Int) : cnt T m ≤ T.length := by
  have := (cF_add (t := T) (m := m) 0 T.length).2; rw [Nat.zero_add] at this; unfold cnt; simp only [cF] at this; omega
theorem posI_sorted (T : List Int) (m : Int) : (posI T m).Pairwise (· ≤ ·) := by
  unfold posI posN
  rw [List.pairwise_map]
  exact (List.Pairwise.filter _ (List.pairwise_lt_range)).imp (fun h => by omega)
theorem cntLt_pos (T : List Int) (m : Int) (r : Nat) (hr : r ≤ T.length) : cntLt (posI T m) r = cF T m r := by
  have hs := posI_sorted T m
  have hle := cntLt_le (posI T m) r
  have hlen : (posI T m).length = cnt T m := by unfold posI; rw [List.length_map, posN_len]
  have hcf : cF T m r ≤ cnt T m := cF_mono hr
  have key : ∀ k, k < cnt T m → (k < cF T m r ↔ k < cntLt (posI T m) r) := fun k hk => by
    obtain ⟨x, hx⟩ : ∃ x, (posN T m)[k]? = some x := ⟨_, List.getElem?_eq_getElem (by rw [posN_len]; exact hk)⟩
    have h1 : (posI T m)[k]? = some ((x : Nat) : Int) := by unfold posI; rw [List.getElem?_map, hx]; rfl
    rw [← posN_lt hx, ← cntLt_iff hs h1]
    omega
  by_cases h1 : cF T m r < cntLt (posI T m) r
  · have := (key (cF T m r) (by omega)).2 h1; omega
  · by_cases h2 : cntLt (posI T m) r < cF T m r
    · have := (key (cntLt (posI T m) r) (by omega)).1 h2; omega
    · omega
theorem period5 (a0 a1 a2 a3 a4 : Option Addr) (n0 n1 n2 n3 n4 c0 c1 c2 c3 c4 : Nat) (w : World) : Calls Try.prog 55 #[.agg #[.slice a0 n0 c0, .slice a1 n1 c1, .slice a2 n2 c2, .slice a3 n3 c3, .slice a4 n4 c4]] w fun e w' => e = .returned (.int .i64 n0) ∧ Below w.heap.size w w' := by
  go_enter Try.func55, Try.ntmps55
  go_wp2
  go_ret
  exact ⟨rfl, by (repeat' (first | (with_reducible exact Below.refl _ _) | (with_reducible assumption) | (with_reducible refine Below.alloc ?_ ?_ _) | (with_reducible refine Below.drew ?_) | (with_reducible refine Below.draws ?_ _) | (with_reducible refine Below.setCell ?_ ?_ _) | (refine Below.then ?_ (by with_reducible assumption)) | go_size))⟩
theorem period_any (h : Nat → Hdr) (w : World) : Calls Try.prog 55 #[whV h] w fun e w' => e = .returned (.int .i64 (h 0).n) ∧ Below w.heap.size w w' := by
  go_enter Try.func55, Try.ntmps55
  go_wp2
  go_ret
  exact ⟨rfl, by (repeat' (first | (with_reducible exact Below.refl _ _) | (with_reducible assumption) | (with_reducible refine Below.alloc ?_ ?_ _) | (with_reducible refine Below.drew ?_) | (with_reducible refine Below.draws ?_ _) | (with_reducible refine Below.setCell ?_ ?_ _) | (refine Below.then ?_ (by with_reducible assumption)) | go_size))⟩
set_option maxHeartbeats 2000000 in
theorem before_any (h : Nat → Hdr) (T : List Int) (m mo : Nat) (hm : m < 4) (hmo : mo ≤ 100000000) (w : World) (hR : RdW w h T) (hT : 0 < T.length) (hT4 : T.length ≤ 400) :
    Calls Try.prog 58 #[whV h, .int .i64 m, .int .i64 mo] w fun e w' => e = .returned (.int .i64 (cF T m mo)) ∧ Below w.heap.size w w' := by
  have hn0 := hR.len
  have hcn := hR.cnt hm
  have hcl := cnt_le T m
  obtain ⟨q, hq⟩ : ∃ q, mo / T.length = q := ⟨_, rfl⟩
  obtain ⟨r, hr⟩ : ∃ r, mo % T.length = r := ⟨_, rfl⟩
  have e1 : (mo : Int) / ((h 0).n : Int) = (q : Int) := by rw [hn0, Int.div_nat, hq]
  have e2 : (mo : Int) % ((h 0).n : Int) = (r : Int) := by rw [hn0, Int.mod_nat, hr]
  have hrn : r < T.length := hr ▸ Nat.mod_lt _ hT
  have hqk : q ≤ mo := hq ▸ Nat.div_le_self _ _
  have hdv := cF_div (t := T) (m := m) mo
  rw [hq, hr] at hdv
  obtain ⟨p, hp⟩ : ∃ p, q * cnt T m = p := ⟨_, rfl⟩
  rw [hp] at hdv
  have e3 : (q : Int) * ((h (m + 1)).n : Int) = (p : Int) := by rw [hcn, ← hp]; simp
  have hp4 : p ≤ 40000000000 := by rw [← hp]; have := Nat.mul_le_mul (show q ≤ 100000000 by omega) (show cnt T m ≤ 400 by omega); omega
  have hbs := bsearch_any (h (m + 1)).a (h (m + 1)).n (h (m + 1)).c (posI T m) r
  rw [cntLt_pos T m r (by omega)] at hbs
  have hcr : cF T m r ≤ 400 := by have := cF_mono (t := T) (m := m) (show r ≤ T.length by omega); have := cnt_le T m; unfold cnt at this; omega
  have HBS : Hid (∀ w', Below w.heap.size w w' → Calls Try.prog 65 #[.slice (h (m + 1)).a (h (m + 1)).n (h (m + 1)).c, .int .i64 r] w' (BsP (cF T m r) w')) := Lib.hid (fun w' hb => hbs w' (by omega) (posI_sorted T m) ((hR.row (m + 1) (by omega)).ext hb))
  have HDV : Hid ((p : Int) + (cF T m r : Int) = (cF T m mo : Int)) := Lib.hid (by omega)
  have i1 : (0 : Int) < ((h 0).n : Int) := by omega
  have i2 : 0 < (h 0).n := by omega
  clear hn0 hcn hbs hdv hq hr hp hcl hR
  generalize cF T m r = C at *
  have hm' : m = 0 ∨ m = 1 ∨ m = 2 ∨ m = 3 := by omega
  rcases hm' with rfl | rfl | rfl | rfl
  all_goals
    go_enter Try.func58, Try.ntmps58
    go_wp2_with (first
      | (go_at_call 55; refine (period_any h _).mono ?_; rintro e w1 ⟨rfl, hb1⟩; obtain ⟨hc1, hf1, hz1, hr1⟩ := bfacts hb1; (try simp only [World.size_alloc, World.size_setCell, World.size_drew, World.size_drewN] at hz1 hr1); (try have hw0 : w.heap.size < w1.heap.size := by omega); (try have hw1 : w.heap.size + 1 < w1.heap.size := by omega); (try have hw2 : w.heap.size + 1 + 1 < w1.heap.size := by omega))
      | (go_at_call 65; (with_reducible refine (HBS.out _ (by (repeat' (first | (with_reducible exact Below.refl _ _) | (with_reducible assumption) | (with_reducible refine Below.alloc ?_ ?_ _) | (with_reducible refine Below.drew ?_) | (with_reducible refine Below.draws ?_ _) | (with_reducible refine Below.setCell ?_ ?_ _) | (refine Below.then ?_ (by with_reducible assumption)) | go_size)))).mono ?_); rintro e w2 ⟨bb, rfl, rfl⟩))
    go_ret
    exact ⟨ret_int HDV.out, by (repeat' (first | (with_reducible exact Below.refl _ _) | (with_reducible assumption) | (with_reducible refine Below.alloc ?_ ?_ _) | (with_reducible refine Below.drew ?_) | (with_reducible refine Below.draws ?_ _) | (with_reducible refine Below.setCell ?_ ?_ _) | (refine Below.then ?_ (by with_reducible assumption)) | go_size))⟩
set_option maxHeartbeats 2000000 in
theorem end_any (h : Nat → Hdr) (T : List Int) (m mo k : Nat) (hm : m < 4) (hmo : mo ≤ 10000000) (hk1 : 1 ≤ k) (hk : k ≤ 1000) (w : World) (hR : RdW w h T) (hc : 0 < cnt T m) (hT4 : T.length ≤ 400) :
    Calls Try.prog 46 #[whV h, .int .i64 m, .int .i64 mo, .int .i64 k] w fun e w' => e = .returned (.int .i64 (endN T m mo k)) ∧ Below w.heap.size w w' := by
  have hn0 := hR.len
  have hcn := hR.cnt hm
  have hcl := cnt_le T m
  have hCb := (cF_add (t := T) (m := m) 0 mo).2
  rw [Nat.zero_add] at hCb
  simp only [cF] at hCb
  obtain ⟨L, hL⟩ : ∃ L, cF T m mo + k - 1 = L := ⟨_, rfl⟩
  have eL : (cF T m mo : Int) + (k : Int) - 1 = (L : Int) := by omega
  have hLb : L ≤ 10001000 := by omega
  obtain ⟨q, hq⟩ : ∃ q, L / cnt T m = q := ⟨_, rfl⟩
  obtain ⟨r, hr⟩ : ∃ r, L % cnt T m = r := ⟨_, rfl⟩
  have e1 : (L : Int) / ((h (m + 1)).n : Int) = (q : Int) := by rw [hcn, Int.div_nat, hq]
  have e2 : (L : Int) % ((h (m + 1)).n : Int) = (r : Int) := by rw [hcn, Int.mod_nat, hr]
  have hrn : r < cnt T m := hr ▸ Nat.mod_lt _ hc
  have hqk : q ≤ L := hq ▸ Nat.div_le_self _ _
  obtain ⟨p, hp⟩ : ∃ p, q * T.length = p := ⟨_, rfl⟩
  have e3 : (q : Int) * ((h 0).n : Int) = (p : Int) := by rw [hn0, ← hp]; simp
  have hp4 : p ≤ 40000000000 := by rw [← hp]; have := Nat.mul_le_mul (show q ≤ 100000000 by omega) hT4; omega
  obtain ⟨xi, b, off, hax, hb, hcx, hx⟩ := (hR.row (m + 1) (by omega)).idx r (by omega)
  obtain ⟨x, hxx⟩ : ∃ x, (posN T m)[r]? = some x := ⟨_, List.getElem?_eq_getElem (by rw [posN_len]; exact hrn)⟩
  have hxi : xi = (x : Int) := by
    have : (posI T m)[r]? = some (x : Int) := by unfold posI; rw [List.getElem?_map, hxx]; rfl
    have h2 : (posI T m)[r]? = some xi := hx
    rw [this] at h2; simpa using h2.symm
  subst hxi
  have hxl := (posN_get hxx).1
  have HE : Hid ((p : Int) + (x : Int) + 1 = (endN T m mo k : Int)) := Lib.hid (by
    rw [endN, hL, hq, hr, hxx, hp]; simp)
  have hrn2 : r < (h (m + 1)).n := by omega
  have i1 : (0 : Int) < ((h (m + 1)).n : Int) := by omega
  have i3 : 0 < T.length := by omega
  have HR := Lib.hid hR
  clear hn0 hcn hq hr hp hcl hL hc hrn hxx hx hR
  have HBE : Hid (∀ (M : Int) w', M = (m : Int) → Below w.heap.size w w' → Calls Try.prog 58 #[whV h, .int .i64 M, .int .i64 mo] w' fun e w'' => e = .returned (.int .i64 (cF T m mo)) ∧ Below w'.heap.size w' w'') := Lib.hid (by intro M w' hM hb; subst hM; exact before_any h T m mo hm (by omega) w' (HR.out.ext hb) i3 hT4)
  generalize cF T m mo = C at *
  have hm' : m = 0 ∨ m = 1 ∨ m = 2 ∨ m = 3 := by omega
  rcases hm' with rfl | rfl | rfl | rfl
  all_goals
    simp only [Nat.reduceAdd] at e1 e2 hax hrn2 i1
    simp only [whV, sl, hax] at HBE ⊢
    clear hax
    go_enter Try.func46, Try.ntmps46
    go_wp2_with (first
      | (go_at_call 58; (with_reducible refine (HBE.out _ _ (by simp) (by (repeat' (first | (with_reducible exact Below.refl _ _) | (with_reducible assumption) | (with_reducible refine Below.alloc ?_ ?_ _) | (with_reducible refine Below.drew ?_) | (with_reducible refine Below.draws ?_ _) | (with_reducible refine Below.setCell ?_ ?_ _) | (refine Below.then ?_ (by with_reducible assumption)) | go_size)))).mono ?_); rintro e w2 ⟨rfl, hb2⟩; obtain ⟨hc2, hf2, hz2, hr2⟩ := bfacts hb2; (try simp only [World.size_alloc, World.size_setCell, World.size_drew, World.size_drewN] at hz2 hr2); (try have hs2_w_0 : w.heap.size < w2.heap.size := by omega); (have hb3 : b < w2.heap.size := by omega); (have hb4 : b < w.heap.size + 1 := by omega))
      | (refine wp_region_later_lit (by kernel_rfl) (by kernel_rfl) ?_; (repeat (go_big_quiet_step ((go_at_call 55; exact later_of (period5 _ _ _ _ _ _ _ _ _ _ _ _ _ _ _ _))))); refine wpQuiet_nil ?_; intro w1 hb1; obtain ⟨hc1, hf1, hz1, hr1⟩ := bfacts hb1; (try simp only [World.size_alloc, World.size_setCell, World.size_drew, World.size_drewN] at hz1 hr1); (try have hw0 : w.heap.size < w1.heap.size := by omega); (try have hw1 : w.heap.size + 1 < w1.heap.size := by omega); (try have hw2 : w.heap.size + 1 + 1 < w1.heap.size := by omega)))
    go_ret
    exact ⟨ret_int HE.out, by (repeat' (first | (with_reducible exact Below.refl _ _) | (with_reducible assumption) | (with_reducible refine Below.alloc ?_ ?_ _) | (with_reducible refine Below.drew ?_) | (with_reducible refine Below.draws ?_ _) | (with_reducible refine Below.setCell ?_ ?_ _) | (refine Below.then ?_ (by with_reducible assumption)) | go_size))⟩
end Go.Proofs.Ytgldgomjlcojaaa
