/- Contracts of arrive.check and of its reference's listed. The conditions: the lists read as the lists named. Contracts of Allowed, of its reference, of pairs and of own. The conditions: the lists read as the lists named. The contracts of Allowed of both sides. The conditions: the run reads as named. -/
import Derived.Test.YtmahagcghpoekaaGreatMg14
import Derived.Test.YtmahagcghpoekaaGreatMg8
import Derived.Laws.EntriesVeiled
import Derived.Test.YtmahagcghpoekaaGreatMg12
import Derived.Test.YtmahagcghpoekaaGreatMg11
import Derived.Test.YtmahagcghpoekaaGreatMg7
namespace Go.Proofs.YtmahagcghpoekaaGreat
open Go.RowKit
set_option linter.unusedSimpArgs false
set_option linter.unusedVariables false
/-- a list that lies in w -/
structure Hd (w : World) where
  a : Option Addr
  n : Nat
  c : Nat
  xs : List P2
  rd : Rd w a n 2 (xs.map enc2)
def Hd.val {w : World} (h : Hd w) : Value := .slice h.a h.n h.c
def farB (x : P2) : Bool := !inB x.1 0 1000000 || !inB x.2 0 1000000
theorem far_any (x : P2) (w : World) : Calls Tryz.prog 78 #[val2 x] w fun e w' => e = .returned (.bool (farB x)) ∧ Below w.heap.size w w' := by
  obtain ⟨x1, x2⟩ := x
  go_enter Tryz.func78, Tryz.ntmps78
  go_wp2_with (go_at_call 77; refine (within_any _ _ _ _).mono ?_; rintro e w1 ⟨rfl, rfl⟩)
  all_goals (go_ret; exact ⟨ret_bool (by simp [farB, *]), by (repeat' (first | (with_reducible exact Below.refl _ _) | (with_reducible assumption) | (with_reducible refine Below.alloc ?_ ?_ _) | (with_reducible refine Below.drew ?_) | (with_reducible refine Below.draws ?_ _) | (with_reducible refine Below.setCell ?_ ?_ _) | (refine Below.then ?_ (by with_reducible assumption)) | go_size))⟩)
theorem far_pred (w : World) : PredOn 78 #[] val2 farB w :=
  ⟨fun args w => by kernel_rfl, fun x w' _ => far_any x w'⟩
theorem long_any {w : World} (h : Hd w) (w' : World) : Calls Tryz.prog 79 #[h.val] w' fun e w'' => e = .returned (.bool (decide (40 < h.xs.length))) ∧ Below w'.heap.size w' w'' := by
  obtain ⟨a, n, c, xs, rd⟩ := h
  have hl := rd.length
  have hs := rd.small
  show Calls Tryz.prog 79 #[.slice a n c] w' fun e w'' => e = .returned (.bool (decide (40 < xs.length))) ∧ Below w'.heap.size w' w''
  rw [hl]
  clear hl rd
  go_enter Tryz.func79, Tryz.ntmps79
  go_wp2
  go_ret
  exact ⟨ret_bool (by rw [decide_eq_decide]; omega), Below.refl _ _⟩
theorem long_pred (w : World) : PredOn 79 #[] (Hd.val (w := w)) (fun h => decide (40 < h.xs.length)) w :=
  ⟨fun args w => by kernel_rfl, fun x w' _ => long_any x w'⟩
theorem farList_any {w : World} (h : Hd w) (w' : World) (hb : Below w.heap.size w w') (p : Nat) (hp : p < w.heap.size) (hc : w.cell? ⟨p, 0, none⟩ = some (.func (.func 78) #[] #[])) :
    Calls Tryz.prog 80 #[h.val, .pointer (some ⟨p, 0, none⟩)] w' fun e w'' => e = .returned (.bool (h.xs.any farB)) ∧ Below w'.heap.size w' w'' := by
  obtain ⟨a, n, c, xs, rd⟩ := h
  have hc' := (hb.cell (p := ⟨p, 0, none⟩) hp).trans hc
  have RD := Lib.hid (rd.ext hb)
  show Calls Tryz.prog 80 #[.slice a n c, .pointer (some ⟨p, 0, none⟩)] w' fun e w'' => e = .returned (.bool (xs.any farB)) ∧ Below w'.heap.size w' w''
  clear rd hb hc
  go_enter Tryz.func80, Tryz.ntmps80
  go_wp2_with (go_at_call 53; refine (containsFunc2 _ _ _ _ _ _ _ _ RD.out (far_pred _)).mono ?_; rintro e w1 ⟨rfl, hb1⟩)
  go_ret
  exact ⟨rfl, hb1⟩
theorem farList_pred (w : World) (p : Nat) (hp : p < w.heap.size) (hc : w.cell? ⟨p, 0, none⟩ = some (.func (.func 78) #[] #[])) : PredOn 80 #[.pointer (some ⟨p, 0, none⟩)] (Hd.val (w := w)) (fun h => h.xs.any farB) w :=
  ⟨fun args w => by kernel_rfl, fun x w' hb => farList_any x w' hb p hp hc⟩
def Hd.ext {w w' : World} (h : Hd w) (hb : Below w.heap.size w w') : Hd w' := ⟨h.a, h.n, h.c, h.xs, h.rd.ext hb⟩
/-- the error of lists -/
def checkE (ls : List (List P2)) : Int := if ls.any (fun l => l.any farB) then 1 else if ls.any (fun l => decide (40 < l.length)) then 2 else 0
theorem Hd.map_ext {w w' : World} (hb : Below w.heap.size w w') (hs : List (Hd w)) {a : Option Addr} {n : Nat} (h : Rd w a n 1 (hs.map fun h => [h.val])) : Rd w' a n 1 ((hs.map (·.ext hb)).map fun h => [h.val]) := by
  have e : (hs.map (·.ext hb)).map (fun h => [h.val]) = hs.map fun h => [h.val] := by rw [List.map_map]; rfl
  rw [e]; exact h.ext hb
theorem check_any (a : Option Addr) (n c : Nat) (w : World) (hs : List (Hd w)) (hR : Rd w a n 1 (hs.map fun h => [h.val])) :
    Calls Tryz.prog 55 #[.slice a n c] w fun e w' => e = .returned (.int .i64 (checkE (hs.map Hd.xs))) ∧ Below w.heap.size w w' := by
  obtain ⟨W, hW⟩ : ∃ W, W = w.alloc (.cells #[.func (.func 78) #[] #[]] 82) := ⟨_, rfl⟩
  have hbW : Below w.heap.size w W := by rw [hW]; (repeat' (first | (with_reducible exact Below.refl _ _) | (with_reducible assumption) | (with_reducible refine Below.alloc ?_ ?_ _) | (with_reducible refine Below.drew ?_) | (with_reducible refine Below.draws ?_ _) | (with_reducible refine Below.setCell ?_ ?_ _) | (refine Below.then ?_ (by with_reducible assumption)) | go_size))
  have hcW : W.cell? ⟨w.heap.size, 0, none⟩ = some (.func (.func 78) #[] #[]) := by rw [hW]; simp [go_sem]
  have hsW : w.heap.size < W.heap.size := by rw [hW]; simp
  have c1 := containsFuncS 80 #[.pointer (some ⟨w.heap.size, 0, none⟩)] Hd.val (fun h => h.xs.any farB) a n c (hs.map (·.ext hbW)) W (Hd.map_ext hbW hs hR) (farList_pred W w.heap.size hsW hcW)
  have c2 : ∀ w1, Below w.heap.size w w1 → Calls Tryz.prog 49 #[.slice a n c, .func (.func 79) #[] #[]] w1 fun e w' => e = .returned (.bool ((hs.map Hd.xs).any fun l => decide (40 < l.length))) ∧ Below w1.heap.size w1 w' := fun w1 hb => by
    have := containsFuncS 79 #[] Hd.val (fun h => decide (40 < h.xs.length)) a n c (hs.map (·.ext hb)) w1 (Hd.map_ext hb hs hR) (long_pred w1)
    rw [List.any_map] at this ⊢
    exact this
  have e1 : (hs.map (·.ext hbW)).any (fun h => h.xs.any farB) = (hs.map Hd.xs).any fun l => l.any farB := by rw [List.any_map, List.any_map]; rfl
  rw [e1] at c1
  unfold checkE
  generalize (hs.map Hd.xs).any (fun l => l.any farB) = b1 at *
  generalize (hs.map Hd.xs).any (fun l => decide (40 < l.length)) = b2 at *
  subst hW
  have C1 := Lib.hid c1; have C2 := Lib.hid c2; clear c1 c2 e1 hcW hR
  have HBW := Lib.hid hbW; clear hbW
  cases b1 <;> cases b2
  all_goals
    go_enter Tryz.func55, Tryz.ntmps55
    go_wp2_with (first | (go_at_call 49; (with_reducible refine C1.out.mono ?_); rintro e w1 ⟨rfl, hb1⟩; have HB1 := Lib.hid (HBW.out.trans (hb1.mono (Nat.le_of_lt hsW))); clear hb1) | (go_at_call 49; refine (C2.out _ HB1.out).mono ?_; rintro e w2 ⟨rfl, hb2⟩))
    go_ret
    first | exact ⟨rfl, HB1.out⟩ | exact ⟨rfl, Below.then HB1.out hb2⟩
def listE (l : List P2) : Int := if l.any farB then 1 else if 40 < l.length then 2 else 0
theorem check_one (a : Option Addr) (n c : Nat) (w : World) (xs : List P2) (hR : Rd w a n 2 (xs.map enc2)) :
    Calls Tryz.prog 55 #[.slice (some ⟨w.heap.size, 0, none⟩) 1 1] (w.alloc (.cells #[.slice a n c] 27)) fun e w' => e = .returned (.int .i64 (listE xs)) ∧ Below w.heap.size w w' := by
  have hbW : Below w.heap.size w (w.alloc (.cells #[.slice a n c] 27)) := by (repeat' (first | (with_reducible exact Below.refl _ _) | (with_reducible assumption) | (with_reducible refine Below.alloc ?_ ?_ _) | (with_reducible refine Below.drew ?_) | (with_reducible refine Below.draws ?_ _) | (with_reducible refine Below.setCell ?_ ?_ _) | (refine Below.then ?_ (by with_reducible assumption)) | go_size))
  refine (check_any (some ⟨w.heap.size, 0, none⟩) 1 1 (w.alloc (.cells #[.slice a n c] 27)) [⟨a, n, c, xs, hR.ext hbW⟩] ⟨rfl, by omega, fun _ => ⟨w.heap.size, 0, rfl, by simp, fun i hi j hj => ?_⟩⟩).mono ?_
  · obtain rfl : i = 0 := by simpa using hi
    obtain rfl : j = 0 := by omega
    simp [Hd.val]
  · rintro e w' ⟨rfl, hb⟩
    refine ⟨ret_int ?_, Below.then hbW hb⟩
    show checkE [xs] = listE xs
    unfold checkE listE
    simp only [List.any_cons, List.any_nil, Bool.or_false, decide_eq_true_eq]
theorem listed_any (a : Option Addr) (n c : Nat) (w : World) (xs : List P2) (hR : Rd w a n 2 (xs.map enc2)) :
    Calls Tryz.prog 82 #[.slice a n c] w fun e w' => e = .returned (.int .i64 (listE xs)) ∧ Below w.heap.size w w' := by
  have HL := Lib.hid hR.length
  have hs := hR.small
  have HR := Lib.hid hR; clear hR
  generalize hg : xs.any farB = R
  have HG := Lib.hid hg
  generalize hq : listE xs = E
  rw [listE, hg, HL.out] at hq
  have HQ := Lib.hid hq; clear hg hq
  go_enter Tryz.func82, Tryz.ntmps82
  go_wp2
  go_loopw [3] (fun i wr => ∃ k : Nat, k ≤ n ∧ i = .int .i64 k ∧ (xs.drop k).any farB = R ∧ Below w.heap.size w wr) (fun i _ => n - (intOf i).toNat)
  case atStart => exact ⟨0, Nat.zero_le _, rfl, HG.out, Below.refl _ _⟩
  case round =>
    obtain ⟨k, hk, rfl, he, hB⟩ := hrel
    have HE := Lib.hid he; clear he
    by_cases hlt : k < n
    · obtain ⟨⟨x1, x2⟩, b, off, rfl, hb, h1, h2, HD⟩ := (HR.out.ext hB).next2 k hlt
      simp only [] at h1 h2
      have HB := Lib.hid hB; clear hB
      have HE2 : Hid ((farB (x1, x2) || (xs.drop (k + 1)).any farB) = R) := by have := HE.out; rw [HD.out] at this; exact this
      go_wp2_with (go_at_call 94; refine (in_any _ _ _ _).mono ?_; rintro e w1 ⟨rfl, rfl⟩)
      all_goals first
        | (have hr : R = true := by rw [← HE2.out]; simp [farB, *]
           have hE : E = 1 := by rw [← HQ.out, hr]; rfl
           subst hE
           go_ret
           exact ⟨rfl, HB.out⟩)
        | exact ⟨⟨k + 1, by omega, by go_num, by have := HE2.out; simpa [farB, *] using this, HB.out⟩, by simp [intOf]; omega⟩
    · have : R = false := by rw [← HE.out, drop_end HL.out (by omega)]; rfl
      subst this
      by_cases h40 : 40 < n
      all_goals
        have : E = _ := HQ.out.symm
        simp only [h40, if_true, if_false, Bool.false_eq_true] at this
        subst this
        go_wp2
        go_ret
        exact ⟨rfl, hB⟩
end Go.Proofs.YtmahagcghpoekaaGreat
namespace Go.Proofs.YtmahagcghpoekaaGreat
open Go.RowKit
set_option linter.unusedSimpArgs false
set_option linter.unusedVariables false
def allowGo (g j : Int) : Int → List P2 → Bool
  | _, [] => true
  | least, x :: xs => if x.1 < least ∨ j < x.2 then false else allowGo g j (x.1 + g) xs
def allowR (f g j : Int) (xs : List P2) : Bool × Int := if vpat f g j then (if listE xs = 0 then (allowGo g j f xs, 0) else (false, listE xs)) else (false, 1)
theorem listE_zero {xs : List P2} (h : listE xs = 0) : xs.any farB = false ∧ xs.length ≤ 40 := by
  unfold listE at h
  split at h
  · omega
  · split at h
    · omega
    · rename_i h1 h2; exact ⟨by simpa using h1, by omega⟩
theorem farB_false {x : P2} (h : farB x = false) : (0 ≤ x.1 ∧ x.1 ≤ 1000000) ∧ (0 ≤ x.2 ∧ x.2 ≤ 1000000) := by
  simp only [farB, Bool.or_eq_false_iff, Bool.not_eq_false', inB_iff] at h; exact h
theorem allowed_any (f g j : Int) (a : Option Addr) (n c : Nat) (w : World) (xs : List P2) (hR : Rd w a n 2 (xs.map enc2)) :
    Calls Tryz.prog 20 #[patV f g j, .slice a n c] w fun e w' => e = rBP (allowR f g j xs) ∧ Below w.heap.size w w' := by
  have HL := Lib.hid hR.length
  have hs := hR.small
  have HR := Lib.hid hR; clear hR
  by_cases hv : vpat f g j = true
  · rw [allowR, if_pos hv]
    by_cases he : listE xs = 0
    · rw [if_pos he]
      obtain ⟨h1, h2⟩ := listE_zero he
      obtain ⟨k1, k2, k3⟩ := vpat_iff.1 hv
      generalize hq : allowGo g j f xs = R
      have HQ := Lib.hid hq
      have HF := Lib.hid h1
      clear hq h1 h2
      go_enter Tryz.func20, Tryz.ntmps20
      go_wp2_with (first | (go_at_call 54; refine (valid_any _ _ _ _).mono ?_; rintro e w1 ⟨rfl, hb1⟩; obtain ⟨hc1, hf1, hz1, hr1⟩ := bfacts hb1; (try simp only [World.size_alloc, World.size_setCell, World.size_drew, World.size_drewN] at hz1 hr1); (try have hw0 : w.heap.size < w1.heap.size := by omega); (try have hw1 : w.heap.size + 1 < w1.heap.size := by omega); (try have hw2 : w.heap.size + 1 + 1 < w1.heap.size := by omega)) | (go_at_call 55; refine (check_one _ _ _ _ _ ((HR.out.ext (show Below w.heap.size w (w.alloc _) by (repeat' (first | (with_reducible exact Below.refl _ _) | (with_reducible assumption) | (with_reducible refine Below.alloc ?_ ?_ _) | (with_reducible refine Below.drew ?_) | (with_reducible refine Below.draws ?_ _) | (with_reducible refine Below.setCell ?_ ?_ _) | (refine Below.then ?_ (by with_reducible assumption)) | go_size)))).ext hb1)).mono ?_; rintro e w1 ⟨rfl, hb1⟩; obtain ⟨hc1, hf1, hz1, hr1⟩ := bfacts hb1; (try simp only [World.size_alloc, World.size_setCell, World.size_drew, World.size_drewN] at hz1 hr1); (try have hw0 : w.heap.size < w1.heap.size := by omega); (try have hw1 : w.heap.size + 1 < w1.heap.size := by omega); (try have hw2 : w.heap.size + 1 + 1 < w1.heap.size := by omega)))
      go_loopw [7, 23] (fun q i wr => ∃ (k : Nat) (least : Int), k ≤ n ∧ i = .int .i64 k ∧ q = .int .i64 least ∧ allowGo g j least (xs.drop k) = R ∧ (xs.drop k).any farB = false ∧ wr.cell? ⟨w.heap.size, 1, none⟩ = some (.int .i64 g) ∧ wr.cell? ⟨w.heap.size, 2, none⟩ = some (.int .i64 j) ∧ w.heap.size < wr.heap.size ∧ Below w.heap.size w wr) (fun _ i _ => n - (intOf i).toNat)
      case atStart => exact ⟨0, f, Nat.zero_le _, rfl, rfl, HQ.out, HF.out, by simp [go_sem, *], by simp [go_sem, *], by omega, by (repeat' (first | (with_reducible exact Below.refl _ _) | (with_reducible assumption) | (with_reducible refine Below.alloc ?_ ?_ _) | (with_reducible refine Below.drew ?_) | (with_reducible refine Below.draws ?_ _) | (with_reducible refine Below.setCell ?_ ?_ _) | (refine Below.then ?_ (by with_reducible assumption)) | go_size))⟩
      case round =>
        obtain ⟨k, least, hk, rfl, rfl, he, hf, hc1, hc2, hz, hB⟩ := hrel
        have HE := Lib.hid he; have HF2 := Lib.hid hf; clear he hf
        by_cases hlt : k < n
        · obtain ⟨⟨x1, x2⟩, b, off, rfl, hb, h1, h2, HD⟩ := (HR.out.ext hB).next2 k hlt
          simp only [] at h1 h2
          have HB := Lib.hid hB; clear hB
          have hf3 : farB (x1, x2) = false ∧ (xs.drop (k + 1)).any farB = false := by have := HF2.out; rw [HD.out] at this; simpa using this
          obtain ⟨⟨b1, b2⟩, b3, b4⟩ := farB_false hf3.1
          simp only [] at b1 b2 b3 b4
          have HF3 := Lib.hid hf3.2; clear hf3
          have HE2 : Hid ((if x1 < least ∨ j < x2 then false else allowGo g j (x1 + g) (xs.drop (k + 1))) = R) := by have := HE.out; rw [HD.out] at this; exact this
          by_cases ht : x1 < least ∨ j < x2
          · have hr : R = false := by rw [← HE2.out, if_pos ht]
            subst hr
            by_cases ht1 : x1 < least
            · go_wp2
              go_ret2
              exact ⟨rfl, HB.out.trans (by (repeat' (first | (with_reducible exact Below.refl _ _) | (with_reducible assumption) | (with_reducible refine Below.alloc ?_ ?_ _) | (with_reducible refine Below.drew ?_) | (with_reducible refine Below.draws ?_ _) | (with_reducible refine Below.setCell ?_ ?_ _) | (refine Below.then ?_ (by with_reducible assumption)) | go_size)))⟩
            · have ht2 : j < x2 := by omega
              go_wp2
              go_ret2
              exact ⟨rfl, HB.out.trans (by (repeat' (first | (with_reducible exact Below.refl _ _) | (with_reducible assumption) | (with_reducible refine Below.alloc ?_ ?_ _) | (with_reducible refine Below.drew ?_) | (with_reducible refine Below.draws ?_ _) | (with_reducible refine Below.setCell ?_ ?_ _) | (refine Below.then ?_ (by with_reducible assumption)) | go_size)))⟩
          · have HE3 : Hid (allowGo g j (x1 + g) (xs.drop (k + 1)) = R) := by have := HE2.out; rwa [if_neg ht] at this
            have t1 : ¬ x1 < least := fun h => ht (.inl h)
            have t2 : ¬ j < x2 := fun h => ht (.inr h)
            clear ht
            go_wp2
            go_roundw
            case rel => exact ⟨k + 1, x1 + g, by omega, by go_num, rfl, HE3.out, HF3.out, by simp [go_sem, *], by simp [go_sem, *], by simp; omega, HB.out.trans (by (repeat' (first | (with_reducible exact Below.refl _ _) | (with_reducible assumption) | (with_reducible refine Below.alloc ?_ ?_ _) | (with_reducible refine Below.drew ?_) | (with_reducible refine Below.draws ?_ _) | (with_reducible refine Below.setCell ?_ ?_ _) | (refine Below.then ?_ (by with_reducible assumption)) | go_size)))⟩
            case measure => simp [intOf]; omega
        · have hr : R = true := by rw [← HE.out, drop_end HL.out (by omega)]; rfl
          subst hr
          go_wp2
          go_ret2
          exact ⟨rfl, hB⟩
    · rw [if_neg he]
      have he' : (listE xs != 0) = true := by simpa using he
      go_enter Tryz.func20, Tryz.ntmps20
      go_wp2_with (first | (go_at_call 54; refine (valid_any _ _ _ _).mono ?_; rintro e w1 ⟨rfl, hb1⟩; obtain ⟨hc1, hf1, hz1, hr1⟩ := bfacts hb1; (try simp only [World.size_alloc, World.size_setCell, World.size_drew, World.size_drewN] at hz1 hr1); (try have hw0 : w.heap.size < w1.heap.size := by omega); (try have hw1 : w.heap.size + 1 < w1.heap.size := by omega); (try have hw2 : w.heap.size + 1 + 1 < w1.heap.size := by omega)) | (go_at_call 55; refine (check_one _ _ _ _ _ ((HR.out.ext (show Below w.heap.size w (w.alloc _) by (repeat' (first | (with_reducible exact Below.refl _ _) | (with_reducible assumption) | (with_reducible refine Below.alloc ?_ ?_ _) | (with_reducible refine Below.drew ?_) | (with_reducible refine Below.draws ?_ _) | (with_reducible refine Below.setCell ?_ ?_ _) | (refine Below.then ?_ (by with_reducible assumption)) | go_size)))).ext hb1)).mono ?_; rintro e w1 ⟨rfl, hb1⟩; obtain ⟨hc1, hf1, hz1, hr1⟩ := bfacts hb1; (try simp only [World.size_alloc, World.size_setCell, World.size_drew, World.size_drewN] at hz1 hr1); (try have hw0 : w.heap.size < w1.heap.size := by omega); (try have hw1 : w.heap.size + 1 < w1.heap.size := by omega); (try have hw2 : w.heap.size + 1 + 1 < w1.heap.size := by omega)))
      go_ret2
      exact ⟨rfl, by (repeat' (first | (with_reducible exact Below.refl _ _) | (with_reducible assumption) | (with_reducible refine Below.alloc ?_ ?_ _) | (with_reducible refine Below.drew ?_) | (with_reducible refine Below.draws ?_ _) | (with_reducible refine Below.setCell ?_ ?_ _) | (refine Below.then ?_ (by with_reducible assumption)) | go_size))⟩
  · rw [allowR, if_neg hv]
    go_enter Tryz.func20, Tryz.ntmps20
    go_wp2_with (first | (go_at_call 54; refine (valid_any _ _ _ _).mono ?_; rintro e w1 ⟨rfl, hb1⟩; obtain ⟨hc1, hf1, hz1, hr1⟩ := bfacts hb1; (try simp only [World.size_alloc, World.size_setCell, World.size_drew, World.size_drewN] at hz1 hr1); (try have hw0 : w.heap.size < w1.heap.size := by omega); (try have hw1 : w.heap.size + 1 < w1.heap.size := by omega); (try have hw2 : w.heap.size + 1 + 1 < w1.heap.size := by omega)) | (go_at_call 55; refine (check_one _ _ _ _ _ ((HR.out.ext (show Below w.heap.size w (w.alloc _) by (repeat' (first | (with_reducible exact Below.refl _ _) | (with_reducible assumption) | (with_reducible refine Below.alloc ?_ ?_ _) | (with_reducible refine Below.drew ?_) | (with_reducible refine Below.draws ?_ _) | (with_reducible refine Below.setCell ?_ ?_ _) | (refine Below.then ?_ (by with_reducible assumption)) | go_size)))).ext hb1)).mono ?_; rintro e w1 ⟨rfl, hb1⟩; obtain ⟨hc1, hf1, hz1, hr1⟩ := bfacts hb1; (try simp only [World.size_alloc, World.size_setCell, World.size_drew, World.size_drewN] at hz1 hr1); (try have hw0 : w.heap.size < w1.heap.size := by omega); (try have hw1 : w.heap.size + 1 < w1.heap.size := by omega); (try have hw2 : w.heap.size + 1 + 1 < w1.heap.size := by omega)))
    go_ret2
    exact ⟨rfl, by (repeat' (first | (with_reducible exact Below.refl _ _) | (with_reducible assumption) | (with_reducible refine Below.alloc ?_ ?_ _) | (with_reducible refine Below.drew ?_) | (with_reducible refine Below.draws ?_ _) | (with_reducible refine Below.setCell ?_ ?_ _) | (refine Below.then ?_ (by with_reducible assumption)) | go_size))⟩
theorem rallowed_any (f g j : Int) (a : Option Addr) (n c : Nat) (w : World) (xs : List P2) (hR : Rd w a n 2 (xs.map enc2)) :
    Calls Tryz.prog 58 #[patV f g j, .slice a n c] w fun e w' => e = rBP (allowR f g j xs) ∧ Below w.heap.size w w' := by
  have HL := Lib.hid hR.length
  have hs := hR.small
  have HR := Lib.hid hR; clear hR
  by_cases hv : vpat f g j = true
  · rw [allowR, if_pos hv]
    by_cases he : listE xs = 0
    · rw [if_pos he]
      obtain ⟨h1, h2⟩ := listE_zero he
      obtain ⟨k1, k2, k3⟩ := vpat_iff.1 hv
      generalize hq : allowGo g j f xs = R
      have HQ := Lib.hid hq
      have HF := Lib.hid h1
      clear hq h1 h2
      go_enter Tryz.func58, Tryz.ntmps58
      go_wp2_with (first | (go_at_call 68; refine (rvalid_any _ _ _ _).mono ?_; rintro e w1 ⟨rfl, hb1⟩; obtain ⟨hc1, hf1, hz1, hr1⟩ := bfacts hb1; (try simp only [World.size_alloc, World.size_setCell, World.size_drew, World.size_drewN] at hz1 hr1); (try have hw0 : w.heap.size < w1.heap.size := by omega); (try have hw1 : w.heap.size + 1 < w1.heap.size := by omega); (try have hw2 : w.heap.size + 1 + 1 < w1.heap.size := by omega)) | (go_at_call 82; refine (listed_any _ _ _ _ _ ((HR.out.ext (show Below w.heap.size w (w.alloc _) by (repeat' (first | (with_reducible exact Below.refl _ _) | (with_reducible assumption) | (with_reducible refine Below.alloc ?_ ?_ _) | (with_reducible refine Below.drew ?_) | (with_reducible refine Below.draws ?_ _) | (with_reducible refine Below.setCell ?_ ?_ _) | (refine Below.then ?_ (by with_reducible assumption)) | go_size)))).ext hb1)).mono ?_; rintro e w1 ⟨rfl, hb1⟩; obtain ⟨hc1, hf1, hz1, hr1⟩ := bfacts hb1; (try simp only [World.size_alloc, World.size_setCell, World.size_drew, World.size_drewN] at hz1 hr1); (try have hw0 : w.heap.size < w1.heap.size := by omega); (try have hw1 : w.heap.size + 1 < w1.heap.size := by omega); (try have hw2 : w.heap.size + 1 + 1 < w1.heap.size := by omega)))
      go_loopw [7] (fun i wr => ∃ (k : Nat) (least : Int), k ≤ n ∧ i = .int .i64 k ∧ f ≤ least ∧ (k = 0 ∧ least = f ∨ 0 < k ∧ ∃ y : P2, least = y.1 + g ∧ (0 ≤ y.1 ∧ y.1 ≤ 1000000) ∧ xs.drop (k - 1) = y :: xs.drop k) ∧ allowGo g j least (xs.drop k) = R ∧ (xs.drop k).any farB = false ∧ wr.cell? ⟨w.heap.size, 0, none⟩ = some (.int .i64 f) ∧ wr.cell? ⟨w.heap.size, 1, none⟩ = some (.int .i64 g) ∧ wr.cell? ⟨w.heap.size, 2, none⟩ = some (.int .i64 j) ∧ w.heap.size < wr.heap.size ∧ Below w.heap.size w wr) (fun i _ => n - (intOf i).toNat)
      case atStart => exact ⟨0, f, Nat.zero_le _, rfl, Int.le_refl _, .inl ⟨rfl, rfl⟩, HQ.out, HF.out, by simp [go_sem, *], by simp [go_sem, *], by simp [go_sem, *], by omega, by (repeat' (first | (with_reducible exact Below.refl _ _) | (with_reducible assumption) | (with_reducible refine Below.alloc ?_ ?_ _) | (with_reducible refine Below.drew ?_) | (with_reducible refine Below.draws ?_ _) | (with_reducible refine Below.setCell ?_ ?_ _) | (refine Below.then ?_ (by with_reducible assumption)) | go_size))⟩
      case round =>
        obtain ⟨k, least, hk, rfl, hfl, hpr, he, hf, hc0, hc1, hc2, hz, hB⟩ := hrel
        have HE := Lib.hid he; have HF2 := Lib.hid hf; have HP := Lib.hid hpr; clear he hf hpr
        by_cases hlt : k < n
        · obtain ⟨⟨x1, x2⟩, b, off, rfl, hb, h1, h2, HD⟩ := (HR.out.ext hB).next2 k hlt
          simp only [] at h1 h2
          have hRr := Lib.hid (HR.out.ext hB)
          have HB := Lib.hid hB; clear hB
          have hf3 : farB (x1, x2) = false ∧ (xs.drop (k + 1)).any farB = false := by have := HF2.out; rw [HD.out] at this; simpa using this
          obtain ⟨⟨b1, b2⟩, b3, b4⟩ := farB_false hf3.1
          simp only [] at b1 b2 b3 b4
          have HF3 := Lib.hid hf3.2; clear hf3
          have HE2 : Hid ((if x1 < least ∨ j < x2 then false else allowGo g j (x1 + g) (xs.drop (k + 1))) = R) := by have := HE.out; rw [HD.out] at this; exact this
          have HN : Hid (0 < k + 1 ∧ ∃ y : P2, x1 + g = y.1 + g ∧ (0 ≤ y.1 ∧ y.1 ≤ 1000000) ∧ xs.drop (k + 1 - 1) = y :: xs.drop (k + 1)) := ⟨by omega, (x1, x2), rfl, ⟨b1, b2⟩, HD.out⟩
          rcases HP.out with ⟨rfl, rfl⟩ | ⟨hk0, ⟨y1, y2⟩, hly, ⟨hy1, hy2⟩, hdy⟩
          · simp only [Nat.zero_mul, Nat.add_zero] at h1 h2
            by_cases t1 : x1 < least
            · have hr : R = false := by rw [← HE2.out, if_pos (.inl t1)]
              subst hr
              clear HP HE2 HN
              go_wp2_with (refine wp_region_later_lit (by kernel_rfl) (by kernel_rfl) ?_; (repeat (go_big_quiet_step (fail))); refine wpQuiet_nil ?_; intro w1 hb1; obtain ⟨hc1, hf1, hz1, hr1⟩ := bfacts hb1; (try simp only [World.size_alloc, World.size_setCell, World.size_drew, World.size_drewN] at hz1 hr1); (try have hw0 : w.heap.size < w1.heap.size := by omega); (try have hw1 : w.heap.size + 1 < w1.heap.size := by omega); (try have hw2 : w.heap.size + 1 + 1 < w1.heap.size := by omega))
              go_ret2
              exact ⟨rfl, (by have hB' := HB.out; (repeat' (first | (with_reducible exact Below.refl _ _) | (with_reducible assumption) | (with_reducible refine Below.alloc ?_ ?_ _) | (with_reducible refine Below.drew ?_) | (with_reducible refine Below.draws ?_ _) | (with_reducible refine Below.setCell ?_ ?_ _) | (refine Below.then ?_ (by with_reducible assumption)) | go_size)))⟩
            · have d1 : decide (x1 < least) = false := by simpa using t1
              by_cases t2 : j < x2
              · have hr : R = false := by rw [← HE2.out, if_pos (.inr t2)]
                subst hr
                clear HP HE2 HN
                go_wp2_with (refine wp_region_later_lit (by kernel_rfl) (by kernel_rfl) ?_; (repeat (go_big_quiet_step (fail))); refine wpQuiet_nil ?_; intro w1 hb1; obtain ⟨hc1, hf1, hz1, hr1⟩ := bfacts hb1; (try simp only [World.size_alloc, World.size_setCell, World.size_drew, World.size_drewN] at hz1 hr1); (try have hw0 : w.heap.size < w1.heap.size := by omega); (try have hw1 : w.heap.size + 1 < w1.heap.size := by omega); (try have hw2 : w.heap.size + 1 + 1 < w1.heap.size := by omega))
                go_ret2
                exact ⟨rfl, (by have hB' := HB.out; (repeat' (first | (with_reducible exact Below.refl _ _) | (with_reducible assumption) | (with_reducible refine Below.alloc ?_ ?_ _) | (with_reducible refine Below.drew ?_) | (with_reducible refine Below.draws ?_ _) | (with_reducible refine Below.setCell ?_ ?_ _) | (refine Below.then ?_ (by with_reducible assumption)) | go_size)))⟩
              · have d2 : decide (j < x2) = false := by simpa using t2
                have HE3 : Hid (allowGo g j (x1 + g) (xs.drop (0 + 1)) = R) := by have := HE2.out; rwa [if_neg (by omega)] at this
                clear HE2
                go_wp2_with (refine wp_region_later_lit (by kernel_rfl) (by kernel_rfl) ?_; (repeat (go_big_quiet_step (fail))); refine wpQuiet_nil ?_; intro w1 hb1; obtain ⟨hc1, hf1, hz1, hr1⟩ := bfacts hb1; (try simp only [World.size_alloc, World.size_setCell, World.size_drew, World.size_drewN] at hz1 hr1); (try have hw0 : w.heap.size < w1.heap.size := by omega); (try have hw1 : w.heap.size + 1 < w1.heap.size := by omega); (try have hw2 : w.heap.size + 1 + 1 < w1.heap.size := by omega))
                go_roundw
                case rel => exact ⟨0 + 1, x1 + g, by omega, by go_num, by omega, .inr HN.out, HE3.out, HF3.out, by simp [go_sem, *], by simp [go_sem, *], by simp [go_sem, *], by omega, (by have hB' := HB.out; (repeat' (first | (with_reducible exact Below.refl _ _) | (with_reducible assumption) | (with_reducible refine Below.alloc ?_ ?_ _) | (with_reducible refine Below.drew ?_) | (with_reducible refine Below.draws ?_ _) | (with_reducible refine Below.setCell ?_ ?_ _) | (refine Below.then ?_ (by with_reducible assumption)) | go_size)))⟩
                case measure => simp [intOf]; omega
          · obtain ⟨⟨z1, z2⟩, b', off', hab, hb', g1, g2, HD'⟩ := hRr.out.next2 (k - 1) (by omega)
            obtain ⟨rfl, rfl⟩ : b = b' ∧ off = off' := by simpa using hab
            have hz1 : (y1, y2) = (z1, z2) ∧ True := by have := HD'.out; rw [hdy] at this; exact ⟨(List.cons.inj this).1, trivial⟩
            have hz2 : y1 = z1 := congrArg Prod.fst hz1.1
            subst hz2
            simp only [] at g1 g2 hly hy1 hy2
            clear hy1 hdy HD' hab
            have hkk : ((k : Int) - 1).toNat = k - 1 := by omega
            have hmax : max f (y1 + g) = y1 + g := by omega
            subst hly
            by_cases t1 : x1 < (y1 + g)
            · have hr : R = false := by rw [← HE2.out, if_pos (.inl t1)]
              subst hr
              clear HP HE2 HN
              go_wp2_with (refine wp_region_later_lit (by kernel_rfl) (by kernel_rfl) ?_; (repeat (go_big_quiet_step (fail))); refine wpQuiet_nil ?_; intro w1 hb1; obtain ⟨hc1, hf1, hz1, hr1⟩ := bfacts hb1; (try simp only [World.size_alloc, World.size_setCell, World.size_drew, World.size_drewN] at hz1 hr1); (try have hw0 : w.heap.size < w1.heap.size := by omega); (try have hw1 : w.heap.size + 1 < w1.heap.size := by omega); (try have hw2 : w.heap.size + 1 + 1 < w1.heap.size := by omega))
              go_ret2
              exact ⟨rfl, (by have hB' := HB.out; (repeat' (first | (with_reducible exact Below.refl _ _) | (with_reducible assumption) | (with_reducible refine Below.alloc ?_ ?_ _) | (with_reducible refine Below.drew ?_) | (with_reducible refine Below.draws ?_ _) | (with_reducible refine Below.setCell ?_ ?_ _) | (refine Below.then ?_ (by with_reducible assumption)) | go_size)))⟩
            · have d1 : decide (x1 < (y1 + g)) = false := by simpa using t1
              by_cases t2 : j < x2
              · have hr : R = false := by rw [← HE2.out, if_pos (.inr t2)]
                subst hr
                clear HP HE2 HN
                go_wp2_with (refine wp_region_later_lit (by kernel_rfl) (by kernel_rfl) ?_; (repeat (go_big_quiet_step (fail))); refine wpQuiet_nil ?_; intro w1 hb1; obtain ⟨hc1, hf1, hz1, hr1⟩ := bfacts hb1; (try simp only [World.size_alloc, World.size_setCell, World.size_drew, World.size_drewN] at hz1 hr1); (try have hw0 : w.heap.size < w1.heap.size := by omega); (try have hw1 : w.heap.size + 1 < w1.heap.size := by omega); (try have hw2 : w.heap.size + 1 + 1 < w1.heap.size := by omega))
                go_ret2
                exact ⟨rfl, (by have hB' := HB.out; (repeat' (first | (with_reducible exact Below.refl _ _) | (with_reducible assumption) | (with_reducible refine Below.alloc ?_ ?_ _) | (with_reducible refine Below.drew ?_) | (with_reducible refine Below.draws ?_ _) | (with_reducible refine Below.setCell ?_ ?_ _) | (refine Below.then ?_ (by with_reducible assumption)) | go_size)))⟩
              · have d2 : decide (j < x2) = false := by simpa using t2
                have HE3 : Hid (allowGo g j (x1 + g) (xs.drop (k + 1)) = R) := by have := HE2.out; rwa [if_neg (by omega)] at this
                clear HE2
                go_wp2_with (refine wp_region_later_lit (by kernel_rfl) (by kernel_rfl) ?_; (repeat (go_big_quiet_step (fail))); refine wpQuiet_nil ?_; intro w1 hb1; obtain ⟨hc1, hf1, hz1, hr1⟩ := bfacts hb1; (try simp only [World.size_alloc, World.size_setCell, World.size_drew, World.size_drewN] at hz1 hr1); (try have hw0 : w.heap.size < w1.heap.size := by omega); (try have hw1 : w.heap.size + 1 < w1.heap.size := by omega); (try have hw2 : w.heap.size + 1 + 1 < w1.heap.size := by omega))
                go_roundw
                case rel => exact ⟨k + 1, x1 + g, by omega, by go_num, by omega, .inr HN.out, HE3.out, HF3.out, by simp [go_sem, *], by simp [go_sem, *], by simp [go_sem, *], by omega, (by have hB' := HB.out; (repeat' (first | (with_reducible exact Below.refl _ _) | (with_reducible assumption) | (with_reducible refine Below.alloc ?_ ?_ _) | (with_reducible refine Below.drew ?_) | (with_reducible refine Below.draws ?_ _) | (with_reducible refine Below.setCell ?_ ?_ _) | (refine Below.then ?_ (by with_reducible assumption)) | go_size)))⟩
                case measure => simp [intOf]; omega
        · have hr : R = true := by rw [← HE.out, drop_end HL.out (by omega)]; rfl
          subst hr
          go_wp2
          go_ret2
          exact ⟨rfl, hB⟩
    · rw [if_neg he]
      have he' : (listE xs != 0) = true := by simpa using he
      go_enter Tryz.func58, Tryz.ntmps58
      go_wp2_with (first | (go_at_call 68; refine (rvalid_any _ _ _ _).mono ?_; rintro e w1 ⟨rfl, hb1⟩; obtain ⟨hc1, hf1, hz1, hr1⟩ := bfacts hb1; (try simp only [World.size_alloc, World.size_setCell, World.size_drew, World.size_drewN] at hz1 hr1); (try have hw0 : w.heap.size < w1.heap.size := by omega); (try have hw1 : w.heap.size + 1 < w1.heap.size := by omega); (try have hw2 : w.heap.size + 1 + 1 < w1.heap.size := by omega)) | (go_at_call 82; refine (listed_any _ _ _ _ _ ((HR.out.ext (show Below w.heap.size w (w.alloc _) by (repeat' (first | (with_reducible exact Below.refl _ _) | (with_reducible assumption) | (with_reducible refine Below.alloc ?_ ?_ _) | (with_reducible refine Below.drew ?_) | (with_reducible refine Below.draws ?_ _) | (with_reducible refine Below.setCell ?_ ?_ _) | (refine Below.then ?_ (by with_reducible assumption)) | go_size)))).ext hb1)).mono ?_; rintro e w1 ⟨rfl, hb1⟩; obtain ⟨hc1, hf1, hz1, hr1⟩ := bfacts hb1; (try simp only [World.size_alloc, World.size_setCell, World.size_drew, World.size_drewN] at hz1 hr1); (try have hw0 : w.heap.size < w1.heap.size := by omega); (try have hw1 : w.heap.size + 1 < w1.heap.size := by omega); (try have hw2 : w.heap.size + 1 + 1 < w1.heap.size := by omega)))
      go_ret2
      exact ⟨rfl, by (repeat' (first | (with_reducible exact Below.refl _ _) | (with_reducible assumption) | (with_reducible refine Below.alloc ?_ ?_ _) | (with_reducible refine Below.drew ?_) | (with_reducible refine Below.draws ?_ _) | (with_reducible refine Below.setCell ?_ ?_ _) | (refine Below.then ?_ (by with_reducible assumption)) | go_size))⟩
  · rw [allowR, if_neg hv]
    go_enter Tryz.func58, Tryz.ntmps58
    go_wp2_with (first | (go_at_call 68; refine (rvalid_any _ _ _ _).mono ?_; rintro e w1 ⟨rfl, hb1⟩; obtain ⟨hc1, hf1, hz1, hr1⟩ := bfacts hb1; (try simp only [World.size_alloc, World.size_setCell, World.size_drew, World.size_drewN] at hz1 hr1); (try have hw0 : w.heap.size < w1.heap.size := by omega); (try have hw1 : w.heap.size + 1 < w1.heap.size := by omega); (try have hw2 : w.heap.size + 1 + 1 < w1.heap.size := by omega)) | (go_at_call 82; refine (listed_any _ _ _ _ _ ((HR.out.ext (show Below w.heap.size w (w.alloc _) by (repeat' (first | (with_reducible exact Below.refl _ _) | (with_reducible assumption) | (with_reducible refine Below.alloc ?_ ?_ _) | (with_reducible refine Below.drew ?_) | (with_reducible refine Below.draws ?_ _) | (with_reducible refine Below.setCell ?_ ?_ _) | (refine Below.then ?_ (by with_reducible assumption)) | go_size)))).ext hb1)).mono ?_; rintro e w1 ⟨rfl, hb1⟩; obtain ⟨hc1, hf1, hz1, hr1⟩ := bfacts hb1; (try simp only [World.size_alloc, World.size_setCell, World.size_drew, World.size_drewN] at hz1 hr1); (try have hw0 : w.heap.size < w1.heap.size := by omega); (try have hw1 : w.heap.size + 1 < w1.heap.size := by omega); (try have hw2 : w.heap.size + 1 + 1 < w1.heap.size := by omega)))
    go_ret2
    exact ⟨rfl, by (repeat' (first | (with_reducible exact Below.refl _ _) | (with_reducible assumption) | (with_reducible refine Below.alloc ?_ ?_ _) | (with_reducible refine Below.drew ?_) | (with_reducible refine Below.draws ?_ _) | (with_reducible refine Below.setCell ?_ ?_ _) | (refine Below.then ?_ (by with_reducible assumption)) | go_size))⟩
end Go.Proofs.YtmahagcghpoekaaGreat
namespace Go.Proofs.YtmahagcghpoekaaGreat
open Go.RowKit
set_option linter.unusedSimpArgs false
set_option linter.unusedVariables false
def buA (R : Rn) (i : Nat) : Int := (R.bu[i]?).getD 0
/-- does task i allow its events, and is its budget enough? -/
def mayB (R : Rn) (i : Nat) : Bool := allowGo (taAt R.L i).gap (taAt R.L i).jit (taAt R.L i).first (evA R i)
def lowB (R : Rn) (i : Nat) : Bool := decide (0 < buA R i) && decide (buA R i < costT (taAt R.L i))
def alwF (R : Rn) : Nat → Nat → Bool
  | 0, _ => decide (R.sg.length = 0)
  | f + 1, i => if mayB R i = true ∧ lowB R i = false then alwF R f (i + 1) else false
def alwR (R : Rn) : Bool × Int := if runB R = true then (alwF R R.L.length 0, 0) else (false, 1)
theorem may_is {R : Rn} (hr : RnOk R) (hv : ValidT R.L) {i : Nat} (hi : i < R.L.length) : allowR (taAt R.L i).first (taAt R.L i).gap (taAt R.L i).jit (evA R i) = (mayB R i, 0) := by
  have hev : i < R.ev.length := by rw [hr.ev]; exact hi
  have hel := hr.el (evA R i) (by unfold evA; rw [List.getElem?_eq_getElem hev]; exact List.getElem_mem hev)
  have h0 : listE (evA R i) = 0 := by
    unfold listE
    rw [if_neg, if_neg (by omega)]
    intro h
    rw [List.any_eq_true] at h
    obtain ⟨e, he, hf⟩ := h
    have := hel.2 e he
    simp only [farB, Bool.or_eq_true, Bool.not_eq_true'] at hf
    rcases hf with hf | hf
    · rw [show inB e.1 0 1000000 = true by rw [inB_iff]; exact this.1] at hf; cases hf
    · rw [show inB e.2 0 1000000 = true by rw [inB_iff]; exact this.2] at hf; cases hf
  unfold allowR mayB
  rw [if_pos (hv.vp _ (ta_mem hi)), if_pos h0]
theorem cost_is {R : Rn} (hvl : validL R.L = true) {i : Nat} (hi : i < R.L.length) : costR R.L i = (costT (taAt R.L i), 0) := by
  unfold costR
  rw [hvl, show inT R.L (i : Int) = true by rw [inT_iff]; omega]; rfl
set_option maxRecDepth 100000 in
set_option maxHeartbeats 4000000 in
theorem Allowed_any (H : RunH) (R : Rn) (w : World) (hR : ReadRun w H R) : Calls Tryz.prog 7 #[runV H R.fr R.sl] w fun e w' => e = rBP (alwR R) ∧ Below w.heap.size w w' := by
  have HV := Lib.hid (fun w1 (hb : Below w.heap.size w w1) => Valid_run H R w1 (hR.ext hb))
  unfold alwR
  obtain ⟨B, hB⟩ : ∃ B, runB R = B := ⟨_, rfl⟩
  rw [hB] at HV ⊢
  cases B
  · obtain ⟨fr, hfr⟩ : ∃ x, R.fr = x := ⟨_, rfl⟩
    obtain ⟨sl_, hsl⟩ : ∃ x, R.sl = x := ⟨_, rfl⟩
    rw [hfr, hsl] at HV ⊢
    obtain ⟨tA, tN, tC, eA, eN, eC, bA, bN, bC, sA, sN, sC⟩ := H
    unfold runV at HV ⊢
    simp only [] at HV ⊢
    clear hR hB hfr hsl
    go_enter Tryz.func7, Tryz.ntmps7
    go_wp2_with (go_at_call 19; (with_reducible refine (HV.out _ (by (repeat' (first | (with_reducible exact Below.refl _ _) | (with_reducible assumption) | (with_reducible refine Below.alloc ?_ ?_ _) | (with_reducible refine Below.drew ?_) | (with_reducible refine Below.draws ?_ _) | (with_reducible refine Below.setCell ?_ ?_ _) | (refine Below.then ?_ (by with_reducible assumption)) | go_size)))).mono ?_); rintro e w1 ⟨rfl, hb1⟩; have B1 : Hid (Below w.heap.size w w1) := Lib.hid (Below.trans (by (repeat' (first | (with_reducible exact Below.refl _ _) | (with_reducible assumption) | (with_reducible refine Below.alloc ?_ ?_ _) | (with_reducible refine Below.drew ?_) | (with_reducible refine Below.draws ?_ _) | (with_reducible refine Below.setCell ?_ ?_ _) | (refine Below.then ?_ (by with_reducible assumption)) | go_size))) (hb1.mono (by simp))); have z1 : w.heap.size < w1.heap.size := Nat.lt_of_lt_of_le (by simp) hb1.size; have c1_0 := (hb1.cell (p := ⟨w.heap.size, 0, none⟩) (by simp)).trans (by simp [go_sem]; rfl); have c1_1 := (hb1.cell (p := ⟨w.heap.size, 1, none⟩) (by simp)).trans (by simp [go_sem]; rfl); have c1_2 := (hb1.cell (p := ⟨w.heap.size, 2, none⟩) (by simp)).trans (by simp [go_sem]; rfl); have c1_3 := (hb1.cell (p := ⟨w.heap.size, 3, none⟩) (by simp)).trans (by simp [go_sem]; rfl); have c1_4 := (hb1.cell (p := ⟨w.heap.size, 4, none⟩) (by simp)).trans (by simp [go_sem]; rfl); have c1_5 := (hb1.cell (p := ⟨w.heap.size, 5, none⟩) (by simp)).trans (by simp [go_sem]; rfl); clear hb1)
    go_ret2
    exact ⟨rfl, B1.out⟩
  · rw [if_pos rfl]
    obtain ⟨hr, hvl, _⟩ := run_ok hB
    have hv := valid_of hvl
    obtain ⟨A, hA⟩ : ∃ A, alwF R R.L.length 0 = A := ⟨_, rfl⟩
    rw [hA]
    have HR := Lib.hid hR.rd; have HRN := Lib.hid hr; have HVL := Lib.hid hvl; have HVT := Lib.hid hv
    have hen := hR.rd.e.len
    have htn := hR.rd.t.length
    have hbn := hR.rd.b.length
    have hsn := hR.rd.s.length
    have hL5 := hr.r.len
    have hev := hr.ev
    have hbu := hr.bu
    obtain ⟨nL, hnL⟩ : ∃ x, R.L.length = x := ⟨_, rfl⟩
    have HNL := Lib.hid hnL
    have heN : H.eN = nL := by omega
    have htN : H.tN = nL := by omega
    have hbN : H.bN = nL := by omega
    have hn5 : nL ≤ 5 := by omega
    rw [hnL] at hA
    have HA0 : Hid (alwF R (nL - 0) 0 = A) := Lib.hid hA
    have hs40 := hr.sl
    have HSN := Lib.hid hsn
    obtain ⟨fr, hfr⟩ : ∃ x, R.fr = x := ⟨_, rfl⟩
    obtain ⟨sl_, hsl⟩ : ∃ x, R.sl = x := ⟨_, rfl⟩
    rw [hfr, hsl] at HV ⊢
    obtain ⟨tA, tN, tC, eA, eN, eC, bA, bN, bC, sA, sN, sC⟩ := H
    unfold runV at HV ⊢
    simp only [] at HV HR heN htN hbN HSN hsn ⊢
    subst heN; subst htN; subst hbN
    have hsN : sN ≤ 40 := by omega
    clear hR hB hfr hsl hnL hr hvl hv hA hen htn hbn hsn hL5 hev hbu hs40
    go_enter Tryz.func7, Tryz.ntmps7
    go_wp2_with (go_at_call 19; (with_reducible refine (HV.out _ (by (repeat' (first | (with_reducible exact Below.refl _ _) | (with_reducible assumption) | (with_reducible refine Below.alloc ?_ ?_ _) | (with_reducible refine Below.drew ?_) | (with_reducible refine Below.draws ?_ _) | (with_reducible refine Below.setCell ?_ ?_ _) | (refine Below.then ?_ (by with_reducible assumption)) | go_size)))).mono ?_); rintro e w1 ⟨rfl, hb1⟩; have B1 : Hid (Below w.heap.size w w1) := Lib.hid (Below.trans (by (repeat' (first | (with_reducible exact Below.refl _ _) | (with_reducible assumption) | (with_reducible refine Below.alloc ?_ ?_ _) | (with_reducible refine Below.drew ?_) | (with_reducible refine Below.draws ?_ _) | (with_reducible refine Below.setCell ?_ ?_ _) | (refine Below.then ?_ (by with_reducible assumption)) | go_size))) (hb1.mono (by simp))); have z1 : w.heap.size < w1.heap.size := Nat.lt_of_lt_of_le (by simp) hb1.size; have c1_0 := (hb1.cell (p := ⟨w.heap.size, 0, none⟩) (by simp)).trans (by simp [go_sem]; rfl); have c1_1 := (hb1.cell (p := ⟨w.heap.size, 1, none⟩) (by simp)).trans (by simp [go_sem]; rfl); have c1_2 := (hb1.cell (p := ⟨w.heap.size, 2, none⟩) (by simp)).trans (by simp [go_sem]; rfl); have c1_3 := (hb1.cell (p := ⟨w.heap.size, 3, none⟩) (by simp)).trans (by simp [go_sem]; rfl); have c1_4 := (hb1.cell (p := ⟨w.heap.size, 4, none⟩) (by simp)).trans (by simp [go_sem]; rfl); have c1_5 := (hb1.cell (p := ⟨w.heap.size, 5, none⟩) (by simp)).trans (by simp [go_sem]; rfl); clear hb1)
    go_loopw [17] (fun v wr => ∃ i : Nat, i ≤ bN ∧ v = .int .i64 i ∧ alwF R (bN - i) i = A ∧ Below w1.heap.size w1 wr) (fun v _ => bN - (intOf v).toNat)
    case atStart => exact ⟨0, Nat.zero_le _, rfl, HA0.out, Below.refl _ _⟩
    case round =>
      clear HA0
      obtain ⟨i, hi, rfl, hA, hB⟩ := hrel
      have HB := Lib.hid hB
      have d0 := (hB.cell (p := ⟨w.heap.size, 0, none⟩) z1).trans c1_0
      have d3 := (hB.cell (p := ⟨w.heap.size, 3, none⟩) z1).trans c1_3
      have d4 := (hB.cell (p := ⟨w.heap.size, 4, none⟩) z1).trans c1_4
      have d5 := (hB.cell (p := ⟨w.heap.size, 5, none⟩) z1).trans c1_5
      have zz := Nat.lt_of_lt_of_le z1 hB.size
      by_cases hin : i < bN
      · have hiL : i < R.L.length := by rw [HNL.out]; exact hin
        rw [show bN - i = (bN - (i + 1)) + 1 by omega, alwF] at hA
        have hBW := B1.out.trans (hB.mono B1.out.size)
        obtain ⟨vb, vo, ea, en, ec, rfl, hvb, hvc, hRd⟩ := HR.out.e.at_ i hin
        obtain ⟨u, tb, toff, pa, pn, pc, rfl, htb, hg, _, HK⟩ := HR.out.t.cells i hin
        have hu : taAt R.L i = u := taAt_of hg
        obtain ⟨bu, bb, bo, rfl, hbb, hbc, hbx⟩ := HR.out.b.idx i hin
        have hbu : buA R i = bu := by unfold buA; rw [hbx]; rfl
        have hmay := may_is HRN.out HVT.out hiL
        have hcost := cost_is HVL.out hiL
        rw [hu] at hmay hcost
        obtain ⟨MB, hMB⟩ : ∃ x, mayB R i = x := ⟨_, rfl⟩
        obtain ⟨ct, hct⟩ : ∃ x, costT u = x := ⟨_, rfl⟩
        rw [hMB] at hmay hA
        rw [hct] at hcost
        unfold lowB at hA
        rw [hbu, hu, hct] at hA
        have HAL := Lib.hid (fun (wz : World) (hz : Below w.heap.size w wz) => (by have := allowed_any u.first u.gap u.jit ea en ec wz (evA R i) (hRd.ext hz); rw [hmay] at this; exact this : Calls Tryz.prog 20 #[patV u.first u.gap u.jit, .slice ea en ec] wz fun e w' => e = rBP (MB, 0) ∧ Below wz.heap.size wz w'))
        have HCO := Lib.hid (fun (wz : World) (hz : Below w.heap.size w wz) => Cost_is (c := tC) (HR.out.t.ext hz) hcost)
        simp only [] at HAL HCO
        have hvc' := (hBW.cell (p := ⟨vb, vo + i, none⟩) hvb).trans hvc
        have hbc' := (hBW.cell (p := ⟨bb, bo + i, none⟩) hbb).trans hbc
        obtain ⟨_, _, q2, q3, q4, _, htz, _⟩ := HK.out wr hBW
        have hvz := Nat.lt_of_lt_of_le hvb hBW.size
        have hbz := Nat.lt_of_lt_of_le hbb hBW.size
        have HF : Hid (∀ wz, Below wr.heap.size wr wz → wz.cell? ⟨w.heap.size, 0, none⟩ = some (.slice (some ⟨tb, toff, none⟩) bN tC) ∧ wz.cell? ⟨w.heap.size, 4, none⟩ = some (.slice (some ⟨bb, bo, none⟩) bN bC) ∧ wz.cell? ⟨bb, bo + i, none⟩ = some (.int .i64 bu)) := Lib.hid (fun wz hz => ⟨keep_c hz d0, keep_c hz d4, keep_c hz hbc'⟩)
        have HBW := Lib.hid hBW
        clear hB hBW hRd hg hu hbx hbu hmay hcost hMB hct hvc hbc HK
        cases MB
        · obtain rfl : A = false := by rw [← hA]; exact if_neg (fun q => by cases q.1)
          clear hA
          go_wp2_with (first
          | (go_at_call 20; (with_reducible refine (HAL.out _ HBW.out).mono ?_); rintro e w2 ⟨rfl, hb2x⟩; have hb2 : Below wr.heap.size wr w2 := Below.then (Below.refl _ _) hb2x; have HB2 := Lib.hid hb2; obtain ⟨x0, x4, xb⟩ := HF.out _ hb2; clear hb2 hb2x)
          | (go_at_call 21; (with_reducible refine (HCO.out _ (HBW.out.trans (HB2.out.mono HBW.out.size))).mono ?_); rintro e w3 ⟨rfl, hb3⟩; have HB3 := Lib.hid (Below.then HB2.out hb3); obtain ⟨y0, y4, yb⟩ := HF.out _ (Below.then HB2.out hb3); clear hb3))
          go_ret2
          exact ⟨rfl, Below.trans B1.out ((Below.then HB.out HB3.out).mono B1.out.size)⟩
        · by_cases p1 : 0 < bu
          · have p1' : decide (0 < bu) = true := by simpa using p1
            by_cases p2 : bu < ct
            · have p2' : decide (bu < ct) = true := by simpa using p2
              obtain rfl : A = false := by rw [← hA]; exact if_neg (fun q => by have := q.2; rw [p1', p2'] at this; cases this)
              clear hA
              go_wp2_with (first
          | (go_at_call 20; (with_reducible refine (HAL.out _ HBW.out).mono ?_); rintro e w2 ⟨rfl, hb2x⟩; have hb2 : Below wr.heap.size wr w2 := Below.then (Below.refl _ _) hb2x; have HB2 := Lib.hid hb2; obtain ⟨x0, x4, xb⟩ := HF.out _ hb2; clear hb2 hb2x)
          | (go_at_call 21; (with_reducible refine (HCO.out _ (HBW.out.trans (HB2.out.mono HBW.out.size))).mono ?_); rintro e w3 ⟨rfl, hb3⟩; have HB3 := Lib.hid (Below.then HB2.out hb3); obtain ⟨y0, y4, yb⟩ := HF.out _ (Below.then HB2.out hb3); clear hb3))
              go_ret2
              exact ⟨rfl, Below.trans B1.out ((Below.then HB.out HB3.out).mono B1.out.size)⟩
            · have p2' : decide (bu < ct) = false := by simpa using p2
              rw [if_pos ⟨rfl, by rw [p1', p2']; rfl⟩] at hA
              have HA := Lib.hid hA
              clear hA
              go_wp2_with (first
          | (go_at_call 20; (with_reducible refine (HAL.out _ HBW.out).mono ?_); rintro e w2 ⟨rfl, hb2x⟩; have hb2 : Below wr.heap.size wr w2 := Below.then (Below.refl _ _) hb2x; have HB2 := Lib.hid hb2; obtain ⟨x0, x4, xb⟩ := HF.out _ hb2; clear hb2 hb2x)
          | (go_at_call 21; (with_reducible refine (HCO.out _ (HBW.out.trans (HB2.out.mono HBW.out.size))).mono ?_); rintro e w3 ⟨rfl, hb3⟩; have HB3 := Lib.hid (Below.then HB2.out hb3); obtain ⟨y0, y4, yb⟩ := HF.out _ (Below.then HB2.out hb3); clear hb3))
              go_roundw
              case rel => exact ⟨i + 1, hin, by go_num, HA.out, Below.then HB.out HB3.out⟩
              case measure => simp [intOf]; omega
          · have p1' : decide (0 < bu) = false := by simpa using p1
            rw [if_pos ⟨rfl, by rw [p1']; rfl⟩] at hA
            have HA := Lib.hid hA
            clear hA
            go_wp2_with (first
          | (go_at_call 20; (with_reducible refine (HAL.out _ HBW.out).mono ?_); rintro e w2 ⟨rfl, hb2x⟩; have hb2 : Below wr.heap.size wr w2 := Below.then (Below.refl _ _) hb2x; have HB2 := Lib.hid hb2; obtain ⟨x0, x4, xb⟩ := HF.out _ hb2; clear hb2 hb2x)
          | (go_at_call 21; (with_reducible refine (HCO.out _ (HBW.out.trans (HB2.out.mono HBW.out.size))).mono ?_); rintro e w3 ⟨rfl, hb3⟩; have HB3 := Lib.hid (Below.then HB2.out hb3); obtain ⟨y0, y4, yb⟩ := HF.out _ (Below.then HB2.out hb3); clear hb3))
            go_roundw
            case rel => exact ⟨i + 1, hin, by go_num, HA.out, Below.then HB.out HB3.out⟩
            case measure => simp [intOf]; omega
      · have hie : bN - i = 0 := by omega
        rw [hie, alwF, HSN.out] at hA
        clear hB
        by_cases q : sN = 0
        · have q' : ((sN : Int) == 0) = true := by simpa using q
          obtain rfl : A = true := by rw [← hA]; exact decide_eq_true q
          clear hA
          go_wp2
          go_ret2
          exact ⟨rfl, B1.out.trans (HB.out.mono B1.out.size)⟩
        · have q' : ((sN : Int) == 0) = false := by simpa using q
          obtain rfl : A = false := by rw [← hA]; exact decide_eq_false q
          clear hA
          go_wp2
          go_ret2
          exact ⟨rfl, B1.out.trans (HB.out.mono B1.out.size)⟩
end Go.Proofs.YtmahagcghpoekaaGreat
