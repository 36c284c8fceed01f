/- Contracts of arrive.check and of its reference's listed. The conditions: the lists read as the lists named. -/
import Derived.Test.YtfiggbeaomkepaaFunc
import Derived.Test.YtfiggbeaomkepaaSane
import Derived.Laws.EntriesVeiled
namespace Go.Proofs.Ytfiggbeaomkepaa
open Go.RowKit
set_option linter.unusedSimpArgs false
set_option linter.unusedVariables false
/-- a list that lies in w -/
structure Hd (w : World) where
  a : Option Addr
  n : Nat
  c : Nat
  xs : List P2
  rd : Rd w a n 2 (xs.map enc2)
def Hd.val {w : World} (h : Hd w) : Value := .slice h.a h.n h.c
def farB (x : P2) : Bool := !inB x.1 0 1000000 || !inB x.2 0 1000000
theorem far_any (x : P2) (w : World) : Calls Try.prog 66 #[val2 x] w fun e w' => e = .returned (.bool (farB x)) ∧ Below w.heap.size w w' := by
  obtain ⟨x1, x2⟩ := x
  go_enter Try.func66, Try.ntmps66
  go_wp2_with (go_at_call 48; refine (within_any _ _ _ _).mono ?_; rintro e w1 ⟨rfl, rfl⟩)
  all_goals (go_ret; exact ⟨ret_bool (by simp [farB, *]), by (repeat' (first | (with_reducible exact Below.refl _ _) | (with_reducible assumption) | (with_reducible refine Below.alloc ?_ ?_ _) | (with_reducible refine Below.drew ?_) | (with_reducible refine Below.draws ?_ _) | (with_reducible refine Below.setCell ?_ ?_ _) | (refine Below.then ?_ (by with_reducible assumption)) | go_size))⟩)
theorem far_pred (w : World) : PredOn 66 #[] val2 farB w :=
  ⟨fun args w => by kernel_rfl, fun x w' _ => far_any x w'⟩
theorem long_any {w : World} (h : Hd w) (w' : World) : Calls Try.prog 67 #[h.val] w' fun e w'' => e = .returned (.bool (decide (40 < h.xs.length))) ∧ Below w'.heap.size w' w'' := by
  obtain ⟨a, n, c, xs, rd⟩ := h
  have hl := rd.length
  have hs := rd.small
  show Calls Try.prog 67 #[.slice a n c] w' fun e w'' => e = .returned (.bool (decide (40 < xs.length))) ∧ Below w'.heap.size w' w''
  rw [hl]
  clear hl rd
  go_enter Try.func67, Try.ntmps67
  go_wp2
  go_ret
  exact ⟨ret_bool (by rw [decide_eq_decide]; omega), Below.refl _ _⟩
theorem long_pred (w : World) : PredOn 67 #[] (Hd.val (w := w)) (fun h => decide (40 < h.xs.length)) w :=
  ⟨fun args w => by kernel_rfl, fun x w' _ => long_any x w'⟩
theorem farList_any {w : World} (h : Hd w) (w' : World) (hb : Below w.heap.size w w') (p : Nat) (hp : p < w.heap.size) (hc : w.cell? ⟨p, 0, none⟩ = some (.func (.func 66) #[] #[])) :
    Calls Try.prog 69 #[h.val, .pointer (some ⟨p, 0, none⟩)] w' fun e w'' => e = .returned (.bool (h.xs.any farB)) ∧ Below w'.heap.size w' w'' := by
  obtain ⟨a, n, c, xs, rd⟩ := h
  have hc' := (hb.cell (p := ⟨p, 0, none⟩) hp).trans hc
  have RD := Lib.hid (rd.ext hb)
  show Calls Try.prog 69 #[.slice a n c, .pointer (some ⟨p, 0, none⟩)] w' fun e w'' => e = .returned (.bool (xs.any farB)) ∧ Below w'.heap.size w' w''
  clear rd hb hc
  go_enter Try.func69, Try.ntmps69
  go_wp2_with (go_at_call 70; refine (containsFunc2 _ _ _ _ _ _ _ _ RD.out (far_pred _)).mono ?_; rintro e w1 ⟨rfl, hb1⟩)
  go_ret
  exact ⟨rfl, hb1⟩
theorem farList_pred (w : World) (p : Nat) (hp : p < w.heap.size) (hc : w.cell? ⟨p, 0, none⟩ = some (.func (.func 66) #[] #[])) : PredOn 69 #[.pointer (some ⟨p, 0, none⟩)] (Hd.val (w := w)) (fun h => h.xs.any farB) w :=
  ⟨fun args w => by kernel_rfl, fun x w' hb => farList_any x w' hb p hp hc⟩
def Hd.ext {w w' : World} (h : Hd w) (hb : Below w.heap.size w w') : Hd w' := ⟨h.a, h.n, h.c, h.xs, h.rd.ext hb⟩
/-- the error of lists -/
def checkE (ls : List (List P2)) : Int := if ls.any (fun l => l.any farB) then 1 else if ls.any (fun l => decide (40 < l.length)) then 2 else 0
theorem Hd.map_ext {w w' : World} (hb : Below w.heap.size w w') (hs : List (Hd w)) {a : Option Addr} {n : Nat} (h : Rd w a n 1 (hs.map fun h => [h.val])) : Rd w' a n 1 ((hs.map (·.ext hb)).map fun h => [h.val]) := by
  have e : (hs.map (·.ext hb)).map (fun h => [h.val]) = hs.map fun h => [h.val] := by rw [List.map_map]; rfl
  rw [e]; exact h.ext hb
theorem check_any (a : Option Addr) (n c : Nat) (w : World) (hs : List (Hd w)) (hR : Rd w a n 1 (hs.map fun h => [h.val])) :
    Calls Try.prog 52 #[.slice a n c] w fun e w' => e = .returned (.int .i64 (checkE (hs.map Hd.xs))) ∧ Below w.heap.size w w' := by
  obtain ⟨W, hW⟩ : ∃ W, W = w.alloc (.cells #[.func (.func 66) #[] #[]] 81) := ⟨_, rfl⟩
  have hbW : Below w.heap.size w W := by rw [hW]; (repeat' (first | (with_reducible exact Below.refl _ _) | (with_reducible assumption) | (with_reducible refine Below.alloc ?_ ?_ _) | (with_reducible refine Below.drew ?_) | (with_reducible refine Below.draws ?_ _) | (with_reducible refine Below.setCell ?_ ?_ _) | (refine Below.then ?_ (by with_reducible assumption)) | go_size))
  have hcW : W.cell? ⟨w.heap.size, 0, none⟩ = some (.func (.func 66) #[] #[]) := by rw [hW]; simp [go_sem]
  have hsW : w.heap.size < W.heap.size := by rw [hW]; simp
  have c1 := containsFuncS 69 #[.pointer (some ⟨w.heap.size, 0, none⟩)] Hd.val (fun h => h.xs.any farB) a n c (hs.map (·.ext hbW)) W (Hd.map_ext hbW hs hR) (farList_pred W w.heap.size hsW hcW)
  have c2 : ∀ w1, Below w.heap.size w w1 → Calls Try.prog 68 #[.slice a n c, .func (.func 67) #[] #[]] w1 fun e w' => e = .returned (.bool ((hs.map Hd.xs).any fun l => decide (40 < l.length))) ∧ Below w1.heap.size w1 w' := fun w1 hb => by
    have := containsFuncS 67 #[] Hd.val (fun h => decide (40 < h.xs.length)) a n c (hs.map (·.ext hb)) w1 (Hd.map_ext hb hs hR) (long_pred w1)
    rw [List.any_map] at this ⊢
    exact this
  have e1 : (hs.map (·.ext hbW)).any (fun h => h.xs.any farB) = (hs.map Hd.xs).any fun l => l.any farB := by rw [List.any_map, List.any_map]; rfl
  rw [e1] at c1
  unfold checkE
  generalize (hs.map Hd.xs).any (fun l => l.any farB) = b1 at *
  generalize (hs.map Hd.xs).any (fun l => decide (40 < l.length)) = b2 at *
  subst hW
  have C1 := Lib.hid c1; have C2 := Lib.hid c2; clear c1 c2 e1 hcW hR
  have HBW := Lib.hid hbW; clear hbW
  cases b1 <;> cases b2
  all_goals
    go_enter Try.func52, Try.ntmps52
    go_wp2_with (first | (go_at_call 68; (with_reducible refine C1.out.mono ?_); rintro e w1 ⟨rfl, hb1⟩; have HB1 := Lib.hid (HBW.out.trans (hb1.mono (Nat.le_of_lt hsW))); clear hb1) | (go_at_call 68; refine (C2.out _ HB1.out).mono ?_; rintro e w2 ⟨rfl, hb2⟩))
    go_ret
    first | exact ⟨rfl, HB1.out⟩ | exact ⟨rfl, Below.then HB1.out hb2⟩
def listE (l : List P2) : Int := if l.any farB then 1 else if 40 < l.length then 2 else 0
theorem check_one (a : Option Addr) (n c : Nat) (w : World) (xs : List P2) (hR : Rd w a n 2 (xs.map enc2)) :
    Calls Try.prog 52 #[.slice (some ⟨w.heap.size, 0, none⟩) 1 1] (w.alloc (.cells #[.slice a n c] 34)) fun e w' => e = .returned (.int .i64 (listE xs)) ∧ Below w.heap.size w w' := by
  have hbW : Below w.heap.size w (w.alloc (.cells #[.slice a n c] 34)) := by (repeat' (first | (with_reducible exact Below.refl _ _) | (with_reducible assumption) | (with_reducible refine Below.alloc ?_ ?_ _) | (with_reducible refine Below.drew ?_) | (with_reducible refine Below.draws ?_ _) | (with_reducible refine Below.setCell ?_ ?_ _) | (refine Below.then ?_ (by with_reducible assumption)) | go_size))
  refine (check_any (some ⟨w.heap.size, 0, none⟩) 1 1 (w.alloc (.cells #[.slice a n c] 34)) [⟨a, n, c, xs, hR.ext hbW⟩] ⟨rfl, by omega, fun _ => ⟨w.heap.size, 0, rfl, by simp, fun i hi j hj => ?_⟩⟩).mono ?_
  · obtain rfl : i = 0 := by simpa using hi
    obtain rfl : j = 0 := by omega
    simp [Hd.val]
  · rintro e w' ⟨rfl, hb⟩
    refine ⟨ret_int ?_, Below.then hbW hb⟩
    show checkE [xs] = listE xs
    unfold checkE listE
    simp only [List.any_cons, List.any_nil, Bool.or_false, decide_eq_true_eq]
theorem listed_any (a : Option Addr) (n c : Nat) (w : World) (xs : List P2) (hR : Rd w a n 2 (xs.map enc2)) :
    Calls Try.prog 53 #[.slice a n c] w fun e w' => e = .returned (.int .i64 (listE xs)) ∧ Below w.heap.size w w' := by
  have HL := Lib.hid hR.length
  have hs := hR.small
  have HR := Lib.hid hR; clear hR
  generalize hg : xs.any farB = R
  have HG := Lib.hid hg
  generalize hq : listE xs = E
  rw [listE, hg, HL.out] at hq
  have HQ := Lib.hid hq; clear hg hq
  go_enter Try.func53, Try.ntmps53
  go_wp2
  go_loopw [3] (fun i wr => ∃ k : Nat, k ≤ n ∧ i = .int .i64 k ∧ (xs.drop k).any farB = R ∧ Below w.heap.size w wr) (fun i _ => n - (intOf i).toNat)
  case atStart => exact ⟨0, Nat.zero_le _, rfl, HG.out, Below.refl _ _⟩
  case round =>
    obtain ⟨k, hk, rfl, he, hB⟩ := hrel
    have HE := Lib.hid he; clear he
    by_cases hlt : k < n
    · obtain ⟨⟨x1, x2⟩, b, off, rfl, hb, h1, h2, HD⟩ := (HR.out.ext hB).next2 k hlt
      simp only [] at h1 h2
      have HB := Lib.hid hB; clear hB
      have HE2 : Hid ((farB (x1, x2) || (xs.drop (k + 1)).any farB) = R) := by have := HE.out; rw [HD.out] at this; exact this
      go_wp2_with (go_at_call 49; refine (in_any _ _ _ _).mono ?_; rintro e w1 ⟨rfl, rfl⟩)
      all_goals first
        | (have hr : R = true := by rw [← HE2.out]; simp [farB, *]
           have hE : E = 1 := by rw [← HQ.out, hr]; rfl
           subst hE
           go_ret
           exact ⟨rfl, HB.out⟩)
        | exact ⟨⟨k + 1, by omega, by go_num, by have := HE2.out; simpa [farB, *] using this, HB.out⟩, by simp [intOf]; omega⟩
    · have : R = false := by rw [← HE.out, drop_end HL.out (by omega)]; rfl
      subst this
      by_cases h40 : 40 < n
      all_goals
        have : E = _ := HQ.out.symm
        simp only [h40, if_true, if_false, Bool.false_eq_true] at this
        subst this
        go_wp2
        go_ret
        exact ⟨rfl, hB⟩
end Go.Proofs.Ytfiggbeaomkepaa
