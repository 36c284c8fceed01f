/- Contracts of slices.IndexFunc and slices.ContainsFunc at events and at lists of events. The conditions: what is asked of the predicate's calls. Contracts of arrive.check and of its reference's listed. The conditions: the lists read as the lists named. Contracts of Allowed, of its reference, of pairs and of own. The conditions: the lists read as the lists named. Contracts of the functions on clocks (Reading, When and what they call), and of Looser. The conditions are the ones that each contract names. Contracts of the functions that make lists of events (Densest, Bunch and their references). The conditions are the ones that each contract names. -/
import Derived.Test.YtlhnhmimhpcoaaaMg1
import Derived.Shelf.GgClosure.Gives
import Derived.Test.YtlhnhmimhpcoaaaMg5
import Derived.Laws.EntriesVeiled
import Derived.Test.YtlhnhmimhpcoaaaMg2
namespace Go.Proofs.Ytlhnhmimhpcoaaa
open Go.RowKit
set_option linter.unusedSimpArgs false
set_option linter.unusedVariables false
/-- what is asked of a predicate handed over as a function value: it can be called, and in every later world it gives p -/
structure PredOn (g : Nat) (lb : Array Value) {α : Type} (val : α → Value) (p : α → Bool) (w : World) : Prop where
  eg : ∀ args w, (callFunc g args).run Try.prog w = .ok (.enter g args) w
  gives : ∀ (x : α) (w' : World), Below w.heap.size w w' → Calls Try.prog g (#[val x] ++ lb) w' fun e w'' => e = .returned (.bool (p x)) ∧ Below w'.heap.size w' w''
abbrev val2 (x : P2) : Value := .agg #[.int .i64 x.1, .int .i64 x.2]
theorem indexFunc2 (g : Nat) (lb : Array Value) (p : P2 → Bool) (a : Option Addr) (n c : Nat) (xs : List P2) (w : World) (hR : Rd w a n 2 (xs.map enc2)) (hf : PredOn g lb val2 p w) :
    Calls Try.prog 98 #[.slice a n c, .func (.func g) #[] lb] w fun e w' => e = .returned (.int .i64 (idxGo p 0 xs)) ∧ Below w.heap.size w w' := by
  have hl := hR.length
  have HL := Lib.hid hl; clear hl
  have hs := hR.small
  have HR := Lib.hid hR; clear hR
  have eg := hf.eg
  have HF := Lib.hid hf.gives; clear hf
  generalize hg : idxGo p 0 xs = R
  have HG := Lib.hid hg; clear hg
  go_enter Try.func98, Try.ntmps98
  go_wp2
  go_loopw [8] (fun i wr => ∃ k : Nat, k ≤ n ∧ i = .int .i64 k ∧ idxGo p k (xs.drop k) = R ∧ Below w.heap.size w wr) (fun i _ => n - (intOf i).toNat)
  case atStart => exact ⟨0, Nat.zero_le _, rfl, HG.out, Below.refl _ _⟩
  case round =>
    obtain ⟨k, hk, rfl, he, hB⟩ := hrel
    have HE := Lib.hid he; clear he
    by_cases hlt : k < n
    · obtain ⟨x, b, off, rfl, hb, h1, h2, HD⟩ := (HR.out.ext hB).next2 k hlt
      have hcall := HF.out x wr hB
      have HB := Lib.hid hB; clear hB
      have HE2 : Hid ((if p x = true then (k : Int) else idxGo p (k + 1) (xs.drop (k + 1))) = R) := by have := HE.out; rw [HD.out] at this; exact this
      cases hq : p x
      · rw [hq] at hcall HE2
        go_wp2_with (go_at_fn g; refine hcall.mono ?_; rintro e w1 ⟨rfl, hb1⟩)
        go_roundw
        case rel => exact ⟨k + 1, by omega, by go_num, by simpa using HE2.out, HB.out.trans (hb1.mono HB.out.size)⟩
        case measure => simp [intOf]; omega
      · rw [hq] at hcall HE2
        have : R = k := by simpa using HE2.out.symm
        subst this
        go_wp2_with (go_at_fn g; refine hcall.mono ?_; rintro e w1 ⟨rfl, hb1⟩)
        go_ret
        exact ⟨rfl, HB.out.trans (hb1.mono HB.out.size)⟩
    · have : R = -1 := by rw [← HE.out, drop_end HL.out (by omega)]; rfl
      subst this
      go_wp2
      go_ret
      exact ⟨rfl, hB⟩
theorem containsFunc2 (g : Nat) (lb : Array Value) (p : P2 → Bool) (a : Option Addr) (n c : Nat) (xs : List P2) (w : World) (hR : Rd w a n 2 (xs.map enc2)) (hf : PredOn g lb val2 p w) :
    Calls Try.prog 65 #[.slice a n c, .func (.func g) #[] lb] w fun e w' => e = .returned (.bool (xs.any p)) ∧ Below w.heap.size w w' := by
  have HR := Lib.hid hR; clear hR
  have HF := Lib.hid hf; clear hf
  go_enter Try.func65, Try.ntmps65
  go_wp2_with (go_at_call 98; refine (indexFunc2 _ _ _ _ _ _ _ _ HR.out HF.out).mono ?_; rintro e w1 ⟨rfl, hb1⟩)
  go_ret
  exact ⟨ret_bool (idxGo_any p xs 0), by (repeat' (first | (with_reducible exact Below.refl _ _) | (with_reducible assumption) | (with_reducible refine Below.alloc ?_ ?_ _) | (with_reducible refine Below.drew ?_) | (with_reducible refine Below.draws ?_ _) | (with_reducible refine Below.setCell ?_ ?_ _) | (refine Below.then ?_ (by with_reducible assumption)) | go_size))⟩
theorem indexFuncS (g : Nat) (lb : Array Value) {α : Type} (val : α → Value) (p : α → Bool) (a : Option Addr) (n c : Nat) (xs : List α) (w : World) (hR : Rd w a n 1 (xs.map fun x => [val x])) (hf : PredOn g lb val p w) :
    Calls Try.prog 96 #[.slice a n c, .func (.func g) #[] lb] w fun e w' => e = .returned (.int .i64 (idxGo p 0 xs)) ∧ Below w.heap.size w w' := by
  have hl := hR.length
  have HL := Lib.hid hl; clear hl
  have hs := hR.small
  have HR := Lib.hid hR; clear hR
  have eg := hf.eg
  have HF := Lib.hid hf.gives; clear hf
  generalize hg : idxGo p 0 xs = R
  have HG := Lib.hid hg; clear hg
  go_enter Try.func96, Try.ntmps96
  go_wp2
  go_loopw [8] (fun i wr => ∃ k : Nat, k ≤ n ∧ i = .int .i64 k ∧ idxGo p k (xs.drop k) = R ∧ Below w.heap.size w wr) (fun i _ => n - (intOf i).toNat)
  case atStart => exact ⟨0, Nat.zero_le _, rfl, HG.out, Below.refl _ _⟩
  case round =>
    obtain ⟨k, hk, rfl, he, hB⟩ := hrel
    have HE := Lib.hid he; clear he
    by_cases hlt : k < n
    · obtain ⟨x, b, off, rfl, hb, h1, HD⟩ := (HR.out.ext hB).nextV k hlt
      have hcall := HF.out x wr hB
      have HB := Lib.hid hB; clear hB
      have HE2 : Hid ((if p x = true then (k : Int) else idxGo p (k + 1) (xs.drop (k + 1))) = R) := by have := HE.out; rw [HD.out] at this; exact this
      cases hq : p x
      · rw [hq] at hcall HE2
        go_wp2_with (go_at_fn g; refine hcall.mono ?_; rintro e w1 ⟨rfl, hb1⟩)
        go_roundw
        case rel => exact ⟨k + 1, by omega, by go_num, by simpa using HE2.out, HB.out.trans (hb1.mono HB.out.size)⟩
        case measure => simp [intOf]; omega
      · rw [hq] at hcall HE2
        have : R = k := by simpa using HE2.out.symm
        subst this
        go_wp2_with (go_at_fn g; refine hcall.mono ?_; rintro e w1 ⟨rfl, hb1⟩)
        go_ret
        exact ⟨rfl, HB.out.trans (hb1.mono HB.out.size)⟩
    · have : R = -1 := by rw [← HE.out, drop_end HL.out (by omega)]; rfl
      subst this
      go_wp2
      go_ret
      exact ⟨rfl, hB⟩
theorem containsFuncS (g : Nat) (lb : Array Value) {α : Type} (val : α → Value) (p : α → Bool) (a : Option Addr) (n c : Nat) (xs : List α) (w : World) (hR : Rd w a n 1 (xs.map fun x => [val x])) (hf : PredOn g lb val p w) :
    Calls Try.prog 61 #[.slice a n c, .func (.func g) #[] lb] w fun e w' => e = .returned (.bool (xs.any p)) ∧ Below w.heap.size w w' := by
  have HR := Lib.hid hR; clear hR
  have HF := Lib.hid hf; clear hf
  go_enter Try.func61, Try.ntmps61
  go_wp2_with (go_at_call 96; refine (indexFuncS _ _ _ _ _ _ _ _ _ HR.out HF.out).mono ?_; rintro e w1 ⟨rfl, hb1⟩)
  go_ret
  exact ⟨ret_bool (idxGo_any p xs 0), by (repeat' (first | (with_reducible exact Below.refl _ _) | (with_reducible assumption) | (with_reducible refine Below.alloc ?_ ?_ _) | (with_reducible refine Below.drew ?_) | (with_reducible refine Below.draws ?_ _) | (with_reducible refine Below.setCell ?_ ?_ _) | (refine Below.then ?_ (by with_reducible assumption)) | go_size))⟩
end Go.Proofs.Ytlhnhmimhpcoaaa
namespace Go.Proofs.Ytlhnhmimhpcoaaa
open Go.RowKit
set_option linter.unusedSimpArgs false
set_option linter.unusedVariables false
/-- a list that lies in w -/
structure Hd (w : World) where
  a : Option Addr
  n : Nat
  c : Nat
  xs : List P2
  rd : Rd w a n 2 (xs.map enc2)
def Hd.val {w : World} (h : Hd w) : Value := .slice h.a h.n h.c
def farB (x : P2) : Bool := !inB x.1 0 1000000 || !inB x.2 0 1000000
theorem far_any (x : P2) (w : World) : Calls Try.prog 114 #[val2 x] w fun e w' => e = .returned (.bool (farB x)) ∧ Below w.heap.size w w' := by
  obtain ⟨x1, x2⟩ := x
  go_enter Try.func114, Try.ntmps114
  go_wp2_with (go_at_call 104; refine (within_any _ _ _ _).mono ?_; rintro e w1 ⟨rfl, rfl⟩)
  all_goals (go_ret; exact ⟨ret_bool (by simp [farB, *]), by (repeat' (first | (with_reducible exact Below.refl _ _) | (with_reducible assumption) | (with_reducible refine Below.alloc ?_ ?_ _) | (with_reducible refine Below.drew ?_) | (with_reducible refine Below.draws ?_ _) | (with_reducible refine Below.setCell ?_ ?_ _) | (refine Below.then ?_ (by with_reducible assumption)) | go_size))⟩)
theorem far_pred (w : World) : PredOn 114 #[] val2 farB w :=
  ⟨fun args w => by kernel_rfl, fun x w' _ => far_any x w'⟩
theorem long_any {w : World} (h : Hd w) (w' : World) : Calls Try.prog 115 #[h.val] w' fun e w'' => e = .returned (.bool (decide (40 < h.xs.length))) ∧ Below w'.heap.size w' w'' := by
  obtain ⟨a, n, c, xs, rd⟩ := h
  have hl := rd.length
  have hs := rd.small
  show Calls Try.prog 115 #[.slice a n c] w' fun e w'' => e = .returned (.bool (decide (40 < xs.length))) ∧ Below w'.heap.size w' w''
  rw [hl]
  clear hl rd
  go_enter Try.func115, Try.ntmps115
  go_wp2
  go_ret
  exact ⟨ret_bool (by rw [decide_eq_decide]; omega), Below.refl _ _⟩
theorem long_pred (w : World) : PredOn 115 #[] (Hd.val (w := w)) (fun h => decide (40 < h.xs.length)) w :=
  ⟨fun args w => by kernel_rfl, fun x w' _ => long_any x w'⟩
theorem farList_any {w : World} (h : Hd w) (w' : World) (hb : Below w.heap.size w w') (p : Nat) (hp : p < w.heap.size) (hc : w.cell? ⟨p, 0, none⟩ = some (.func (.func 114) #[] #[])) :
    Calls Try.prog 116 #[h.val, .pointer (some ⟨p, 0, none⟩)] w' fun e w'' => e = .returned (.bool (h.xs.any farB)) ∧ Below w'.heap.size w' w'' := by
  obtain ⟨a, n, c, xs, rd⟩ := h
  have hc' := (hb.cell (p := ⟨p, 0, none⟩) hp).trans hc
  have RD := Lib.hid (rd.ext hb)
  show Calls Try.prog 116 #[.slice a n c, .pointer (some ⟨p, 0, none⟩)] w' fun e w'' => e = .returned (.bool (xs.any farB)) ∧ Below w'.heap.size w' w''
  clear rd hb hc
  go_enter Try.func116, Try.ntmps116
  go_wp2_with (go_at_call 65; refine (containsFunc2 _ _ _ _ _ _ _ _ RD.out (far_pred _)).mono ?_; rintro e w1 ⟨rfl, hb1⟩)
  go_ret
  exact ⟨rfl, hb1⟩
theorem farList_pred (w : World) (p : Nat) (hp : p < w.heap.size) (hc : w.cell? ⟨p, 0, none⟩ = some (.func (.func 114) #[] #[])) : PredOn 116 #[.pointer (some ⟨p, 0, none⟩)] (Hd.val (w := w)) (fun h => h.xs.any farB) w :=
  ⟨fun args w => by kernel_rfl, fun x w' hb => farList_any x w' hb p hp hc⟩
def Hd.ext {w w' : World} (h : Hd w) (hb : Below w.heap.size w w') : Hd w' := ⟨h.a, h.n, h.c, h.xs, h.rd.ext hb⟩
/-- the error of lists -/
def checkE (ls : List (List P2)) : Int := if ls.any (fun l => l.any farB) then 1 else if ls.any (fun l => decide (40 < l.length)) then 2 else 0
theorem Hd.map_ext {w w' : World} (hb : Below w.heap.size w w') (hs : List (Hd w)) {a : Option Addr} {n : Nat} (h : Rd w a n 1 (hs.map fun h => [h.val])) : Rd w' a n 1 ((hs.map (·.ext hb)).map fun h => [h.val]) := by
  have e : (hs.map (·.ext hb)).map (fun h => [h.val]) = hs.map fun h => [h.val] := by rw [List.map_map]; rfl
  rw [e]; exact h.ext hb
theorem check_any (a : Option Addr) (n c : Nat) (w : World) (hs : List (Hd w)) (hR : Rd w a n 1 (hs.map fun h => [h.val])) :
    Calls Try.prog 89 #[.slice a n c] w fun e w' => e = .returned (.int .i64 (checkE (hs.map Hd.xs))) ∧ Below w.heap.size w w' := by
  obtain ⟨W, hW⟩ : ∃ W, W = w.alloc (.cells #[.func (.func 114) #[] #[]] 97) := ⟨_, rfl⟩
  have hbW : Below w.heap.size w W := by rw [hW]; (repeat' (first | (with_reducible exact Below.refl _ _) | (with_reducible assumption) | (with_reducible refine Below.alloc ?_ ?_ _) | (with_reducible refine Below.drew ?_) | (with_reducible refine Below.draws ?_ _) | (with_reducible refine Below.setCell ?_ ?_ _) | (refine Below.then ?_ (by with_reducible assumption)) | go_size))
  have hcW : W.cell? ⟨w.heap.size, 0, none⟩ = some (.func (.func 114) #[] #[]) := by rw [hW]; simp [go_sem]
  have hsW : w.heap.size < W.heap.size := by rw [hW]; simp
  have c1 := containsFuncS 116 #[.pointer (some ⟨w.heap.size, 0, none⟩)] Hd.val (fun h => h.xs.any farB) a n c (hs.map (·.ext hbW)) W (Hd.map_ext hbW hs hR) (farList_pred W w.heap.size hsW hcW)
  have c2 : ∀ w1, Below w.heap.size w w1 → Calls Try.prog 61 #[.slice a n c, .func (.func 115) #[] #[]] w1 fun e w' => e = .returned (.bool ((hs.map Hd.xs).any fun l => decide (40 < l.length))) ∧ Below w1.heap.size w1 w' := fun w1 hb => by
    have := containsFuncS 115 #[] Hd.val (fun h => decide (40 < h.xs.length)) a n c (hs.map (·.ext hb)) w1 (Hd.map_ext hb hs hR) (long_pred w1)
    rw [List.any_map] at this ⊢
    exact this
  have e1 : (hs.map (·.ext hbW)).any (fun h => h.xs.any farB) = (hs.map Hd.xs).any fun l => l.any farB := by rw [List.any_map, List.any_map]; rfl
  rw [e1] at c1
  unfold checkE
  generalize (hs.map Hd.xs).any (fun l => l.any farB) = b1 at *
  generalize (hs.map Hd.xs).any (fun l => decide (40 < l.length)) = b2 at *
  subst hW
  have C1 := Lib.hid c1; have C2 := Lib.hid c2; clear c1 c2 e1 hcW hR
  have HBW := Lib.hid hbW; clear hbW
  cases b1 <;> cases b2
  all_goals
    go_enter Try.func89, Try.ntmps89
    go_wp2_with (first | (go_at_call 61; (with_reducible refine C1.out.mono ?_); rintro e w1 ⟨rfl, hb1⟩; have HB1 := Lib.hid (HBW.out.trans (hb1.mono (Nat.le_of_lt hsW))); clear hb1) | (go_at_call 61; refine (C2.out _ HB1.out).mono ?_; rintro e w2 ⟨rfl, hb2⟩))
    go_ret
    first | exact ⟨rfl, HB1.out⟩ | exact ⟨rfl, Below.then HB1.out hb2⟩
def listE (l : List P2) : Int := if l.any farB then 1 else if 40 < l.length then 2 else 0
theorem check_one (a : Option Addr) (n c : Nat) (w : World) (xs : List P2) (hR : Rd w a n 2 (xs.map enc2)) :
    Calls Try.prog 89 #[.slice (some ⟨w.heap.size, 0, none⟩) 1 1] (w.alloc (.cells #[.slice a n c] 27)) fun e w' => e = .returned (.int .i64 (listE xs)) ∧ Below w.heap.size w w' := by
  have hbW : Below w.heap.size w (w.alloc (.cells #[.slice a n c] 27)) := by (repeat' (first | (with_reducible exact Below.refl _ _) | (with_reducible assumption) | (with_reducible refine Below.alloc ?_ ?_ _) | (with_reducible refine Below.drew ?_) | (with_reducible refine Below.draws ?_ _) | (with_reducible refine Below.setCell ?_ ?_ _) | (refine Below.then ?_ (by with_reducible assumption)) | go_size))
  refine (check_any (some ⟨w.heap.size, 0, none⟩) 1 1 (w.alloc (.cells #[.slice a n c] 27)) [⟨a, n, c, xs, hR.ext hbW⟩] ⟨rfl, by omega, fun _ => ⟨w.heap.size, 0, rfl, by simp, fun i hi j hj => ?_⟩⟩).mono ?_
  · obtain rfl : i = 0 := by simpa using hi
    obtain rfl : j = 0 := by omega
    simp [Hd.val]
  · rintro e w' ⟨rfl, hb⟩
    refine ⟨ret_int ?_, Below.then hbW hb⟩
    show checkE [xs] = listE xs
    unfold checkE listE
    simp only [List.any_cons, List.any_nil, Bool.or_false, decide_eq_true_eq]
theorem listed_any (a : Option Addr) (n c : Nat) (w : World) (xs : List P2) (hR : Rd w a n 2 (xs.map enc2)) :
    Calls Try.prog 91 #[.slice a n c] w fun e w' => e = .returned (.int .i64 (listE xs)) ∧ Below w.heap.size w w' := by
  have HL := Lib.hid hR.length
  have hs := hR.small
  have HR := Lib.hid hR; clear hR
  generalize hg : xs.any farB = R
  have HG := Lib.hid hg
  generalize hq : listE xs = E
  rw [listE, hg, HL.out] at hq
  have HQ := Lib.hid hq; clear hg hq
  go_enter Try.func91, Try.ntmps91
  go_wp2
  go_loopw [3] (fun i wr => ∃ k : Nat, k ≤ n ∧ i = .int .i64 k ∧ (xs.drop k).any farB = R ∧ Below w.heap.size w wr) (fun i _ => n - (intOf i).toNat)
  case atStart => exact ⟨0, Nat.zero_le _, rfl, HG.out, Below.refl _ _⟩
  case round =>
    obtain ⟨k, hk, rfl, he, hB⟩ := hrel
    have HE := Lib.hid he; clear he
    by_cases hlt : k < n
    · obtain ⟨⟨x1, x2⟩, b, off, rfl, hb, h1, h2, HD⟩ := (HR.out.ext hB).next2 k hlt
      simp only [] at h1 h2
      have HB := Lib.hid hB; clear hB
      have HE2 : Hid ((farB (x1, x2) || (xs.drop (k + 1)).any farB) = R) := by have := HE.out; rw [HD.out] at this; exact this
      go_wp2_with (go_at_call 105; refine (in_any _ _ _ _).mono ?_; rintro e w1 ⟨rfl, rfl⟩)
      all_goals first
        | (have hr : R = true := by rw [← HE2.out]; simp [farB, *]
           have hE : E = 1 := by rw [← HQ.out, hr]; rfl
           subst hE
           go_ret
           exact ⟨rfl, HB.out⟩)
        | exact ⟨⟨k + 1, by omega, by go_num, by have := HE2.out; simpa [farB, *] using this, HB.out⟩, by simp [intOf]; omega⟩
    · have : R = false := by rw [← HE.out, drop_end HL.out (by omega)]; rfl
      subst this
      by_cases h40 : 40 < n
      all_goals
        have : E = _ := HQ.out.symm
        simp only [h40, if_true, if_false, Bool.false_eq_true] at this
        subst this
        go_wp2
        go_ret
        exact ⟨rfl, hB⟩
end Go.Proofs.Ytlhnhmimhpcoaaa
namespace Go.Proofs.Ytlhnhmimhpcoaaa
open Go.RowKit
set_option linter.unusedSimpArgs false
set_option linter.unusedVariables false
def allowGo (g j : Int) : Int → List P2 → Bool
  | _, [] => true
  | least, x :: xs => if x.1 < least ∨ j < x.2 then false else allowGo g j (x.1 + g) xs
def allowR (f g j : Int) (xs : List P2) : Bool × Int := if vpat f g j then (if listE xs = 0 then (allowGo g j f xs, 0) else (false, listE xs)) else (false, 1)
theorem listE_zero {xs : List P2} (h : listE xs = 0) : xs.any farB = false ∧ xs.length ≤ 40 := by
  unfold listE at h
  split at h
  · omega
  · split at h
    · omega
    · rename_i h1 h2; exact ⟨by simpa using h1, by omega⟩
theorem farB_false {x : P2} (h : farB x = false) : (0 ≤ x.1 ∧ x.1 ≤ 1000000) ∧ (0 ≤ x.2 ∧ x.2 ≤ 1000000) := by
  simp only [farB, Bool.or_eq_false_iff, Bool.not_eq_false', inB_iff] at h; exact h
theorem allowed_any (f g j : Int) (a : Option Addr) (n c : Nat) (w : World) (xs : List P2) (hR : Rd w a n 2 (xs.map enc2)) :
    Calls Try.prog 52 #[patV f g j, .slice a n c] w fun e w' => e = rBP (allowR f g j xs) ∧ Below w.heap.size w w' := by
  have HL := Lib.hid hR.length
  have hs := hR.small
  have HR := Lib.hid hR; clear hR
  by_cases hv : vpat f g j = true
  · rw [allowR, if_pos hv]
    by_cases he : listE xs = 0
    · rw [if_pos he]
      obtain ⟨h1, h2⟩ := listE_zero he
      obtain ⟨k1, k2, k3⟩ := vpat_iff.1 hv
      generalize hq : allowGo g j f xs = R
      have HQ := Lib.hid hq
      have HF := Lib.hid h1
      clear hq h1 h2
      go_enter Try.func52, Try.ntmps52
      go_wp2_with (first | (go_at_call 88; refine (valid_any _ _ _ _).mono ?_; rintro e w1 ⟨rfl, hb1⟩; obtain ⟨hc1, hf1, hz1, hr1⟩ := bfacts hb1; (try simp only [World.size_alloc, World.size_setCell, World.size_drew, World.size_drewN] at hz1 hr1); (try have hw0 : w.heap.size < w1.heap.size := by omega); (try have hw1 : w.heap.size + 1 < w1.heap.size := by omega); (try have hw2 : w.heap.size + 1 + 1 < w1.heap.size := by omega)) | (go_at_call 89; refine (check_one _ _ _ _ _ ((HR.out.ext (show Below w.heap.size w (w.alloc _) by (repeat' (first | (with_reducible exact Below.refl _ _) | (with_reducible assumption) | (with_reducible refine Below.alloc ?_ ?_ _) | (with_reducible refine Below.drew ?_) | (with_reducible refine Below.draws ?_ _) | (with_reducible refine Below.setCell ?_ ?_ _) | (refine Below.then ?_ (by with_reducible assumption)) | go_size)))).ext hb1)).mono ?_; rintro e w1 ⟨rfl, hb1⟩; obtain ⟨hc1, hf1, hz1, hr1⟩ := bfacts hb1; (try simp only [World.size_alloc, World.size_setCell, World.size_drew, World.size_drewN] at hz1 hr1); (try have hw0 : w.heap.size < w1.heap.size := by omega); (try have hw1 : w.heap.size + 1 < w1.heap.size := by omega); (try have hw2 : w.heap.size + 1 + 1 < w1.heap.size := by omega)))
      go_loopw [7, 23] (fun q i wr => ∃ (k : Nat) (least : Int), k ≤ n ∧ i = .int .i64 k ∧ q = .int .i64 least ∧ allowGo g j least (xs.drop k) = R ∧ (xs.drop k).any farB = false ∧ wr.cell? ⟨w.heap.size, 1, none⟩ = some (.int .i64 g) ∧ wr.cell? ⟨w.heap.size, 2, none⟩ = some (.int .i64 j) ∧ w.heap.size < wr.heap.size ∧ Below w.heap.size w wr) (fun _ i _ => n - (intOf i).toNat)
      case atStart => exact ⟨0, f, Nat.zero_le _, rfl, rfl, HQ.out, HF.out, by simp [go_sem, *], by simp [go_sem, *], by omega, by (repeat' (first | (with_reducible exact Below.refl _ _) | (with_reducible assumption) | (with_reducible refine Below.alloc ?_ ?_ _) | (with_reducible refine Below.drew ?_) | (with_reducible refine Below.draws ?_ _) | (with_reducible refine Below.setCell ?_ ?_ _) | (refine Below.then ?_ (by with_reducible assumption)) | go_size))⟩
      case round =>
        obtain ⟨k, least, hk, rfl, rfl, he, hf, hc1, hc2, hz, hB⟩ := hrel
        have HE := Lib.hid he; have HF2 := Lib.hid hf; clear he hf
        by_cases hlt : k < n
        · obtain ⟨⟨x1, x2⟩, b, off, rfl, hb, h1, h2, HD⟩ := (HR.out.ext hB).next2 k hlt
          simp only [] at h1 h2
          have HB := Lib.hid hB; clear hB
          have hf3 : farB (x1, x2) = false ∧ (xs.drop (k + 1)).any farB = false := by have := HF2.out; rw [HD.out] at this; simpa using this
          obtain ⟨⟨b1, b2⟩, b3, b4⟩ := farB_false hf3.1
          simp only [] at b1 b2 b3 b4
          have HF3 := Lib.hid hf3.2; clear hf3
          have HE2 : Hid ((if x1 < least ∨ j < x2 then false else allowGo g j (x1 + g) (xs.drop (k + 1))) = R) := by have := HE.out; rw [HD.out] at this; exact this
          by_cases ht : x1 < least ∨ j < x2
          · have hr : R = false := by rw [← HE2.out, if_pos ht]
            subst hr
            by_cases ht1 : x1 < least
            · go_wp2
              go_ret2
              exact ⟨rfl, HB.out.trans (by (repeat' (first | (with_reducible exact Below.refl _ _) | (with_reducible assumption) | (with_reducible refine Below.alloc ?_ ?_ _) | (with_reducible refine Below.drew ?_) | (with_reducible refine Below.draws ?_ _) | (with_reducible refine Below.setCell ?_ ?_ _) | (refine Below.then ?_ (by with_reducible assumption)) | go_size)))⟩
            · have ht2 : j < x2 := by omega
              go_wp2
              go_ret2
              exact ⟨rfl, HB.out.trans (by (repeat' (first | (with_reducible exact Below.refl _ _) | (with_reducible assumption) | (with_reducible refine Below.alloc ?_ ?_ _) | (with_reducible refine Below.drew ?_) | (with_reducible refine Below.draws ?_ _) | (with_reducible refine Below.setCell ?_ ?_ _) | (refine Below.then ?_ (by with_reducible assumption)) | go_size)))⟩
          · have HE3 : Hid (allowGo g j (x1 + g) (xs.drop (k + 1)) = R) := by have := HE2.out; rwa [if_neg ht] at this
            have t1 : ¬ x1 < least := fun h => ht (.inl h)
            have t2 : ¬ j < x2 := fun h => ht (.inr h)
            clear ht
            go_wp2
            go_roundw
            case rel => exact ⟨k + 1, x1 + g, by omega, by go_num, rfl, HE3.out, HF3.out, by simp [go_sem, *], by simp [go_sem, *], by simp; omega, HB.out.trans (by (repeat' (first | (with_reducible exact Below.refl _ _) | (with_reducible assumption) | (with_reducible refine Below.alloc ?_ ?_ _) | (with_reducible refine Below.drew ?_) | (with_reducible refine Below.draws ?_ _) | (with_reducible refine Below.setCell ?_ ?_ _) | (refine Below.then ?_ (by with_reducible assumption)) | go_size)))⟩
            case measure => simp [intOf]; omega
        · have hr : R = true := by rw [← HE.out, drop_end HL.out (by omega)]; rfl
          subst hr
          go_wp2
          go_ret2
          exact ⟨rfl, hB⟩
    · rw [if_neg he]
      have he' : (listE xs != 0) = true := by simpa using he
      go_enter Try.func52, Try.ntmps52
      go_wp2_with (first | (go_at_call 88; refine (valid_any _ _ _ _).mono ?_; rintro e w1 ⟨rfl, hb1⟩; obtain ⟨hc1, hf1, hz1, hr1⟩ := bfacts hb1; (try simp only [World.size_alloc, World.size_setCell, World.size_drew, World.size_drewN] at hz1 hr1); (try have hw0 : w.heap.size < w1.heap.size := by omega); (try have hw1 : w.heap.size + 1 < w1.heap.size := by omega); (try have hw2 : w.heap.size + 1 + 1 < w1.heap.size := by omega)) | (go_at_call 89; refine (check_one _ _ _ _ _ ((HR.out.ext (show Below w.heap.size w (w.alloc _) by (repeat' (first | (with_reducible exact Below.refl _ _) | (with_reducible assumption) | (with_reducible refine Below.alloc ?_ ?_ _) | (with_reducible refine Below.drew ?_) | (with_reducible refine Below.draws ?_ _) | (with_reducible refine Below.setCell ?_ ?_ _) | (refine Below.then ?_ (by with_reducible assumption)) | go_size)))).ext hb1)).mono ?_; rintro e w1 ⟨rfl, hb1⟩; obtain ⟨hc1, hf1, hz1, hr1⟩ := bfacts hb1; (try simp only [World.size_alloc, World.size_setCell, World.size_drew, World.size_drewN] at hz1 hr1); (try have hw0 : w.heap.size < w1.heap.size := by omega); (try have hw1 : w.heap.size + 1 < w1.heap.size := by omega); (try have hw2 : w.heap.size + 1 + 1 < w1.heap.size := by omega)))
      go_ret2
      exact ⟨rfl, by (repeat' (first | (with_reducible exact Below.refl _ _) | (with_reducible assumption) | (with_reducible refine Below.alloc ?_ ?_ _) | (with_reducible refine Below.drew ?_) | (with_reducible refine Below.draws ?_ _) | (with_reducible refine Below.setCell ?_ ?_ _) | (refine Below.then ?_ (by with_reducible assumption)) | go_size))⟩
  · rw [allowR, if_neg hv]
    go_enter Try.func52, Try.ntmps52
    go_wp2_with (first | (go_at_call 88; refine (valid_any _ _ _ _).mono ?_; rintro e w1 ⟨rfl, hb1⟩; obtain ⟨hc1, hf1, hz1, hr1⟩ := bfacts hb1; (try simp only [World.size_alloc, World.size_setCell, World.size_drew, World.size_drewN] at hz1 hr1); (try have hw0 : w.heap.size < w1.heap.size := by omega); (try have hw1 : w.heap.size + 1 < w1.heap.size := by omega); (try have hw2 : w.heap.size + 1 + 1 < w1.heap.size := by omega)) | (go_at_call 89; refine (check_one _ _ _ _ _ ((HR.out.ext (show Below w.heap.size w (w.alloc _) by (repeat' (first | (with_reducible exact Below.refl _ _) | (with_reducible assumption) | (with_reducible refine Below.alloc ?_ ?_ _) | (with_reducible refine Below.drew ?_) | (with_reducible refine Below.draws ?_ _) | (with_reducible refine Below.setCell ?_ ?_ _) | (refine Below.then ?_ (by with_reducible assumption)) | go_size)))).ext hb1)).mono ?_; rintro e w1 ⟨rfl, hb1⟩; obtain ⟨hc1, hf1, hz1, hr1⟩ := bfacts hb1; (try simp only [World.size_alloc, World.size_setCell, World.size_drew, World.size_drewN] at hz1 hr1); (try have hw0 : w.heap.size < w1.heap.size := by omega); (try have hw1 : w.heap.size + 1 < w1.heap.size := by omega); (try have hw2 : w.heap.size + 1 + 1 < w1.heap.size := by omega)))
    go_ret2
    exact ⟨rfl, by (repeat' (first | (with_reducible exact Below.refl _ _) | (with_reducible assumption) | (with_reducible refine Below.alloc ?_ ?_ _) | (with_reducible refine Below.drew ?_) | (with_reducible refine Below.draws ?_ _) | (with_reducible refine Below.setCell ?_ ?_ _) | (refine Below.then ?_ (by with_reducible assumption)) | go_size))⟩
theorem rallowed_any (f g j : Int) (a : Option Addr) (n c : Nat) (w : World) (xs : List P2) (hR : Rd w a n 2 (xs.map enc2)) :
    Calls Try.prog 54 #[patV f g j, .slice a n c] w fun e w' => e = rBP (allowR f g j xs) ∧ Below w.heap.size w w' := by
  have HL := Lib.hid hR.length
  have hs := hR.small
  have HR := Lib.hid hR; clear hR
  by_cases hv : vpat f g j = true
  · rw [allowR, if_pos hv]
    by_cases he : listE xs = 0
    · rw [if_pos he]
      obtain ⟨h1, h2⟩ := listE_zero he
      obtain ⟨k1, k2, k3⟩ := vpat_iff.1 hv
      generalize hq : allowGo g j f xs = R
      have HQ := Lib.hid hq
      have HF := Lib.hid h1
      clear hq h1 h2
      go_enter Try.func54, Try.ntmps54
      go_wp2_with (first | (go_at_call 86; refine (rvalid_any _ _ _ _).mono ?_; rintro e w1 ⟨rfl, hb1⟩; obtain ⟨hc1, hf1, hz1, hr1⟩ := bfacts hb1; (try simp only [World.size_alloc, World.size_setCell, World.size_drew, World.size_drewN] at hz1 hr1); (try have hw0 : w.heap.size < w1.heap.size := by omega); (try have hw1 : w.heap.size + 1 < w1.heap.size := by omega); (try have hw2 : w.heap.size + 1 + 1 < w1.heap.size := by omega)) | (go_at_call 91; refine (listed_any _ _ _ _ _ ((HR.out.ext (show Below w.heap.size w (w.alloc _) by (repeat' (first | (with_reducible exact Below.refl _ _) | (with_reducible assumption) | (with_reducible refine Below.alloc ?_ ?_ _) | (with_reducible refine Below.drew ?_) | (with_reducible refine Below.draws ?_ _) | (with_reducible refine Below.setCell ?_ ?_ _) | (refine Below.then ?_ (by with_reducible assumption)) | go_size)))).ext hb1)).mono ?_; rintro e w1 ⟨rfl, hb1⟩; obtain ⟨hc1, hf1, hz1, hr1⟩ := bfacts hb1; (try simp only [World.size_alloc, World.size_setCell, World.size_drew, World.size_drewN] at hz1 hr1); (try have hw0 : w.heap.size < w1.heap.size := by omega); (try have hw1 : w.heap.size + 1 < w1.heap.size := by omega); (try have hw2 : w.heap.size + 1 + 1 < w1.heap.size := by omega)))
      go_loopw [7] (fun i wr => ∃ (k : Nat) (least : Int), k ≤ n ∧ i = .int .i64 k ∧ f ≤ least ∧ (k = 0 ∧ least = f ∨ 0 < k ∧ ∃ y : P2, least = y.1 + g ∧ (0 ≤ y.1 ∧ y.1 ≤ 1000000) ∧ xs.drop (k - 1) = y :: xs.drop k) ∧ allowGo g j least (xs.drop k) = R ∧ (xs.drop k).any farB = false ∧ wr.cell? ⟨w.heap.size, 0, none⟩ = some (.int .i64 f) ∧ wr.cell? ⟨w.heap.size, 1, none⟩ = some (.int .i64 g) ∧ wr.cell? ⟨w.heap.size, 2, none⟩ = some (.int .i64 j) ∧ w.heap.size < wr.heap.size ∧ Below w.heap.size w wr) (fun i _ => n - (intOf i).toNat)
      case atStart => exact ⟨0, f, Nat.zero_le _, rfl, Int.le_refl _, .inl ⟨rfl, rfl⟩, HQ.out, HF.out, by simp [go_sem, *], by simp [go_sem, *], by simp [go_sem, *], by omega, by (repeat' (first | (with_reducible exact Below.refl _ _) | (with_reducible assumption) | (with_reducible refine Below.alloc ?_ ?_ _) | (with_reducible refine Below.drew ?_) | (with_reducible refine Below.draws ?_ _) | (with_reducible refine Below.setCell ?_ ?_ _) | (refine Below.then ?_ (by with_reducible assumption)) | go_size))⟩
      case round =>
        obtain ⟨k, least, hk, rfl, hfl, hpr, he, hf, hc0, hc1, hc2, hz, hB⟩ := hrel
        have HE := Lib.hid he; have HF2 := Lib.hid hf; have HP := Lib.hid hpr; clear he hf hpr
        by_cases hlt : k < n
        · obtain ⟨⟨x1, x2⟩, b, off, rfl, hb, h1, h2, HD⟩ := (HR.out.ext hB).next2 k hlt
          simp only [] at h1 h2
          have hRr := Lib.hid (HR.out.ext hB)
          have HB := Lib.hid hB; clear hB
          have hf3 : farB (x1, x2) = false ∧ (xs.drop (k + 1)).any farB = false := by have := HF2.out; rw [HD.out] at this; simpa using this
          obtain ⟨⟨b1, b2⟩, b3, b4⟩ := farB_false hf3.1
          simp only [] at b1 b2 b3 b4
          have HF3 := Lib.hid hf3.2; clear hf3
          have HE2 : Hid ((if x1 < least ∨ j < x2 then false else allowGo g j (x1 + g) (xs.drop (k + 1))) = R) := by have := HE.out; rw [HD.out] at this; exact this
          have HN : Hid (0 < k + 1 ∧ ∃ y : P2, x1 + g = y.1 + g ∧ (0 ≤ y.1 ∧ y.1 ≤ 1000000) ∧ xs.drop (k + 1 - 1) = y :: xs.drop (k + 1)) := ⟨by omega, (x1, x2), rfl, ⟨b1, b2⟩, HD.out⟩
          rcases HP.out with ⟨rfl, rfl⟩ | ⟨hk0, ⟨y1, y2⟩, hly, ⟨hy1, hy2⟩, hdy⟩
          · simp only [Nat.zero_mul, Nat.add_zero] at h1 h2
            by_cases t1 : x1 < least
            · have hr : R = false := by rw [← HE2.out, if_pos (.inl t1)]
              subst hr
              clear HP HE2 HN
              go_wp2_with (refine wp_region_later_lit (by kernel_rfl) (by kernel_rfl) ?_; (repeat (go_big_quiet_step (fail))); refine wpQuiet_nil ?_; intro w1 hb1; obtain ⟨hc1, hf1, hz1, hr1⟩ := bfacts hb1; (try simp only [World.size_alloc, World.size_setCell, World.size_drew, World.size_drewN] at hz1 hr1); (try have hw0 : w.heap.size < w1.heap.size := by omega); (try have hw1 : w.heap.size + 1 < w1.heap.size := by omega); (try have hw2 : w.heap.size + 1 + 1 < w1.heap.size := by omega))
              go_ret2
              exact ⟨rfl, (by have hB' := HB.out; (repeat' (first | (with_reducible exact Below.refl _ _) | (with_reducible assumption) | (with_reducible refine Below.alloc ?_ ?_ _) | (with_reducible refine Below.drew ?_) | (with_reducible refine Below.draws ?_ _) | (with_reducible refine Below.setCell ?_ ?_ _) | (refine Below.then ?_ (by with_reducible assumption)) | go_size)))⟩
            · have d1 : decide (x1 < least) = false := by simpa using t1
              by_cases t2 : j < x2
              · have hr : R = false := by rw [← HE2.out, if_pos (.inr t2)]
                subst hr
                clear HP HE2 HN
                go_wp2_with (refine wp_region_later_lit (by kernel_rfl) (by kernel_rfl) ?_; (repeat (go_big_quiet_step (fail))); refine wpQuiet_nil ?_; intro w1 hb1; obtain ⟨hc1, hf1, hz1, hr1⟩ := bfacts hb1; (try simp only [World.size_alloc, World.size_setCell, World.size_drew, World.size_drewN] at hz1 hr1); (try have hw0 : w.heap.size < w1.heap.size := by omega); (try have hw1 : w.heap.size + 1 < w1.heap.size := by omega); (try have hw2 : w.heap.size + 1 + 1 < w1.heap.size := by omega))
                go_ret2
                exact ⟨rfl, (by have hB' := HB.out; (repeat' (first | (with_reducible exact Below.refl _ _) | (with_reducible assumption) | (with_reducible refine Below.alloc ?_ ?_ _) | (with_reducible refine Below.drew ?_) | (with_reducible refine Below.draws ?_ _) | (with_reducible refine Below.setCell ?_ ?_ _) | (refine Below.then ?_ (by with_reducible assumption)) | go_size)))⟩
              · have d2 : decide (j < x2) = false := by simpa using t2
                have HE3 : Hid (allowGo g j (x1 + g) (xs.drop (0 + 1)) = R) := by have := HE2.out; rwa [if_neg (by omega)] at this
                clear HE2
                go_wp2_with (refine wp_region_later_lit (by kernel_rfl) (by kernel_rfl) ?_; (repeat (go_big_quiet_step (fail))); refine wpQuiet_nil ?_; intro w1 hb1; obtain ⟨hc1, hf1, hz1, hr1⟩ := bfacts hb1; (try simp only [World.size_alloc, World.size_setCell, World.size_drew, World.size_drewN] at hz1 hr1); (try have hw0 : w.heap.size < w1.heap.size := by omega); (try have hw1 : w.heap.size + 1 < w1.heap.size := by omega); (try have hw2 : w.heap.size + 1 + 1 < w1.heap.size := by omega))
                go_roundw
                case rel => exact ⟨0 + 1, x1 + g, by omega, by go_num, by omega, .inr HN.out, HE3.out, HF3.out, by simp [go_sem, *], by simp [go_sem, *], by simp [go_sem, *], by omega, (by have hB' := HB.out; (repeat' (first | (with_reducible exact Below.refl _ _) | (with_reducible assumption) | (with_reducible refine Below.alloc ?_ ?_ _) | (with_reducible refine Below.drew ?_) | (with_reducible refine Below.draws ?_ _) | (with_reducible refine Below.setCell ?_ ?_ _) | (refine Below.then ?_ (by with_reducible assumption)) | go_size)))⟩
                case measure => simp [intOf]; omega
          · obtain ⟨⟨z1, z2⟩, b', off', hab, hb', g1, g2, HD'⟩ := hRr.out.next2 (k - 1) (by omega)
            obtain ⟨rfl, rfl⟩ : b = b' ∧ off = off' := by simpa using hab
            have hz1 : (y1, y2) = (z1, z2) ∧ True := by have := HD'.out; rw [hdy] at this; exact ⟨(List.cons.inj this).1, trivial⟩
            have hz2 : y1 = z1 := congrArg Prod.fst hz1.1
            subst hz2
            simp only [] at g1 g2 hly hy1 hy2
            clear hy1 hdy HD' hab
            have hkk : ((k : Int) - 1).toNat = k - 1 := by omega
            have hmax : max f (y1 + g) = y1 + g := by omega
            subst hly
            by_cases t1 : x1 < (y1 + g)
            · have hr : R = false := by rw [← HE2.out, if_pos (.inl t1)]
              subst hr
              clear HP HE2 HN
              go_wp2_with (refine wp_region_later_lit (by kernel_rfl) (by kernel_rfl) ?_; (repeat (go_big_quiet_step (fail))); refine wpQuiet_nil ?_; intro w1 hb1; obtain ⟨hc1, hf1, hz1, hr1⟩ := bfacts hb1; (try simp only [World.size_alloc, World.size_setCell, World.size_drew, World.size_drewN] at hz1 hr1); (try have hw0 : w.heap.size < w1.heap.size := by omega); (try have hw1 : w.heap.size + 1 < w1.heap.size := by omega); (try have hw2 : w.heap.size + 1 + 1 < w1.heap.size := by omega))
              go_ret2
              exact ⟨rfl, (by have hB' := HB.out; (repeat' (first | (with_reducible exact Below.refl _ _) | (with_reducible assumption) | (with_reducible refine Below.alloc ?_ ?_ _) | (with_reducible refine Below.drew ?_) | (with_reducible refine Below.draws ?_ _) | (with_reducible refine Below.setCell ?_ ?_ _) | (refine Below.then ?_ (by with_reducible assumption)) | go_size)))⟩
            · have d1 : decide (x1 < (y1 + g)) = false := by simpa using t1
              by_cases t2 : j < x2
              · have hr : R = false := by rw [← HE2.out, if_pos (.inr t2)]
                subst hr
                clear HP HE2 HN
                go_wp2_with (refine wp_region_later_lit (by kernel_rfl) (by kernel_rfl) ?_; (repeat (go_big_quiet_step (fail))); refine wpQuiet_nil ?_; intro w1 hb1; obtain ⟨hc1, hf1, hz1, hr1⟩ := bfacts hb1; (try simp only [World.size_alloc, World.size_setCell, World.size_drew, World.size_drewN] at hz1 hr1); (try have hw0 : w.heap.size < w1.heap.size := by omega); (try have hw1 : w.heap.size + 1 < w1.heap.size := by omega); (try have hw2 : w.heap.size + 1 + 1 < w1.heap.size := by omega))
                go_ret2
                exact ⟨rfl, (by have hB' := HB.out; (repeat' (first | (with_reducible exact Below.refl _ _) | (with_reducible assumption) | (with_reducible refine Below.alloc ?_ ?_ _) | (with_reducible refine Below.drew ?_) | (with_reducible refine Below.draws ?_ _) | (with_reducible refine Below.setCell ?_ ?_ _) | (refine Below.then ?_ (by with_reducible assumption)) | go_size)))⟩
              · have d2 : decide (j < x2) = false := by simpa using t2
                have HE3 : Hid (allowGo g j (x1 + g) (xs.drop (k + 1)) = R) := by have := HE2.out; rwa [if_neg (by omega)] at this
                clear HE2
                go_wp2_with (refine wp_region_later_lit (by kernel_rfl) (by kernel_rfl) ?_; (repeat (go_big_quiet_step (fail))); refine wpQuiet_nil ?_; intro w1 hb1; obtain ⟨hc1, hf1, hz1, hr1⟩ := bfacts hb1; (try simp only [World.size_alloc, World.size_setCell, World.size_drew, World.size_drewN] at hz1 hr1); (try have hw0 : w.heap.size < w1.heap.size := by omega); (try have hw1 : w.heap.size + 1 < w1.heap.size := by omega); (try have hw2 : w.heap.size + 1 + 1 < w1.heap.size := by omega))
                go_roundw
                case rel => exact ⟨k + 1, x1 + g, by omega, by go_num, by omega, .inr HN.out, HE3.out, HF3.out, by simp [go_sem, *], by simp [go_sem, *], by simp [go_sem, *], by omega, (by have hB' := HB.out; (repeat' (first | (with_reducible exact Below.refl _ _) | (with_reducible assumption) | (with_reducible refine Below.alloc ?_ ?_ _) | (with_reducible refine Below.drew ?_) | (with_reducible refine Below.draws ?_ _) | (with_reducible refine Below.setCell ?_ ?_ _) | (refine Below.then ?_ (by with_reducible assumption)) | go_size)))⟩
                case measure => simp [intOf]; omega
        · have hr : R = true := by rw [← HE.out, drop_end HL.out (by omega)]; rfl
          subst hr
          go_wp2
          go_ret2
          exact ⟨rfl, hB⟩
    · rw [if_neg he]
      have he' : (listE xs != 0) = true := by simpa using he
      go_enter Try.func54, Try.ntmps54
      go_wp2_with (first | (go_at_call 86; refine (rvalid_any _ _ _ _).mono ?_; rintro e w1 ⟨rfl, hb1⟩; obtain ⟨hc1, hf1, hz1, hr1⟩ := bfacts hb1; (try simp only [World.size_alloc, World.size_setCell, World.size_drew, World.size_drewN] at hz1 hr1); (try have hw0 : w.heap.size < w1.heap.size := by omega); (try have hw1 : w.heap.size + 1 < w1.heap.size := by omega); (try have hw2 : w.heap.size + 1 + 1 < w1.heap.size := by omega)) | (go_at_call 91; refine (listed_any _ _ _ _ _ ((HR.out.ext (show Below w.heap.size w (w.alloc _) by (repeat' (first | (with_reducible exact Below.refl _ _) | (with_reducible assumption) | (with_reducible refine Below.alloc ?_ ?_ _) | (with_reducible refine Below.drew ?_) | (with_reducible refine Below.draws ?_ _) | (with_reducible refine Below.setCell ?_ ?_ _) | (refine Below.then ?_ (by with_reducible assumption)) | go_size)))).ext hb1)).mono ?_; rintro e w1 ⟨rfl, hb1⟩; obtain ⟨hc1, hf1, hz1, hr1⟩ := bfacts hb1; (try simp only [World.size_alloc, World.size_setCell, World.size_drew, World.size_drewN] at hz1 hr1); (try have hw0 : w.heap.size < w1.heap.size := by omega); (try have hw1 : w.heap.size + 1 < w1.heap.size := by omega); (try have hw2 : w.heap.size + 1 + 1 < w1.heap.size := by omega)))
      go_ret2
      exact ⟨rfl, by (repeat' (first | (with_reducible exact Below.refl _ _) | (with_reducible assumption) | (with_reducible refine Below.alloc ?_ ?_ _) | (with_reducible refine Below.drew ?_) | (with_reducible refine Below.draws ?_ _) | (with_reducible refine Below.setCell ?_ ?_ _) | (refine Below.then ?_ (by with_reducible assumption)) | go_size))⟩
  · rw [allowR, if_neg hv]
    go_enter Try.func54, Try.ntmps54
    go_wp2_with (first | (go_at_call 86; refine (rvalid_any _ _ _ _).mono ?_; rintro e w1 ⟨rfl, hb1⟩; obtain ⟨hc1, hf1, hz1, hr1⟩ := bfacts hb1; (try simp only [World.size_alloc, World.size_setCell, World.size_drew, World.size_drewN] at hz1 hr1); (try have hw0 : w.heap.size < w1.heap.size := by omega); (try have hw1 : w.heap.size + 1 < w1.heap.size := by omega); (try have hw2 : w.heap.size + 1 + 1 < w1.heap.size := by omega)) | (go_at_call 91; refine (listed_any _ _ _ _ _ ((HR.out.ext (show Below w.heap.size w (w.alloc _) by (repeat' (first | (with_reducible exact Below.refl _ _) | (with_reducible assumption) | (with_reducible refine Below.alloc ?_ ?_ _) | (with_reducible refine Below.drew ?_) | (with_reducible refine Below.draws ?_ _) | (with_reducible refine Below.setCell ?_ ?_ _) | (refine Below.then ?_ (by with_reducible assumption)) | go_size)))).ext hb1)).mono ?_; rintro e w1 ⟨rfl, hb1⟩; obtain ⟨hc1, hf1, hz1, hr1⟩ := bfacts hb1; (try simp only [World.size_alloc, World.size_setCell, World.size_drew, World.size_drewN] at hz1 hr1); (try have hw0 : w.heap.size < w1.heap.size := by omega); (try have hw1 : w.heap.size + 1 < w1.heap.size := by omega); (try have hw2 : w.heap.size + 1 + 1 < w1.heap.size := by omega)))
    go_ret2
    exact ⟨rfl, by (repeat' (first | (with_reducible exact Below.refl _ _) | (with_reducible assumption) | (with_reducible refine Below.alloc ?_ ?_ _) | (with_reducible refine Below.drew ?_) | (with_reducible refine Below.draws ?_ _) | (with_reducible refine Below.setCell ?_ ?_ _) | (refine Below.then ?_ (by with_reducible assumption)) | go_size))⟩
end Go.Proofs.Ytlhnhmimhpcoaaa
namespace Go.Proofs.Ytlhnhmimhpcoaaa
open Go.RowKit
set_option linter.unusedSimpArgs false
set_option linter.unusedVariables false
theorem ediv_of {a b q r : Int} (hb : 0 < b) (h : a = b * q + r) (h0 : 0 ≤ r) (h1 : r < b) : a / b = q := by
  have := (Int.ediv_emod_unique (a := a) (b := b) (r := r) (q := q) hb).2 ⟨by omega, h0, h1⟩
  exact this.1
theorem floor_pos {a b : Int} (hb : 1 ≤ b) (h : a.tmod b < 0) : a.tdiv b - 1 = a / b := by
  by_cases ha : 0 ≤ a
  · rw [Int.tmod_eq_emod_of_nonneg ha] at h
    have := Int.emod_nonneg a (b := b) (by omega)
    omega
  · obtain ⟨c, rfl⟩ : ∃ c, a = -c := ⟨-a, by omega⟩
    rw [Int.neg_tmod, Int.tmod_eq_emod_of_nonneg (by omega)] at h
    rw [Int.neg_tdiv, Int.tdiv_eq_ediv_of_nonneg (by omega)]
    have e := Int.mul_ediv_add_emod c b
    have l := Int.emod_lt_of_pos c (b := b) (by omega)
    refine (ediv_of (r := b - c % b) (by omega) ?_ (by omega) (by omega)).symm
    rw [Int.mul_sub, Int.mul_neg]; omega
theorem floor_neg {a b : Int} (hb : 1 ≤ b) (h : ¬ a.tmod b < 0) : a.tdiv b = a / b := by
  by_cases ha : 0 ≤ a
  · rw [Int.tdiv_eq_ediv_of_nonneg ha]
  · obtain ⟨c, rfl⟩ : ∃ c, a = -c := ⟨-a, by omega⟩
    rw [Int.neg_tmod, Int.tmod_eq_emod_of_nonneg (by omega)] at h
    rw [Int.neg_tdiv, Int.tdiv_eq_ediv_of_nonneg (by omega)]
    have e := Int.mul_ediv_add_emod c b
    have l := Int.emod_nonneg c (b := b) (by omega)
    refine (ediv_of (r := 0) (by omega) ?_ (by omega) (by omega)).symm
    rw [Int.mul_neg]; omega
theorem ediv_bd {a b m : Int} (hb : 1 ≤ b) (hm : 0 ≤ m) (h1 : -m ≤ a) (h2 : a ≤ m) : -m ≤ a / b ∧ a / b ≤ m := by
  constructor
  · have : -m ≤ a / b := by
      rw [Int.le_ediv_iff_mul_le (by omega)]
      have : -m * b ≤ -m * 1 := by
        rw [Int.neg_mul, Int.neg_mul]
        have := Int.mul_le_mul_of_nonneg_left hb hm
        omega
      omega
    exact this
  · by_cases ha : 0 ≤ a
    · exact Int.le_trans (Int.ediv_le_self _ ha) h2
    · have : a / b < 0 := Int.ediv_neg_of_neg_of_pos (by omega) (by omega)
      omega
theorem tdiv_bd {a b m : Int} (hb : 1 ≤ b) (hm : 0 ≤ m) (h1 : -m ≤ a) (h2 : a ≤ m) : -m ≤ a.tdiv b ∧ a.tdiv b ≤ m := by
  by_cases ha : 0 ≤ a
  · rw [Int.tdiv_eq_ediv_of_nonneg ha]; exact ediv_bd hb hm h1 h2
  · obtain ⟨c, rfl⟩ : ∃ c, a = -c := ⟨-a, by omega⟩
    rw [Int.neg_tdiv, Int.tdiv_eq_ediv_of_nonneg (by omega)]
    have := quo_bd (a := c) (g := b) (m := m) (by omega) (by omega) hb
    omega
/-- a clock: its offset, num, den -/
def readN (o n d m : Int) : Int := o + m * n / d
theorem mul_bd {a b m k : Int} (h0 : 0 ≤ a) (h1 : a ≤ m) (h2 : 0 ≤ b) (h3 : b ≤ k) : 0 ≤ a * b ∧ a * b ≤ m * k :=
  ⟨Int.mul_nonneg h0 h2, Int.mul_le_mul h1 h3 h2 (by omega)⟩
def readR (o n d m : Int) : Int × Int := if vclk o n d && inB m 0 1000000 then (readN o n d m, 0) else (0, 1)
/-- the least moment at which a clock shows at least r -/
def whenN (o n d r : Int) : Int := if r ≤ o then 0 else ((r - o) * d + n - 1) / n
theorem when_neg {x n : Int} (hn : 1 ≤ n) : -(-x / n) = (x + n - 1) / n := by
  have e := Int.mul_ediv_add_emod (x + n - 1) n
  have l := Int.emod_lt_of_pos (x + n - 1) (b := n) (by omega)
  have l0 := Int.emod_nonneg (x + n - 1) (b := n) (by omega)
  have : -x / n = -((x + n - 1) / n) := by
    refine ediv_of (r := n - 1 - (x + n - 1) % n) (by omega) ?_ (by omega) (by omega)
    rw [Int.mul_neg]; omega
  omega
def whenR (o n d r : Int) : Int × Int := if vclk o n d && inB r (-1000000000) 1000000000 then (if whenN o n d r > 1000000000 then (0, 3) else (whenN o n d r, 0)) else (0, 1)
def looR (f g j f' g' j' : Int) : Bool × Int := if vpat f g j && vpat f' g' j' then (decide (f' ≤ f ∧ g' ≤ g ∧ j ≤ j'), 0) else (false, 1)
end Go.Proofs.Ytlhnhmimhpcoaaa
namespace Go.Proofs.Ytlhnhmimhpcoaaa
open Go.RowKit
set_option linter.unusedSimpArgs false
set_option linter.unusedVariables false
theorem E2 : Elt Try.prog 27 44 2 16 := Elt.mk' (z := .agg #[.int .i64 0, .int .i64 0]) Try.underlying27 (by kernel_rfl) rfl (by decide)
/-- n events of a bunch -/
def bunchL (first g at_ : Int) (n : Nat) : List P2 := (List.range n).map fun (i : Nat) => ((first + i * g, max (at_ - (first + i * g)) 0) : P2)
theorem bunchL_succ (first g at_ : Int) (n : Nat) : bunchL first g at_ (n + 1) = bunchL first g at_ n ++ [(first + n * g, max (at_ - (first + n * g)) 0)] := by
  simp [bunchL, List.range_succ]
theorem bunchL_len (first g at_ : Int) (n : Nat) : (bunchL first g at_ n).length = n := by simp [bunchL]
/-- what a function that makes a list of events leaves -/
def OutP (B : Nat) (w : World) (xs : List P2) (err : Int) (e : Ending) (w' : World) : Prop :=
  ∃ a n c, e = .returned (.tuple #[.slice a n c, .int .i64 err]) ∧ w'.ownsRow B 44 2 (.slice a n c) n (xs.flatMap enc2) ∧ Below B w w'
theorem bunch_step {w : World} {B n : Nat} {v : Value} {first g at_ x : Int} (h : w.ownsRow B 44 2 v (n + 1) ((bunchL first g at_ n).flatMap enc2 ++ [.int .i64 (first + n * g), .int .i64 x])) (hx : x = max (at_ - (first + n * g)) 0) :
    w.ownsRow B 44 2 v (n + 1) ((bunchL first g at_ (n + 1)).flatMap enc2) := by
  subst hx; rw [bunchL_succ, List.flatMap_append]; exact h
theorem bunch_ok (f g j at_ : Int) (m : Nat) (w : World) (hv : vpat f g j = true) (hm : m ≤ 40) (h1 : f ≤ at_) (h2 : at_ ≤ 500000) :
    Calls Try.prog 73 #[patV f g j, .int .i64 at_, .int .i64 m] w (OutP w.heap.size w (bunchL (max f (at_ - j)) g at_ m) 0) := by
  obtain ⟨k1, k2, k3⟩ := vpat_iff.1 hv
  have hin : inB (m : Int) 0 40 = true := inB_iff.2 (by omega)
  have d1 : decide (at_ < f) = false := by simpa using h1
  have d2 : decide (500000 < at_) = false := by simpa using h2
  obtain ⟨first, hf⟩ : ∃ x, x = max f (at_ - j) := ⟨_, rfl⟩
  have hfb : 0 ≤ first ∧ first ≤ 500000 := by omega
  rw [← hf]
  have HF := Lib.hid hf
  have e2 := E2
  have hcase : (first = f ∧ at_ - j ≤ first) ∨ (j = at_ - first ∧ f < first) := by omega
  clear hf
  rcases hcase with ⟨rfl, hmx⟩ | ⟨rfl, hmx⟩
  all_goals
    have hss : at_ - (at_ - first) = first := by omega
    first
      | (have hmm : max first (at_ - j) = first := by omega)
      | (have hmm : max f first = first := by omega)
    go_enter Try.func73, Try.ntmps73
    go_wp2_with (first | (go_at_call 104; refine (within_any _ _ _ _).mono ?_; rintro e w1 ⟨rfl, rfl⟩) | (go_at_call 88; refine (valid_any _ _ _ _).mono ?_; rintro e w1 ⟨rfl, hb1⟩; obtain ⟨hc1, hf1, hz1, hr1⟩ := bfacts hb1; (try simp only [World.size_alloc, World.size_setCell, World.size_drew, World.size_drewN] at hz1 hr1); (try have hw0 : w.heap.size < w1.heap.size := by omega); (try have hw1 : w.heap.size + 1 < w1.heap.size := by omega); (try have hw2 : w.heap.size + 1 + 1 < w1.heap.size := by omega)))
    go_loopw [8, 38] (fun v i wr => ∃ (n : Nat) (a : Option Addr) (c : Nat), n ≤ m ∧ i = .int .i64 n ∧ v = .slice a n c ∧ wr.ownsRow (w.heap.size + 1) 44 2 (.slice a n c) n ((bunchL first g at_ n).flatMap enc2) ∧ wr.cell? ⟨w.heap.size, 1, none⟩ = some (.int .i64 g) ∧ w.heap.size + 1 ≤ wr.heap.size ∧ Below w.heap.size w wr) (fun _ i _ => m - (intOf i).toNat)
    case atStart => exact ⟨0, none, 0, Nat.zero_le _, rfl, rfl, World.ownsRow_nil _ _ _ _, by rw [hc1 _ _ (by simp)]; simp [go_sem], hw0, by (repeat' (first | (with_reducible exact Below.refl _ _) | (with_reducible assumption) | (with_reducible refine Below.alloc ?_ ?_ _) | (with_reducible refine Below.drew ?_) | (with_reducible refine Below.draws ?_ _) | (with_reducible refine Below.setCell ?_ ?_ _) | (refine Below.then ?_ (by with_reducible assumption)) | go_size))⟩
    case round =>
      obtain ⟨n, a, c, hn, rfl, rfl, hown, hg, hz, hB⟩ := hrel
      have HO := Lib.hid hown; clear hown
      have HB := Lib.hid hB; clear hB
      by_cases hlt : n < m
      · obtain ⟨q1, q2⟩ := mul_bd (a := (n : Int)) (m := 40) (by omega) (by omega) (b := g) (k := 10000) (by omega) (by omega)
        go_wp2_with (at_builtin; refine wpList_push rfl _ _ _ rfl e2 rfl HO.out rfl rfl (by intro u hu; simp at hu; rcases hu with rfl | rfl <;> rfl) (by omega) (by decide) (by omega) ?_; intro a' c' w2 hown' hb1; have HO' := Lib.hid hown'; have HB' := Lib.hid hb1; have hg2 := (hb1.cell (p := ⟨w.heap.size, 1, none⟩) (by simp)).trans hg; have hz2 := hb1.size; clear hown' hb1)
        all_goals
          go_roundw
          case rel => exact ⟨n + 1, a', c', by omega, by go_num, rfl, bunch_step HO'.out (by omega), hg2, by omega, HB.out.trans (HB'.out.mono (by omega))⟩
          case measure => simp [intOf]; omega
      · obtain rfl : n = m := by omega
        go_wp2
        go_ret2
        exact ⟨a, n, c, rfl, owns_mono HO.out (Nat.le_succ _), HB.out⟩
theorem rbunch_ok (f g j at_ : Int) (m : Nat) (w : World) (hv : vpat f g j = true) (hm : m ≤ 40) (h1 : f ≤ at_) (h2 : at_ ≤ 500000) :
    Calls Try.prog 74 #[patV f g j, .int .i64 at_, .int .i64 m] w (OutP w.heap.size w (bunchL (max f (at_ - j)) g at_ m) 0) := by
  obtain ⟨k1, k2, k3⟩ := vpat_iff.1 hv
  have hin : inB (m : Int) 0 40 = true := inB_iff.2 (by omega)
  have hin2 : inB at_ f 500000 = true := inB_iff.2 ⟨h1, h2⟩
  obtain ⟨first, hf⟩ : ∃ x, x = max f (at_ - j) := ⟨_, rfl⟩
  have hfb : 0 ≤ first ∧ first ≤ 500000 := by omega
  rw [← hf]
  have HF := Lib.hid hf
  have e2 := E2
  have hcase : (first = f ∧ at_ - j ≤ first) ∨ (j = at_ - first ∧ f < first) := by omega
  clear hf
  rcases hcase with ⟨rfl, hmx⟩ | ⟨rfl, hmx⟩
  all_goals
    have hss : at_ - (at_ - first) = first := by omega
    first
      | (have hmm : max first (at_ - j) = first := by omega)
      | (have hmm : max f first = first := by omega)
    go_enter Try.func74, Try.ntmps74
    go_wp2_with (first | (go_at_call 105; refine (in_any _ _ _ _).mono ?_; rintro e w1 ⟨rfl, rfl⟩) | (go_at_call 86; refine (rvalid_any _ _ _ _).mono ?_; rintro e w1 ⟨rfl, hb1⟩; obtain ⟨hc1, hf1, hz1, hr1⟩ := bfacts hb1; (try simp only [World.size_alloc, World.size_setCell, World.size_drew, World.size_drewN] at hz1 hr1); (try have hw0 : w.heap.size < w1.heap.size := by omega); (try have hw1 : w.heap.size + 1 < w1.heap.size := by omega); (try have hw2 : w.heap.size + 1 + 1 < w1.heap.size := by omega)))
    go_loopw [8, 9, 10] (fun v r i wr => ∃ (n : Nat) (a : Option Addr) (c : Nat), n ≤ m ∧ i = .int .i64 n ∧ r = .int .i64 (first + n * g) ∧ v = .slice a n c ∧ wr.ownsRow (w.heap.size + 1) 44 2 (.slice a n c) n ((bunchL first g at_ n).flatMap enc2) ∧ wr.cell? ⟨w.heap.size, 1, none⟩ = some (.int .i64 g) ∧ w.heap.size + 1 ≤ wr.heap.size ∧ Below w.heap.size w wr) (fun _ _ i _ => m - (intOf i).toNat)
    case atStart => exact ⟨0, none, 0, Nat.zero_le _, rfl, by simp, rfl, World.ownsRow_nil _ _ _ _, by rw [hc1 _ _ (by simp)]; simp [go_sem], hw0, by (repeat' (first | (with_reducible exact Below.refl _ _) | (with_reducible assumption) | (with_reducible refine Below.alloc ?_ ?_ _) | (with_reducible refine Below.drew ?_) | (with_reducible refine Below.draws ?_ _) | (with_reducible refine Below.setCell ?_ ?_ _) | (refine Below.then ?_ (by with_reducible assumption)) | go_size))⟩
    case round =>
      obtain ⟨n, a, c, hn, rfl, rfl, rfl, hown, hg, hz, hB⟩ := hrel
      have HO := Lib.hid hown; clear hown
      have HB := Lib.hid hB; clear hB
      by_cases hlt : n < m
      · obtain ⟨q1, q2⟩ := mul_bd (a := (n : Int)) (m := 40) (by omega) (by omega) (b := g) (k := 10000) (by omega) (by omega)
        go_wp2_with (at_builtin; refine wpList_push rfl _ _ _ rfl e2 rfl HO.out rfl rfl (by intro u hu; simp at hu; rcases hu with rfl | rfl <;> rfl) (by omega) (by decide) (by omega) ?_; intro a' c' w2 hown' hb1; have HO' := Lib.hid hown'; have HB' := Lib.hid hb1; have hg2 := (hb1.cell (p := ⟨w.heap.size, 1, none⟩) (by simp)).trans hg; have hz2 := hb1.size; clear hown' hb1)
        all_goals
          go_roundw
          case rel => exact ⟨n + 1, a', c', by omega, by go_num, by rw [Int.natCast_add, Int.add_mul]; simp [Int.add_assoc], rfl, bunch_step HO'.out (by omega), hg2, by omega, HB.out.trans (HB'.out.mono (by omega))⟩
          case measure => simp [intOf]; omega
      · obtain rfl : n = m := by omega
        go_wp2
        go_ret2
        exact ⟨a, n, c, rfl, owns_mono HO.out (Nat.le_succ _), HB.out⟩
def bunchC (f g j at_ n : Int) : Bool := vpat f g j && inB n 0 40 && inB at_ f 500000
theorem bunch_any (f g j at_ n : Int) (w : World) : Calls Try.prog 73 #[patV f g j, .int .i64 at_, .int .i64 n] w (OutP w.heap.size w (if bunchC f g j at_ n then bunchL (max f (at_ - j)) g at_ n.toNat else []) (if bunchC f g j at_ n then 0 else 1)) := by
  by_cases h : bunchC f g j at_ n = true
  · rw [if_pos h, if_pos h]
    simp only [bunchC, Bool.and_eq_true, inB_iff] at h
    obtain ⟨⟨h1, h2, h3⟩, h4, h5⟩ := h
    obtain ⟨m, rfl⟩ := Int.eq_ofNat_of_zero_le h2
    exact bunch_ok f g j at_ m w h1 (by omega) h4 h5
  · rw [if_neg h, if_neg h]
    have H := Lib.hid h; clear h
    go_enter Try.func73, Try.ntmps73
    go_wp2_with (first | (go_at_call 104; refine (within_any _ _ _ _).mono ?_; rintro e w1 ⟨rfl, rfl⟩) | (go_at_call 88; refine (valid_any _ _ _ _).mono ?_; rintro e w1 ⟨rfl, hb1⟩; obtain ⟨hc1, hf1, hz1, hr1⟩ := bfacts hb1; (try simp only [World.size_alloc, World.size_setCell, World.size_drew, World.size_drewN] at hz1 hr1); (try have hw0 : w.heap.size < w1.heap.size := by omega); (try have hw1 : w.heap.size + 1 < w1.heap.size := by omega); (try have hw2 : w.heap.size + 1 + 1 < w1.heap.size := by omega)) | (go_prune; fail))
    all_goals first | (exfalso; apply H.out; simp only [bunchC, inB_eq, Bool.and_eq_true, decide_eq_true_eq]; simp_all [inB_eq]; done) | (go_ret2; exact ⟨none, 0, 0, rfl, World.ownsRow_nil _ _ _ _, by (repeat' (first | (with_reducible exact Below.refl _ _) | (with_reducible assumption) | (with_reducible refine Below.alloc ?_ ?_ _) | (with_reducible refine Below.drew ?_) | (with_reducible refine Below.draws ?_ _) | (with_reducible refine Below.setCell ?_ ?_ _) | (refine Below.then ?_ (by with_reducible assumption)) | go_size))⟩)
theorem rbunch_any (f g j at_ n : Int) (w : World) : Calls Try.prog 74 #[patV f g j, .int .i64 at_, .int .i64 n] w (OutP w.heap.size w (if bunchC f g j at_ n then bunchL (max f (at_ - j)) g at_ n.toNat else []) (if bunchC f g j at_ n then 0 else 1)) := by
  by_cases h : bunchC f g j at_ n = true
  · rw [if_pos h, if_pos h]
    simp only [bunchC, Bool.and_eq_true, inB_iff] at h
    obtain ⟨⟨h1, h2, h3⟩, h4, h5⟩ := h
    obtain ⟨m, rfl⟩ := Int.eq_ofNat_of_zero_le h2
    exact rbunch_ok f g j at_ m w h1 (by omega) h4 h5
  · rw [if_neg h, if_neg h]
    have H := Lib.hid h; clear h
    go_enter Try.func74, Try.ntmps74
    go_wp2_with (first | (go_at_call 105; refine (in_any _ _ _ _).mono ?_; rintro e w1 ⟨rfl, rfl⟩) | (go_at_call 86; refine (rvalid_any _ _ _ _).mono ?_; rintro e w1 ⟨rfl, hb1⟩; obtain ⟨hc1, hf1, hz1, hr1⟩ := bfacts hb1; (try simp only [World.size_alloc, World.size_setCell, World.size_drew, World.size_drewN] at hz1 hr1); (try have hw0 : w.heap.size < w1.heap.size := by omega); (try have hw1 : w.heap.size + 1 < w1.heap.size := by omega); (try have hw2 : w.heap.size + 1 + 1 < w1.heap.size := by omega)) | (go_prune; fail))
    all_goals first | (exfalso; apply H.out; simp only [bunchC, inB_eq, Bool.and_eq_true, decide_eq_true_eq]; simp_all [inB_eq]; done) | (go_ret2; exact ⟨none, 0, 0, rfl, World.ownsRow_nil _ _ _ _, by (repeat' (first | (with_reducible exact Below.refl _ _) | (with_reducible assumption) | (with_reducible refine Below.alloc ?_ ?_ _) | (with_reducible refine Below.drew ?_) | (with_reducible refine Below.draws ?_ _) | (with_reducible refine Below.setCell ?_ ?_ _) | (refine Below.then ?_ (by with_reducible assumption)) | go_size))⟩)
def denseL (first g : Int) (n : Nat) : List P2 := (List.range n).map fun (i : Nat) => ((first + i * g, 0) : P2)
theorem dense_step {w : World} {B n : Nat} {v : Value} {first g : Int} (h : w.ownsRow B 44 2 v (n + 1) ((denseL first g n).flatMap enc2 ++ [.int .i64 (first + n * g), .int .i64 0])) :
    w.ownsRow B 44 2 v (n + 1) ((denseL first g (n + 1)).flatMap enc2) := by
  have : denseL first g (n + 1) = denseL first g n ++ [(first + n * g, 0)] := by simp [denseL, List.range_succ]
  rw [this, List.flatMap_append]; exact h
def denseC (f g j n : Int) : Bool := vpat f g j && inB n 0 40
end Go.Proofs.Ytlhnhmimhpcoaaa
