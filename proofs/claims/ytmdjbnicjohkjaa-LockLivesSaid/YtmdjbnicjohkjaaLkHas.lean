/- Contracts of isLock, slices.Contains, has, holder and next of both sides. The conditions: the slices read as named. -/
import Derived.Test.YtmdjbnicjohkjaaGr
import Derived.Test.YtmdjbnicjohkjaaPred
namespace Go.Proofs.Ytmdjbnicjohkjaa
open Go.RowKit
set_option linter.unusedSimpArgs false
set_option linter.unusedVariables false
theorem isLock_any (n : Int) (w : World) : Calls Try.prog 54 #[.int .i64 n] w fun e w' => e = .returned (.bool (inB n 0 5)) ∧ w = w' := by
  go_enter Try.func54, Try.ntmps54
  go_wp2
  all_goals (go_ret; exact ⟨ret_bool (by rw [inB_eq]; simp [*]; try omega), rfl⟩)
theorem risLock_any (n : Int) (w : World) : Calls Try.prog 56 #[.int .i64 n] w fun e w' => e = .returned (.bool (inB n 0 5)) ∧ w = w' := by
  go_enter Try.func56, Try.ntmps56
  go_wp2
  all_goals (go_ret; exact ⟨ret_bool (by rw [inB_eq]; simp [*]; try omega), rfl⟩)
theorem index_any (a : Option Addr) (n c : Nat) (xs : List Int) (v : Int) (w : World) (hR : Rd w a n 1 (xs.map enc1)) :
    Calls Try.prog 81 #[.slice a n c, .int .i64 v] w fun e w' => e = .returned (.int .i64 (idxGo (fun x => v == x) 0 xs)) ∧ w = w' := by
  have HL := Lib.hid hR.length
  have hs := hR.small
  have HR := Lib.hid hR; clear hR
  generalize hg : idxGo (fun x => v == x) 0 xs = R
  have HG := Lib.hid hg; clear hg
  go_enter Try.func81, Try.ntmps81
  go_wp2
  go_loop [8] (fun i => ∃ k : Nat, k ≤ n ∧ i = .int .i64 k ∧ idxGo (fun x => v == x) k (xs.drop k) = R) (fun i => n - (intOf i).toNat)
  case atStart => exact ⟨0, Nat.zero_le _, rfl, HG.out⟩
  case round =>
    obtain ⟨k, hk, rfl, he⟩ := hrel
    have HE := Lib.hid he; clear he
    by_cases hlt : k < n
    · obtain ⟨x, b, off, rfl, hb, h1, HD⟩ := HR.out.next1 k hlt
      have HE2 : Hid ((if (v == x) = true then (k : Int) else idxGo (fun x => v == x) (k + 1) (xs.drop (k + 1))) = R) := by have := HE.out; rw [HD.out] at this; exact this
      cases hq : (v == x)
      · rw [hq] at HE2
        go_wp2
        go_round
        case rel => exact ⟨k + 1, by omega, by go_num, by simpa using HE2.out⟩
        case measure => simp [intOf]; omega
      · rw [hq] at HE2
        have : R = k := by simpa using HE2.out.symm
        subst this
        go_wp2
        go_ret
        exact ⟨rfl, rfl⟩
    · have : R = -1 := by rw [← HE.out, drop_end HL.out (by omega)]; rfl
      subst this
      go_wp2
      go_ret
      exact ⟨rfl, rfl⟩
def hasB (l : List Int) (v : Int) : Bool := l.contains v
theorem hasB_cons (x : Int) (l : List Int) (v : Int) : hasB (x :: l) v = (v == x || hasB l v) := by unfold hasB; exact List.contains_cons
theorem hasB_iff {l : List Int} {v : Int} : hasB l v = true ↔ v ∈ l := by simp [hasB]
theorem contains_eq (v : Int) (xs : List Int) : xs.any (fun x => v == x) = hasB xs v := List.contains_eq_any_beq.symm
theorem contains_any (a : Option Addr) (n c : Nat) (xs : List Int) (v : Int) (w : World) (hR : Rd w a n 1 (xs.map enc1)) :
    Calls Try.prog 60 #[.slice a n c, .int .i64 v] w fun e w' => e = .returned (.bool (hasB xs v)) ∧ w = w' := by
  have HR := Lib.hid hR; clear hR
  go_enter Try.func60, Try.ntmps60
  go_wp2_with (go_at_call 81; refine (index_any _ _ _ _ _ _ HR.out).mono ?_; rintro e w1 ⟨rfl, rfl⟩)
  go_ret
  exact ⟨ret_bool (by rw [idxGo_any, contains_eq]), rfl⟩
theorem has_any (a : Option Addr) (n c : Nat) (xs : List Int) (v : Int) (w : World) (hR : Rd w a n 1 (xs.map enc1)) :
    Calls Try.prog 61 #[.slice a n c, .int .i64 v] w fun e w' => e = .returned (.bool (hasB xs v)) ∧ w = w' := by
  have HL := Lib.hid hR.length
  have hs := hR.small
  have HR := Lib.hid hR; clear hR
  generalize hg : hasB xs v = R
  have HG := Lib.hid hg; clear hg
  go_enter Try.func61, Try.ntmps61
  go_wp2
  go_loop [5] (fun i => ∃ k : Nat, k ≤ n ∧ i = .int .i64 k ∧ hasB (xs.drop k) v = R) (fun i => n - (intOf i).toNat)
  case atStart => exact ⟨0, Nat.zero_le _, rfl, HG.out⟩
  case round =>
    obtain ⟨k, hk, rfl, he⟩ := hrel
    have HE := Lib.hid he; clear he
    by_cases hlt : k < n
    · obtain ⟨x, b, off, rfl, hb, h1, HD⟩ := HR.out.next1 k hlt
      have HE2 : Hid ((v == x || hasB (xs.drop (k + 1)) v) = R) := by have := HE.out; rw [HD.out, hasB_cons] at this; exact this
      cases hq : (x == v)
      · have he3 : hasB (xs.drop (k + 1)) v = R := by have := HE2.out; rw [show (v == x) = false by rw [← hq]; exact Bool.beq_comm, Bool.false_or] at this; exact this
        have HE3 := Lib.hid he3; clear he3
        clear HE2
        go_wp2
        go_round
        case rel => exact ⟨k + 1, by omega, by go_num, HE3.out⟩
        case measure => simp [intOf]; omega
      · have : R = true := by have := HE2.out; rw [show (v == x) = true by rw [← hq]; exact Bool.beq_comm] at this; simpa using this.symm
        subst this
        clear HE2
        go_wp2
        go_ret
        exact ⟨rfl, rfl⟩
    · have : R = false := by rw [← HE.out, drop_end HL.out (by omega)]; rfl
      subst this
      go_wp2
      go_ret
      exact ⟨rfl, rfl⟩
theorem th_idx (g : Nat) (lb : Array Value) (p : ThV → Bool) (a : Option Addr) (n c : Nat) (xs : List ThV) (w : World) (hR : Rd w a n 3 (xs.map encTh)) (hf : PredIn g lb valTh p xs w) :
    Calls Try.prog 79 #[.slice a n c, .func (.func g) #[] lb] w fun e w' => e = .returned (.int .i64 (idxGo p 0 xs)) ∧ Below w.heap.size w w' := by
  have HL := Lib.hid hR.length
  have hs := hR.small
  have HR := Lib.hid hR; clear hR
  have eg := hf.eg
  have HF := Lib.hid hf.gives; clear hf
  generalize hg : idxGo p 0 xs = R
  have HG := Lib.hid hg; clear hg
  go_enter Try.func79, Try.ntmps79
  go_wp2
  go_loopw [8] (fun i wr => ∃ k : Nat, k ≤ n ∧ i = .int .i64 k ∧ idxGo p k (xs.drop k) = R ∧ Below w.heap.size w wr) (fun i _ => n - (intOf i).toNat)
  case atStart => exact ⟨0, Nat.zero_le _, rfl, HG.out, Below.refl _ _⟩
  case round =>
    obtain ⟨k, hk, rfl, he, hB⟩ := hrel
    have HE := Lib.hid he; clear he
    by_cases hlt : k < n
    · obtain ⟨x, b, off, rfl, hb, hc, hx, _, HD⟩ := (HR.out.ext hB).nextK k hlt
      have h0 := hc 0 (by omega)
      have h1 := hc 1 (by omega)
      have h2 := hc 2 (by omega)
      clear hc
      simp [encTh] at h0 h1 h2
      have hcall := HF.out x hx wr hB
      have HB := Lib.hid hB; clear hB
      have HE2 : Hid ((if p x = true then (k : Int) else idxGo p (k + 1) (xs.drop (k + 1))) = R) := by have := HE.out; rw [HD.out] at this; exact this
      cases hq : p x
      · rw [hq] at hcall HE2
        go_wp2_with (go_at_fn g; refine hcall.mono ?_; rintro e w1 ⟨rfl, hb1⟩)
        go_roundw
        case rel => exact ⟨k + 1, by omega, by go_num, by simpa using HE2.out, HB.out.trans (hb1.mono HB.out.size)⟩
        case measure => simp [intOf]; omega
      · rw [hq] at hcall HE2
        have : R = k := by simpa using HE2.out.symm
        subst this
        go_wp2_with (go_at_fn g; refine hcall.mono ?_; rintro e w1 ⟨rfl, hb1⟩)
        go_ret
        exact ⟨rfl, HB.out.trans (hb1.mono HB.out.size)⟩
    · have : R = -1 := by rw [← HE.out, drop_end HL.out (by omega)]; rfl
      subst this
      go_wp2
      go_ret
      exact ⟨rfl, hB⟩
theorem th_con (g : Nat) (lb : Array Value) (p : ThV → Bool) (a : Option Addr) (n c : Nat) (xs : List ThV) (w : World) (hR : Rd w a n 3 (xs.map encTh)) (hf : PredIn g lb valTh p xs w) :
    Calls Try.prog 58 #[.slice a n c, .func (.func g) #[] lb] w fun e w' => e = .returned (.bool (xs.any p)) ∧ Below w.heap.size w w' := by
  have HR := Lib.hid hR; clear hR
  have HF := Lib.hid hf; clear hf
  go_enter Try.func58, Try.ntmps58
  go_wp2_with (go_at_call 79; refine (th_idx _ _ _ _ _ _ _ _ HR.out HF.out).mono ?_; rintro e w1 ⟨rfl, hb1⟩)
  go_ret
  exact ⟨ret_bool (idxGo_any p xs 0), by (repeat' (first | (with_reducible exact Below.refl _ _) | (with_reducible assumption) | (with_reducible refine Below.alloc ?_ ?_ _) | (with_reducible refine Below.drew ?_) | (with_reducible refine Below.draws ?_ _) | (with_reducible refine Below.setCell ?_ ?_ _) | (refine Below.then ?_ (by with_reducible assumption)) | go_size))⟩

def holderG (g : List Th) (l : Int) : Int := idxGo (fun t => hasB t.holds l) 0 g
theorem idxGo_map {α β : Type} (f : α → β) (p : β → Bool) : ∀ (xs : List α) (k : Nat), idxGo (fun x => p (f x)) k xs = idxGo p k (xs.map f)
  | [], _ => rfl
  | x :: xs, k => by simp [idxGo, idxGo_map f p xs]
theorem holder1_any {w : World} {t : ThV} (ht : t.ok w) (w' : World) (hb : Below w.heap.size w w') (l : Int) (q : Nat) (hq : q < w.heap.size) (hc : w.cell? ⟨q, 0, none⟩ = some (.int .i64 l)) :
    Calls Try.prog 80 #[valTh t, .pointer (some ⟨q, 0, none⟩)] w' fun e w'' => e = .returned (.bool (hasB t.holds l)) ∧ Below w'.heap.size w' w'' := by
  have hc' := (hb.cell (p := ⟨q, 0, none⟩) hq).trans hc
  have hq' : q < w'.heap.size := Nat.lt_of_lt_of_le hq hb.size
  have RD := Lib.hid (ht.1.ext hb)
  obtain ⟨pri, a, n, c, waits, holds⟩ := t
  simp only [] at RD
  clear hb hc ht
  go_enter Try.func80, Try.ntmps80
  go_wp2_with (go_at_call 60; refine (contains_any _ _ _ _ _ _ (RD.out.ext (by (repeat' (first | (with_reducible exact Below.refl _ _) | (with_reducible assumption) | (with_reducible refine Below.alloc ?_ ?_ _) | (with_reducible refine Below.drew ?_) | (with_reducible refine Below.draws ?_ _) | (with_reducible refine Below.setCell ?_ ?_ _) | (refine Below.then ?_ (by with_reducible assumption)) | go_size))))).mono ?_; rintro e w1 ⟨rfl, rfl⟩)
  go_ret
  exact ⟨rfl, by (repeat' (first | (with_reducible exact Below.refl _ _) | (with_reducible assumption) | (with_reducible refine Below.alloc ?_ ?_ _) | (with_reducible refine Below.drew ?_) | (with_reducible refine Below.draws ?_ _) | (with_reducible refine Below.setCell ?_ ?_ _) | (refine Below.then ?_ (by with_reducible assumption)) | go_size))⟩
theorem holder_any (a : Option Addr) (n c : Nat) (g : List ThV) (l : Int) (w : World) (hG : RdG w a n g) :
    Calls Try.prog 55 #[.slice a n c, .int .i64 l] w fun e w' => e = .returned (.int .i64 (holderG (g.map ThV.th) l)) ∧ Below w.heap.size w w' := by
  obtain ⟨W, hW⟩ : ∃ W, W = w.alloc (.cells #[.int .i64 l] 3) := ⟨_, rfl⟩
  have hbW : Below w.heap.size w W := by rw [hW]; (repeat' (first | (with_reducible exact Below.refl _ _) | (with_reducible assumption) | (with_reducible refine Below.alloc ?_ ?_ _) | (with_reducible refine Below.drew ?_) | (with_reducible refine Below.draws ?_ _) | (with_reducible refine Below.setCell ?_ ?_ _) | (refine Below.then ?_ (by with_reducible assumption)) | go_size))
  have hcW : W.cell? ⟨w.heap.size, 0, none⟩ = some (.int .i64 l) := by rw [hW]; simp [go_sem]
  have hsW : w.heap.size < W.heap.size := by rw [hW]; simp
  have hGW := hG.ext hbW
  have c1 := th_idx 80 #[.pointer (some ⟨w.heap.size, 0, none⟩)] (fun t => hasB t.holds l) a n c g W hGW.rd ⟨fun args w => by kernel_rfl, fun t ht w' hb => holder1_any (hGW.ok t ht) w' hb l w.heap.size hsW hcW⟩
  rw [show (fun t : ThV => hasB t.holds l) = fun t => (fun t : Th => hasB t.holds l) (ThV.th t) from rfl, idxGo_map ThV.th (fun t : Th => hasB t.holds l)] at c1
  subst hW
  have C1 := Lib.hid c1
  have HB := Lib.hid hbW
  clear c1 hcW hGW hbW hG
  go_enter Try.func55, Try.ntmps55
  go_wp2_with (go_at_call 79; refine C1.out.mono ?_; rintro e w1 ⟨rfl, hb1⟩)
  go_ret
  exact ⟨rfl, Below.then HB.out hb1⟩
theorem rholder_any (a : Option Addr) (n c : Nat) (g : List ThV) (l : Int) (w : World) (hG : RdG w a n g) :
    Calls Try.prog 57 #[.slice a n c, .int .i64 l] w fun e w' => e = .returned (.int .i64 (holderG (g.map ThV.th) l)) ∧ Below w.heap.size w w' := by
  have HL := Lib.hid hG.length
  have hs := hG.small
  have HR := Lib.hid hG; clear hG
  rw [holderG, ← idxGo_map ThV.th (fun t : Th => hasB t.holds l)]
  generalize hg : idxGo (fun x : ThV => hasB x.th.holds l) 0 g = R
  have HG := Lib.hid hg; clear hg
  go_enter Try.func57, Try.ntmps57
  go_wp2
  go_loop [5] (fun i => ∃ k : Nat, k ≤ n ∧ i = .int .i64 k ∧ idxGo (fun x : ThV => hasB x.th.holds l) k (g.drop k) = R) (fun i => n - (intOf i).toNat)
  case atStart => exact ⟨0, Nat.zero_le _, rfl, HG.out⟩
  case round =>
    obtain ⟨k, hk, rfl, he⟩ := hrel
    have HE := Lib.hid he; clear he
    by_cases hlt : k < n
    · obtain ⟨t, b, off, rfl, hb, h1, h2, h3, ht, _, HD⟩ := HR.out.at_ k hlt
      have HT := Lib.hid ht; clear ht
      have HE2 : Hid ((if hasB t.holds l = true then (k : Int) else idxGo (fun x : ThV => hasB x.th.holds l) (k + 1) (g.drop (k + 1))) = R) := by have := HE.out; rw [HD.out] at this; exact this
      cases hq : hasB t.holds l
      · rw [hq] at HE2
        go_wp2_with (go_at_call 61; refine (has_any _ _ _ _ _ _ HT.out.1).mono ?_; rintro e w1 ⟨rfl, rfl⟩)
        go_round
        case rel => exact ⟨k + 1, by omega, by go_num, by simpa using HE2.out⟩
        case measure => simp [intOf]; omega
      · rw [hq] at HE2
        have : R = k := by simpa using HE2.out.symm
        subst this
        go_wp2_with (go_at_call 61; refine (has_any _ _ _ _ _ _ HT.out.1).mono ?_; rintro e w1 ⟨rfl, rfl⟩)
        go_ret
        exact ⟨rfl, Below.refl _ _⟩
    · have : R = -1 := by rw [← HE.out, drop_end HL.out (by omega)]; rfl
      subst this
      go_wp2
      go_ret
      exact ⟨rfl, Below.refl _ _⟩
/-- for whom a thread waits, or -1 -/
def nextG (g : List Th) (i : Nat) : Int := match g[i]? with
  | some t => if t.waits < 0 then -1 else holderG g t.waits
  | none => -1
theorem next_any (a : Option Addr) (n c : Nat) (g : List ThV) (i : Nat) (hi : i < n) (w : World) (hG : RdG w a n g) :
    Calls Try.prog 52 #[.slice a n c, .int .i64 i] w fun e w' => e = .returned (.int .i64 (nextG (g.map ThV.th) i)) ∧ Below w.heap.size w w' := by
  have hs := hG.small
  obtain ⟨t, b, off, rfl, hb, h1, h2, h3, ht, hgi, HD⟩ := hG.at_ i hi
  have e1 : nextG (g.map ThV.th) i = if t.waits < 0 then -1 else holderG (g.map ThV.th) t.waits := by
    rw [nextG, List.getElem?_map, hgi]; rfl
  rw [e1]
  have HR := Lib.hid hG; clear hG hgi ht e1
  by_cases hw : t.waits < 0
  · rw [if_pos hw]
    go_enter Try.func52, Try.ntmps52
    go_wp2
    go_ret
    exact ⟨rfl, Below.refl _ _⟩
  · rw [if_neg hw]
    go_enter Try.func52, Try.ntmps52
    go_wp2_with (go_at_call 55; refine (holder_any _ _ _ _ _ _ HR.out).mono ?_; rintro e w1 ⟨rfl, hb1⟩; obtain ⟨hc1, hf1, hz1, hr1⟩ := bfacts hb1; (try simp only [World.size_alloc, World.size_setCell, World.size_drew, World.size_drewN] at hz1 hr1); (try have hw0 : w.heap.size < w1.heap.size := by omega); (try have hw1 : w.heap.size + 1 < w1.heap.size := by omega); (try have hw2 : w.heap.size + 1 + 1 < w1.heap.size := by omega))
    go_ret
    exact ⟨rfl, by (repeat' (first | (with_reducible exact Below.refl _ _) | (with_reducible assumption) | (with_reducible refine Below.alloc ?_ ?_ _) | (with_reducible refine Below.drew ?_) | (with_reducible refine Below.draws ?_ _) | (with_reducible refine Below.setCell ?_ ?_ _) | (refine Below.then ?_ (by with_reducible assumption)) | go_size))⟩
theorem rnext_any (a : Option Addr) (n c : Nat) (g : List ThV) (i : Nat) (hi : i < n) (w : World) (hG : RdG w a n g) :
    Calls Try.prog 78 #[.slice a n c, .int .i64 i] w fun e w' => e = .returned (.int .i64 (nextG (g.map ThV.th) i)) ∧ Below w.heap.size w w' := by
  have hs := hG.small
  obtain ⟨t, b, off, rfl, hb, h1, h2, h3, ht, hgi, HD⟩ := hG.at_ i hi
  have e1 : nextG (g.map ThV.th) i = if t.waits < 0 then -1 else holderG (g.map ThV.th) t.waits := by
    rw [nextG, List.getElem?_map, hgi]; rfl
  rw [e1]
  have HR := Lib.hid hG; clear hG hgi ht e1
  by_cases hw : t.waits < 0
  · rw [if_pos hw]
    go_enter Try.func78, Try.ntmps78
    go_wp2
    go_ret
    exact ⟨rfl, Below.refl _ _⟩
  · rw [if_neg hw]
    go_enter Try.func78, Try.ntmps78
    go_wp2_with (go_at_call 57; refine (rholder_any _ _ _ _ _ _ HR.out).mono ?_; rintro e w1 ⟨rfl, hb1⟩; obtain ⟨hc1, hf1, hz1, hr1⟩ := bfacts hb1; (try simp only [World.size_alloc, World.size_setCell, World.size_drew, World.size_drewN] at hz1 hr1); (try have hw0 : w.heap.size < w1.heap.size := by omega); (try have hw1 : w.heap.size + 1 < w1.heap.size := by omega); (try have hw2 : w.heap.size + 1 + 1 < w1.heap.size := by omega))
    go_ret
    exact ⟨rfl, by (repeat' (first | (with_reducible exact Below.refl _ _) | (with_reducible assumption) | (with_reducible refine Below.alloc ?_ ?_ _) | (with_reducible refine Below.drew ?_) | (with_reducible refine Below.draws ?_ _) | (with_reducible refine Below.setCell ?_ ?_ _) | (refine Below.then ?_ (by with_reducible assumption)) | go_size))⟩
end Go.Proofs.Ytmdjbnicjohkjaa
