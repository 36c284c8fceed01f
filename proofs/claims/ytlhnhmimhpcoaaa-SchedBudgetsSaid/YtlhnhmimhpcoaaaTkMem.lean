/- Tasks in memory; the contracts of right and Tasks. The conditions: the tasks read as named. -/
import Derived.Test.YtlhnhmimhpcoaaaTkPure
import Derived.Test.YtlhnhmimhpcoaaaPred
import Derived.Test.YtlhnhmimhpcoaaaApp
namespace Go.Proofs.Ytlhnhmimhpcoaaa
open Go.RowKit
set_option linter.unusedSimpArgs false
set_option linter.unusedVariables false
/-- a task as it lies in memory -/
structure TaV where
  pri : Int
  dl : Int
  first : Int
  gap : Int
  jit : Int
  a : Option Addr
  n : Nat
  c : Nat
  pcs : List P2
deriving Inhabited
def TaV.ta (t : TaV) : Ta := ⟨t.pri, t.dl, t.first, t.gap, t.jit, t.pcs⟩
def encTa (t : TaV) : List Value := [.int .i64 t.pri, .int .i64 t.dl, .int .i64 t.first, .int .i64 t.gap, .int .i64 t.jit, .slice t.a t.n t.c]
abbrev valTa (t : TaV) : Value := .agg #[.int .i64 t.pri, .int .i64 t.dl, .int .i64 t.first, .int .i64 t.gap, .int .i64 t.jit, .slice t.a t.n t.c]
abbrev valPc (p : P2) : Value := .agg #[.int .i64 p.1, .int .i64 p.2]
theorem encTa_len (t : TaV) : (encTa t).length = 6 := rfl
theorem encTa_one (t : TaV) : ∀ u ∈ encTa t, u.oneCell' = true := by intro u hu; simp [encTa] at hu; rcases hu with rfl | rfl | rfl | rfl | rfl | rfl <;> rfl
theorem enc2_len (p : P2) : (enc2 p).length = 2 := rfl
theorem enc2_one (p : P2) : ∀ u ∈ enc2 p, u.oneCell' = true := by intro u hu; simp [enc2] at hu; rcases hu with rfl | rfl <;> rfl
def NilOk (a : Option Addr) (n c : Nat) : Prop := n = 0 → (a = none ∧ c = 0) ∨ ∃ ad, a = some ad
def TaV.ok (w : World) (t : TaV) : Prop := Rd w t.a t.n 2 (t.pcs.map enc2) ∧ NilOk t.a t.n t.c
theorem TaV.ok.ext {w w' : World} {t : TaV} (h : t.ok w) (hb : Below w.heap.size w w') : t.ok w' := ⟨h.1.ext hb, h.2⟩
structure RdT (w : World) (a : Option Addr) (n : Nat) (g : List TaV) : Prop where
  rd : Rd w a n 6 (g.map encTa)
  ok : ∀ t ∈ g, t.ok w
theorem RdT.ext {w w' : World} {a n g} (h : RdT w a n g) (hb : Below w.heap.size w w') : RdT w' a n g := ⟨h.rd.ext hb, fun t ht => (h.ok t ht).ext hb⟩
theorem RdT.length {w a n} {g : List TaV} (h : RdT w a n g) : g.length = n := h.rd.length
/-- a slice reads as these tasks -/
def RdL (w : World) (a : Option Addr) (n : Nat) (L : List Ta) : Prop := ∃ g : List TaV, RdT w a n g ∧ g.map TaV.ta = L
theorem RdT.rdL {w a n} {g : List TaV} (h : RdT w a n g) : RdL w a n (g.map TaV.ta) := ⟨g, h, rfl⟩
theorem RdL.ext {w w' : World} {a n L} (h : RdL w a n L) (hb : Below w.heap.size w w') : RdL w' a n L := ⟨h.choose, h.choose_spec.1.ext hb, h.choose_spec.2⟩
theorem RdL.length {w a n} {L : List Ta} (h : RdL w a n L) : L.length = n := by obtain ⟨g, h1, rfl⟩ := h; simpa using h1.length
theorem RdL.small {w a n} {L : List Ta} (h : RdL w a n L) : n ≤ 9223372036854775807 := by obtain ⟨g, h1, rfl⟩ := h; exact h1.rd.small
theorem later_rdL {w w1 : World} {x : After w1} {a n L} (h : RdL w a n L) (hb : Below w.heap.size w w1) : RdL (World.later w1 x) a n L := (h.ext hb).ext x.below
theorem RdL.at_ {w a n} {L : List Ta} (h : RdL w a n L) (k : Nat) (hk : k < n) : ∃ (t : Ta) (b off : Nat) (pa : Option Addr) (pn pc : Nat), a = some ⟨b, off, none⟩ ∧ b < w.heap.size ∧
    w.cell? ⟨b, off + k * 6, none⟩ = some (.int .i64 t.pri) ∧ w.cell? ⟨b, off + k * 6 + 1, none⟩ = some (.int .i64 t.dl) ∧ w.cell? ⟨b, off + k * 6 + 2, none⟩ = some (.int .i64 t.first) ∧ w.cell? ⟨b, off + k * 6 + 3, none⟩ = some (.int .i64 t.gap) ∧
    w.cell? ⟨b, off + k * 6 + 4, none⟩ = some (.int .i64 t.jit) ∧ w.cell? ⟨b, off + k * 6 + 5, none⟩ = some (.slice pa pn pc) ∧ Rd w pa pn 2 (t.pcs.map enc2) ∧ NilOk pa pn pc ∧ L[k]? = some t ∧ Hid (L.drop k = t :: L.drop (k + 1)) := by
  obtain ⟨g, h1, rfl⟩ := h
  have hl : k < g.length := by rw [h1.length]; exact hk
  obtain ⟨b, off, rfl, hlt, hc⟩ := h1.rd.at_ (by omega)
  have c0 := hc k (by simpa using hl) 0 (by omega)
  have c1 := hc k (by simpa using hl) 1 (by omega)
  have c2 := hc k (by simpa using hl) 2 (by omega)
  have c3 := hc k (by simpa using hl) 3 (by omega)
  have c4 := hc k (by simpa using hl) 4 (by omega)
  have c5 := hc k (by simpa using hl) 5 (by omega)
  simp [encTa] at c0 c1 c2 c3 c4 c5
  have hok := h1.ok _ (List.getElem_mem hl)
  refine ⟨g[k].ta, b, off, g[k].a, g[k].n, g[k].c, rfl, hlt, c0, c1, c2, c3, c4, c5, hok.1, hok.2, by simp [List.getElem?_eq_getElem hl], ?_⟩
  have : (g.map TaV.ta).drop k = _ := List.drop_eq_getElem_cons (by simpa using hl)
  rw [List.getElem_map] at this
  exact this
theorem tk_idx (g : Nat) (lb : Array Value) (p : TaV → Bool) (a : Option Addr) (n c : Nat) (xs : List TaV) (w : World) (hR : Rd w a n 6 (xs.map encTa)) (hf : PredIn g lb valTa p xs w) :
    Calls Try.prog 117 #[.slice a n c, .func (.func g) #[] lb] w fun e w' => e = .returned (.int .i64 (idxGo p 0 xs)) ∧ Below w.heap.size w w' := by
  have HL := Lib.hid hR.length
  have hs := hR.small
  have HR := Lib.hid hR; clear hR
  have eg := hf.eg
  have HF := Lib.hid hf.gives; clear hf
  generalize hg : idxGo p 0 xs = R
  have HG := Lib.hid hg; clear hg
  go_enter Try.func117, Try.ntmps117
  go_wp2
  go_loopw [8] (fun i wr => ∃ k : Nat, k ≤ n ∧ i = .int .i64 k ∧ idxGo p k (xs.drop k) = R ∧ Below w.heap.size w wr) (fun i _ => n - (intOf i).toNat)
  case atStart => exact ⟨0, Nat.zero_le _, rfl, HG.out, Below.refl _ _⟩
  case round =>
    obtain ⟨k, hk, rfl, he, hB⟩ := hrel
    have HE := Lib.hid he; clear he
    by_cases hlt : k < n
    · obtain ⟨x, b, off, rfl, hb, hc, hx, _, HD⟩ := (HR.out.ext hB).nextK k hlt
      have h0 := hc 0 (by omega)
      have h1 := hc 1 (by omega)
      have h2 := hc 2 (by omega)
      have h3 := hc 3 (by omega)
      have h4 := hc 4 (by omega)
      have h5 := hc 5 (by omega)
      clear hc
      simp [encTa] at h0 h1 h2 h3 h4 h5
      have hcall := HF.out x hx wr hB
      have HB := Lib.hid hB; clear hB
      have HE2 : Hid ((if p x = true then (k : Int) else idxGo p (k + 1) (xs.drop (k + 1))) = R) := by have := HE.out; rw [HD.out] at this; exact this
      cases hq : p x
      · rw [hq] at hcall HE2
        go_wp2_with (go_at_fn g; refine hcall.mono ?_; rintro e w1 ⟨rfl, hb1⟩)
        go_roundw
        case rel => exact ⟨k + 1, by omega, by go_num, by simpa using HE2.out, HB.out.trans (hb1.mono HB.out.size)⟩
        case measure => simp [intOf]; omega
      · rw [hq] at hcall HE2
        have : R = k := by simpa using HE2.out.symm
        subst this
        go_wp2_with (go_at_fn g; refine hcall.mono ?_; rintro e w1 ⟨rfl, hb1⟩)
        go_ret
        exact ⟨rfl, HB.out.trans (hb1.mono HB.out.size)⟩
    · have : R = -1 := by rw [← HE.out, drop_end HL.out (by omega)]; rfl
      subst this
      go_wp2
      go_ret
      exact ⟨rfl, hB⟩
theorem tk_con (g : Nat) (lb : Array Value) (p : TaV → Bool) (a : Option Addr) (n c : Nat) (xs : List TaV) (w : World) (hR : Rd w a n 6 (xs.map encTa)) (hf : PredIn g lb valTa p xs w) :
    Calls Try.prog 93 #[.slice a n c, .func (.func g) #[] lb] w fun e w' => e = .returned (.bool (xs.any p)) ∧ Below w.heap.size w w' := by
  have HR := Lib.hid hR; clear hR
  have HF := Lib.hid hf; clear hf
  go_enter Try.func93, Try.ntmps93
  go_wp2_with (go_at_call 117; refine (tk_idx _ _ _ _ _ _ _ _ HR.out HF.out).mono ?_; rintro e w1 ⟨rfl, hb1⟩)
  go_ret
  exact ⟨ret_bool (idxGo_any p xs 0), by (repeat' (first | (with_reducible exact Below.refl _ _) | (with_reducible assumption) | (with_reducible refine Below.alloc ?_ ?_ _) | (with_reducible refine Below.drew ?_) | (with_reducible refine Below.draws ?_ _) | (with_reducible refine Below.setCell ?_ ?_ _) | (refine Below.then ?_ (by with_reducible assumption)) | go_size))⟩

theorem pc_idx (g : Nat) (lb : Array Value) (p : P2 → Bool) (a : Option Addr) (n c : Nat) (xs : List P2) (w : World) (hR : Rd w a n 2 (xs.map enc2)) (hf : PredIn g lb valPc p xs w) :
    Calls Try.prog 131 #[.slice a n c, .func (.func g) #[] lb] w fun e w' => e = .returned (.int .i64 (idxGo p 0 xs)) ∧ Below w.heap.size w w' := by
  have HL := Lib.hid hR.length
  have hs := hR.small
  have HR := Lib.hid hR; clear hR
  have eg := hf.eg
  have HF := Lib.hid hf.gives; clear hf
  generalize hg : idxGo p 0 xs = R
  have HG := Lib.hid hg; clear hg
  go_enter Try.func131, Try.ntmps131
  go_wp2
  go_loopw [8] (fun i wr => ∃ k : Nat, k ≤ n ∧ i = .int .i64 k ∧ idxGo p k (xs.drop k) = R ∧ Below w.heap.size w wr) (fun i _ => n - (intOf i).toNat)
  case atStart => exact ⟨0, Nat.zero_le _, rfl, HG.out, Below.refl _ _⟩
  case round =>
    obtain ⟨k, hk, rfl, he, hB⟩ := hrel
    have HE := Lib.hid he; clear he
    by_cases hlt : k < n
    · obtain ⟨x, b, off, rfl, hb, hc, hx, _, HD⟩ := (HR.out.ext hB).nextK k hlt
      have h0 := hc 0 (by omega)
      have h1 := hc 1 (by omega)
      clear hc
      simp [enc2] at h0 h1
      have hcall := HF.out x hx wr hB
      have HB := Lib.hid hB; clear hB
      have HE2 : Hid ((if p x = true then (k : Int) else idxGo p (k + 1) (xs.drop (k + 1))) = R) := by have := HE.out; rw [HD.out] at this; exact this
      cases hq : p x
      · rw [hq] at hcall HE2
        go_wp2_with (go_at_fn g; refine hcall.mono ?_; rintro e w1 ⟨rfl, hb1⟩)
        go_roundw
        case rel => exact ⟨k + 1, by omega, by go_num, by simpa using HE2.out, HB.out.trans (hb1.mono HB.out.size)⟩
        case measure => simp [intOf]; omega
      · rw [hq] at hcall HE2
        have : R = k := by simpa using HE2.out.symm
        subst this
        go_wp2_with (go_at_fn g; refine hcall.mono ?_; rintro e w1 ⟨rfl, hb1⟩)
        go_ret
        exact ⟨rfl, HB.out.trans (hb1.mono HB.out.size)⟩
    · have : R = -1 := by rw [← HE.out, drop_end HL.out (by omega)]; rfl
      subst this
      go_wp2
      go_ret
      exact ⟨rfl, hB⟩
theorem pc_con (g : Nat) (lb : Array Value) (p : P2 → Bool) (a : Option Addr) (n c : Nat) (xs : List P2) (w : World) (hR : Rd w a n 2 (xs.map enc2)) (hf : PredIn g lb valPc p xs w) :
    Calls Try.prog 120 #[.slice a n c, .func (.func g) #[] lb] w fun e w' => e = .returned (.bool (xs.any p)) ∧ Below w.heap.size w w' := by
  have HR := Lib.hid hR; clear hR
  have HF := Lib.hid hf; clear hf
  go_enter Try.func120, Try.ntmps120
  go_wp2_with (go_at_call 131; refine (pc_idx _ _ _ _ _ _ _ _ HR.out HF.out).mono ?_; rintro e w1 ⟨rfl, hb1⟩)
  go_ret
  exact ⟨ret_bool (idxGo_any p xs 0), by (repeat' (first | (with_reducible exact Below.refl _ _) | (with_reducible assumption) | (with_reducible refine Below.alloc ?_ ?_ _) | (with_reducible refine Below.drew ?_) | (with_reducible refine Below.draws ?_ _) | (with_reducible refine Below.setCell ?_ ?_ _) | (refine Below.then ?_ (by with_reducible assumption)) | go_size))⟩

theorem ilk_any (n : Int) (w : World) : Calls Try.prog 122 #[.int .i64 n] w fun e w' => e = .returned (.bool (inB n 0 5)) ∧ w = w' := by
  go_enter Try.func122, Try.ntmps122
  go_wp2
  all_goals (go_ret; exact ⟨ret_bool (by rw [inB_eq]; simp [*]; try omega), rfl⟩)
theorem ilk_is {n : Int} {b : Bool} {w : World} (h : inB n 0 5 = b) : Calls Try.prog 122 #[.int .i64 n] w fun e w' => e = .returned (.bool b) ∧ w = w' := by subst h; exact ilk_any n w
theorem pieceF_any (p : P2) (w : World) : Calls Try.prog 121 #[valPc p] w fun e w' => e = .returned (.bool (!pieceB p)) ∧ Below w.heap.size w w' := by
  obtain ⟨t, l⟩ := p
  obtain ⟨R, hR⟩ : ∃ R, pieceB (t, l) = R := ⟨_, rfl⟩
  rw [hR]
  unfold pieceB at hR
  simp only [] at hR
  by_cases h1 : t < 1
  · have : R = false := by rw [← hR, inB_eq]; simp; omega
    subst this
    clear hR
    go_enter Try.func121, Try.ntmps121
    go_wp2
    go_ret
    exact ⟨rfl, by (repeat' (first | (with_reducible exact Below.refl _ _) | (with_reducible assumption) | (with_reducible refine Below.alloc ?_ ?_ _) | (with_reducible refine Below.drew ?_) | (with_reducible refine Below.draws ?_ _) | (with_reducible refine Below.setCell ?_ ?_ _) | (refine Below.then ?_ (by with_reducible assumption)) | go_size))⟩
  · by_cases h2 : 200 < t
    · have : R = false := by rw [← hR, inB_eq]; simp; omega
      subst this
      have h1' : decide (t < 1) = false := by simpa using h1
      clear hR
      go_enter Try.func121, Try.ntmps121
      go_wp2
      go_ret
      exact ⟨rfl, by (repeat' (first | (with_reducible exact Below.refl _ _) | (with_reducible assumption) | (with_reducible refine Below.alloc ?_ ?_ _) | (with_reducible refine Below.drew ?_) | (with_reducible refine Below.draws ?_ _) | (with_reducible refine Below.setCell ?_ ?_ _) | (refine Below.then ?_ (by with_reducible assumption)) | go_size))⟩
    · have h1' : decide (t < 1) = false := by simpa using h1
      have h2' : decide (200 < t) = false := by simpa using h2
      have e1 : inB t 1 200 = true := inB_iff.2 (by omega)
      rw [e1, Bool.true_and] at hR
      by_cases h3 : l = -1
      · subst h3
        obtain rfl : R = true := by rw [← hR]; rfl
        clear hR
        go_enter Try.func121, Try.ntmps121
        go_wp2
        go_ret
        exact ⟨rfl, by (repeat' (first | (with_reducible exact Below.refl _ _) | (with_reducible assumption) | (with_reducible refine Below.alloc ?_ ?_ _) | (with_reducible refine Below.drew ?_) | (with_reducible refine Below.draws ?_ _) | (with_reducible refine Below.setCell ?_ ?_ _) | (refine Below.then ?_ (by with_reducible assumption)) | go_size))⟩
      · have h3' : (l != -1) = true := by simpa using h3
        have e2 : inB l 0 5 = R := by rw [← hR]; unfold inB; congr 1; exact propext ⟨fun h => by omega, fun h => by omega⟩
        have HE := Lib.hid e2
        clear hR e2 e1
        cases R
        all_goals
          go_enter Try.func121, Try.ntmps121
          go_wp2_with (go_at_call 122; refine (ilk_is HE.out).mono ?_; rintro e w1 ⟨rfl, rfl⟩)
          go_ret
          exact ⟨rfl, by (repeat' (first | (with_reducible exact Below.refl _ _) | (with_reducible assumption) | (with_reducible refine Below.alloc ?_ ?_ _) | (with_reducible refine Below.drew ?_) | (with_reducible refine Below.draws ?_ _) | (with_reducible refine Below.setCell ?_ ?_ _) | (refine Below.then ?_ (by with_reducible assumption)) | go_size))⟩
theorem any_not {α : Type} (f : α → Bool) : ∀ l : List α, (l.any fun x => !f x) = !(l.all f)
  | [] => rfl
  | x :: l => by simp [any_not f l]
theorem pieces_any (a : Option Addr) (n c : Nat) (xs : List P2) (w : World) (hR : Rd w a n 2 (xs.map enc2)) :
    Calls Try.prog 120 #[.slice a n c, .func (.func 121) #[] #[]] w fun e w' => e = .returned (.bool (!(xs.all pieceB))) ∧ Below w.heap.size w w' := by
  have := pc_con 121 #[] (fun p => !pieceB p) a n c xs w hR ⟨fun args w => by kernel_rfl, fun x hx w' hb => pieceF_any x w'⟩
  rw [any_not] at this
  exact this
theorem pieces_is {a : Option Addr} {n c : Nat} {xs : List P2} {w : World} {b : Bool} (hR : Rd w a n 2 (xs.map enc2)) (h : xs.all pieceB = b) :
    Calls Try.prog 120 #[.slice a n c, .func (.func 121) #[] #[]] w fun e w' => e = .returned (.bool (!b)) ∧ Below w.heap.size w w' := by subst h; exact pieces_any a n c xs w hR
theorem taskB_eq {t : Ta} {n : Nat} (h : t.pcs.length = n) : taskB t = (inB t.pri 0 99 && inB n 1 8 && t.pcs.all pieceB) := by rw [← h]; rfl
set_option maxHeartbeats 1000000 in
theorem taskF_any (t : TaV) (w : World) (hok : t.ok w) : Calls Try.prog 119 #[valTa t] w fun e w' => e = .returned (.bool (!taskB t.ta)) ∧ Below w.heap.size w w' := by
  obtain ⟨pri, dl, first, gap, jit, a, n, c, pcs⟩ := t
  obtain ⟨hR, hN⟩ := hok
  simp only [] at hR hN
  have hl := hR.length
  have hs := hR.small
  rw [taskB_eq (t := TaV.ta ⟨pri, dl, first, gap, jit, a, n, c, pcs⟩) hl]
  obtain ⟨R, hRR⟩ : ∃ R, (inB pri 0 99 && inB n 1 8 && pcs.all pieceB) = R := ⟨_, rfl⟩
  show Calls _ _ _ _ (fun e w' => e = .returned (.bool (!(inB pri 0 99 && inB n 1 8 && pcs.all pieceB))) ∧ _)
  rw [hRR]
  have HR := Lib.hid hR
  clear hR hl hN
  by_cases h1 : pri < 0
  · have : R = false := by rw [← hRR, inB_eq]; simp; omega
    subst this
    clear hRR
    go_enter Try.func119, Try.ntmps119
    go_wp2
    go_ret
    exact ⟨rfl, by (repeat' (first | (with_reducible exact Below.refl _ _) | (with_reducible assumption) | (with_reducible refine Below.alloc ?_ ?_ _) | (with_reducible refine Below.drew ?_) | (with_reducible refine Below.draws ?_ _) | (with_reducible refine Below.setCell ?_ ?_ _) | (refine Below.then ?_ (by with_reducible assumption)) | go_size))⟩
  · by_cases h2 : 99 < pri
    · have : R = false := by rw [← hRR, inB_eq]; simp; omega
      subst this
      have h1' : decide (pri < 0) = false := by simpa using h1
      clear hRR
      go_enter Try.func119, Try.ntmps119
      go_wp2
      go_ret
      exact ⟨rfl, by (repeat' (first | (with_reducible exact Below.refl _ _) | (with_reducible assumption) | (with_reducible refine Below.alloc ?_ ?_ _) | (with_reducible refine Below.drew ?_) | (with_reducible refine Below.draws ?_ _) | (with_reducible refine Below.setCell ?_ ?_ _) | (refine Below.then ?_ (by with_reducible assumption)) | go_size))⟩
    · have h1' : decide (pri < 0) = false := by simpa using h1
      have h2' : decide (99 < pri) = false := by simpa using h2
      rw [show inB pri 0 99 = true from inB_iff.2 (by omega), Bool.true_and] at hRR
      by_cases h3 : n < 1
      · have : R = false := by rw [← hRR, inB_eq]; simp; omega
        subst this
        have h3' : (n : Int) < 1 := by omega
        clear hRR
        go_enter Try.func119, Try.ntmps119
        go_wp2
        go_ret
        exact ⟨rfl, by (repeat' (first | (with_reducible exact Below.refl _ _) | (with_reducible assumption) | (with_reducible refine Below.alloc ?_ ?_ _) | (with_reducible refine Below.drew ?_) | (with_reducible refine Below.draws ?_ _) | (with_reducible refine Below.setCell ?_ ?_ _) | (refine Below.then ?_ (by with_reducible assumption)) | go_size))⟩
      · by_cases h4 : 8 < n
        · have : R = false := by rw [← hRR, inB_eq]; simp; omega
          subst this
          have h3' : decide ((n : Int) < 1) = false := by simp; omega
          have h3'' : decide (n < 1) = false := by simp; omega
          have h4' : 8 < (n : Int) := by omega
          clear hRR
          go_enter Try.func119, Try.ntmps119
          go_wp2
          go_ret
          exact ⟨rfl, by (repeat' (first | (with_reducible exact Below.refl _ _) | (with_reducible assumption) | (with_reducible refine Below.alloc ?_ ?_ _) | (with_reducible refine Below.drew ?_) | (with_reducible refine Below.draws ?_ _) | (with_reducible refine Below.setCell ?_ ?_ _) | (refine Below.then ?_ (by with_reducible assumption)) | go_size))⟩
        · rw [show inB n 1 8 = true from inB_iff.2 (by omega), Bool.true_and] at hRR
          have h3' : decide ((n : Int) < 1) = false := by simp; omega
          have h4' : decide (8 < (n : Int)) = false := by simp; omega
          have h3'' : decide (n < 1) = false := by simp; omega
          have h4'' : decide (8 < n) = false := by simp; omega
          have HE := Lib.hid hRR
          clear hRR h3 h4
          cases R
          all_goals
            go_enter Try.func119, Try.ntmps119
            go_wp2_with (go_at_call 120; (with_reducible refine (pieces_is (HR.out.ext (by (repeat' (first | (with_reducible exact Below.refl _ _) | (with_reducible assumption) | (with_reducible refine Below.alloc ?_ ?_ _) | (with_reducible refine Below.drew ?_) | (with_reducible refine Below.draws ?_ _) | (with_reducible refine Below.setCell ?_ ?_ _) | (refine Below.then ?_ (by with_reducible assumption)) | go_size)))) HE.out).mono ?_); rintro e w1 ⟨rfl, hb1⟩)
            go_ret
            exact ⟨rfl, by (repeat' (first | (with_reducible exact Below.refl _ _) | (with_reducible assumption) | (with_reducible refine Below.alloc ?_ ?_ _) | (with_reducible refine Below.drew ?_) | (with_reducible refine Below.draws ?_ _) | (with_reducible refine Below.setCell ?_ ?_ _) | (refine Below.then ?_ (by with_reducible assumption)) | go_size))⟩
theorem right_any (a : Option Addr) (n c : Nat) (L : List Ta) (w : World) (hL : RdL w a n L) : Calls Try.prog 100 #[.slice a n c] w fun e w' => e = .returned (.bool (rightB L)) ∧ Below w.heap.size w w' := by
  obtain ⟨g, hG, rfl⟩ := hL
  have hl := hG.length
  have hs := hG.rd.small
  obtain ⟨R, hR⟩ : ∃ R, rightB (g.map TaV.ta) = R := ⟨_, rfl⟩
  rw [hR]
  unfold rightB at hR
  rw [List.length_map, hl, List.all_map] at hR
  have HG := Lib.hid hG
  clear hG hl
  by_cases h5 : n ≤ 5
  · rw [decide_eq_true h5, Bool.true_and] at hR
    have h5' : (n : Int) ≤ 5 := by omega
    have HC : Hid (Calls Try.prog 93 #[.slice a n c, .func (.func 119) #[] #[]] w fun e w' => e = .returned (.bool (!R)) ∧ Below w.heap.size w w') := by
      have := tk_con 119 #[] (fun t => !taskB t.ta) a n c g w HG.out.rd ⟨fun args w => by kernel_rfl, fun x hx w' hb => taskF_any x w' ((HG.out.ok x hx).ext hb)⟩
      rw [any_not (fun t : TaV => taskB t.ta)] at this
      have e : g.all (fun t => taskB t.ta) = R := hR
      rw [e] at this
      exact Lib.hid this
    clear hR
    cases R
    all_goals
      go_enter Try.func100, Try.ntmps100
      go_wp2_with (go_at_call 93; refine (HC.out).mono ?_; rintro e w1 ⟨rfl, hb1⟩; obtain ⟨hc1, hf1, hz1, hr1⟩ := bfacts hb1; (try simp only [World.size_alloc, World.size_setCell, World.size_drew, World.size_drewN] at hz1 hr1); (try have hw0 : w.heap.size < w1.heap.size := by omega); (try have hw1 : w.heap.size + 1 < w1.heap.size := by omega); (try have hw2 : w.heap.size + 1 + 1 < w1.heap.size := by omega))
      go_ret
      exact ⟨rfl, by (repeat' (first | (with_reducible exact Below.refl _ _) | (with_reducible assumption) | (with_reducible refine Below.alloc ?_ ?_ _) | (with_reducible refine Below.drew ?_) | (with_reducible refine Below.draws ?_ _) | (with_reducible refine Below.setCell ?_ ?_ _) | (refine Below.then ?_ (by with_reducible assumption)) | go_size))⟩
  · rw [decide_eq_false h5, Bool.false_and] at hR
    subst hR
    have h5' : decide ((n : Int) ≤ 5) = false := by simp; omega
    have h5'' : decide (n ≤ 5) = false := by simp; omega
    go_enter Try.func100, Try.ntmps100
    go_wp2
    go_ret
    exact ⟨rfl, by (repeat' (first | (with_reducible exact Below.refl _ _) | (with_reducible assumption) | (with_reducible refine Below.alloc ?_ ?_ _) | (with_reducible refine Below.drew ?_) | (with_reducible refine Below.draws ?_ _) | (with_reducible refine Below.setCell ?_ ?_ _) | (refine Below.then ?_ (by with_reducible assumption)) | go_size))⟩
theorem right_is {a : Option Addr} {n c : Nat} {L : List Ta} {w : World} {b : Bool} (hL : RdL w a n L) (h : rightB L = b) : Calls Try.prog 100 #[.slice a n c] w fun e w' => e = .returned (.bool b) ∧ Below w.heap.size w w' := by subst h; exact right_any a n c L w hL
end Go.Proofs.Ytlhnhmimhpcoaaa
