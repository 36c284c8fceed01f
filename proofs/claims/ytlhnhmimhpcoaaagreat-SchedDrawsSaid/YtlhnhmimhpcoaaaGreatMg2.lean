/- Tasks in memory; the contracts of right and Tasks. The conditions: the tasks read as named. From what a row says of an argument to what the walks use. No condition: plain lemmas. From what a row says of tasks to what the walks use. No condition: plain lemmas. From what a row says of a list of events, its reach with it, to what the walks use. No condition: plain lemmas. A run of tasks, in plain Lean: the machine of the scheduler, what holds of it, who is chosen. No condition: plain lemmas. What holds of the machine of the scheduler stays so. No condition: plain lemmas. -/
import Derived.Test.YtlhnhmimhpcoaaaGreatMg1
namespace Go.Proofs.YtlhnhmimhpcoaaaGreat
open Go.RowKit
set_option linter.unusedSimpArgs false
set_option linter.unusedVariables false
/-- a task as it lies in memory -/
structure TaV where
  pri : Int
  dl : Int
  first : Int
  gap : Int
  jit : Int
  a : Option Addr
  n : Nat
  c : Nat
  pcs : List P2
deriving Inhabited
def TaV.ta (t : TaV) : Ta := ⟨t.pri, t.dl, t.first, t.gap, t.jit, t.pcs⟩
def encTa (t : TaV) : List Value := [.int .i64 t.pri, .int .i64 t.dl, .int .i64 t.first, .int .i64 t.gap, .int .i64 t.jit, .slice t.a t.n t.c]
abbrev valTa (t : TaV) : Value := .agg #[.int .i64 t.pri, .int .i64 t.dl, .int .i64 t.first, .int .i64 t.gap, .int .i64 t.jit, .slice t.a t.n t.c]
abbrev valPc (p : P2) : Value := .agg #[.int .i64 p.1, .int .i64 p.2]
theorem encTa_len (t : TaV) : (encTa t).length = 6 := rfl
theorem encTa_one (t : TaV) : ∀ u ∈ encTa t, u.oneCell' = true := by intro u hu; simp [encTa] at hu; rcases hu with rfl | rfl | rfl | rfl | rfl | rfl <;> rfl
theorem enc2_len (p : P2) : (enc2 p).length = 2 := rfl
theorem enc2_one (p : P2) : ∀ u ∈ enc2 p, u.oneCell' = true := by intro u hu; simp [enc2] at hu; rcases hu with rfl | rfl <;> rfl
def NilOk (a : Option Addr) (n c : Nat) : Prop := n = 0 → (a = none ∧ c = 0) ∨ ∃ ad, a = some ad
def TaV.ok (w : World) (t : TaV) : Prop := Rd w t.a t.n 2 (t.pcs.map enc2) ∧ NilOk t.a t.n t.c
theorem TaV.ok.ext {w w' : World} {t : TaV} (h : t.ok w) (hb : Below w.heap.size w w') : t.ok w' := ⟨h.1.ext hb, h.2⟩
structure RdT (w : World) (a : Option Addr) (n : Nat) (g : List TaV) : Prop where
  rd : Rd w a n 6 (g.map encTa)
  ok : ∀ t ∈ g, t.ok w
theorem RdT.ext {w w' : World} {a n g} (h : RdT w a n g) (hb : Below w.heap.size w w') : RdT w' a n g := ⟨h.rd.ext hb, fun t ht => (h.ok t ht).ext hb⟩
theorem RdT.length {w a n} {g : List TaV} (h : RdT w a n g) : g.length = n := h.rd.length
/-- a slice reads as these tasks -/
def RdL (w : World) (a : Option Addr) (n : Nat) (L : List Ta) : Prop := ∃ g : List TaV, RdT w a n g ∧ g.map TaV.ta = L
theorem RdT.rdL {w a n} {g : List TaV} (h : RdT w a n g) : RdL w a n (g.map TaV.ta) := ⟨g, h, rfl⟩
theorem RdL.ext {w w' : World} {a n L} (h : RdL w a n L) (hb : Below w.heap.size w w') : RdL w' a n L := ⟨h.choose, h.choose_spec.1.ext hb, h.choose_spec.2⟩
theorem RdL.length {w a n} {L : List Ta} (h : RdL w a n L) : L.length = n := by obtain ⟨g, h1, rfl⟩ := h; simpa using h1.length
theorem RdL.small {w a n} {L : List Ta} (h : RdL w a n L) : n ≤ 9223372036854775807 := by obtain ⟨g, h1, rfl⟩ := h; exact h1.rd.small
theorem later_rdL {w w1 : World} {x : After w1} {a n L} (h : RdL w a n L) (hb : Below w.heap.size w w1) : RdL (World.later w1 x) a n L := (h.ext hb).ext x.below
theorem RdL.at_ {w a n} {L : List Ta} (h : RdL w a n L) (k : Nat) (hk : k < n) : ∃ (t : Ta) (b off : Nat) (pa : Option Addr) (pn pc : Nat), a = some ⟨b, off, none⟩ ∧ b < w.heap.size ∧
    w.cell? ⟨b, off + k * 6, none⟩ = some (.int .i64 t.pri) ∧ w.cell? ⟨b, off + k * 6 + 1, none⟩ = some (.int .i64 t.dl) ∧ w.cell? ⟨b, off + k * 6 + 2, none⟩ = some (.int .i64 t.first) ∧ w.cell? ⟨b, off + k * 6 + 3, none⟩ = some (.int .i64 t.gap) ∧
    w.cell? ⟨b, off + k * 6 + 4, none⟩ = some (.int .i64 t.jit) ∧ w.cell? ⟨b, off + k * 6 + 5, none⟩ = some (.slice pa pn pc) ∧ Rd w pa pn 2 (t.pcs.map enc2) ∧ NilOk pa pn pc ∧ L[k]? = some t ∧ Hid (L.drop k = t :: L.drop (k + 1)) := by
  obtain ⟨g, h1, rfl⟩ := h
  have hl : k < g.length := by rw [h1.length]; exact hk
  obtain ⟨b, off, rfl, hlt, hc⟩ := h1.rd.at_ (by omega)
  have c0 := hc k (by simpa using hl) 0 (by omega)
  have c1 := hc k (by simpa using hl) 1 (by omega)
  have c2 := hc k (by simpa using hl) 2 (by omega)
  have c3 := hc k (by simpa using hl) 3 (by omega)
  have c4 := hc k (by simpa using hl) 4 (by omega)
  have c5 := hc k (by simpa using hl) 5 (by omega)
  simp [encTa] at c0 c1 c2 c3 c4 c5
  have hok := h1.ok _ (List.getElem_mem hl)
  refine ⟨g[k].ta, b, off, g[k].a, g[k].n, g[k].c, rfl, hlt, c0, c1, c2, c3, c4, c5, hok.1, hok.2, by simp [List.getElem?_eq_getElem hl], ?_⟩
  have : (g.map TaV.ta).drop k = _ := List.drop_eq_getElem_cons (by simpa using hl)
  rw [List.getElem_map] at this
  exact this
theorem tk_idx (g : Nat) (lb : Array Value) (p : TaV → Bool) (a : Option Addr) (n c : Nat) (xs : List TaV) (w : World) (hR : Rd w a n 6 (xs.map encTa)) (hf : PredIn g lb valTa p xs w) :
    Calls Tryz.prog 107 #[.slice a n c, .func (.func g) #[] lb] w fun e w' => e = .returned (.int .i64 (idxGo p 0 xs)) ∧ Below w.heap.size w w' := by
  have HL := Lib.hid hR.length
  have hs := hR.small
  have HR := Lib.hid hR; clear hR
  have eg := hf.eg
  have HF := Lib.hid hf.gives; clear hf
  generalize hg : idxGo p 0 xs = R
  have HG := Lib.hid hg; clear hg
  go_enter Tryz.func107, Tryz.ntmps107
  go_wp2
  go_loopw [8] (fun i wr => ∃ k : Nat, k ≤ n ∧ i = .int .i64 k ∧ idxGo p k (xs.drop k) = R ∧ Below w.heap.size w wr) (fun i _ => n - (intOf i).toNat)
  case atStart => exact ⟨0, Nat.zero_le _, rfl, HG.out, Below.refl _ _⟩
  case round =>
    obtain ⟨k, hk, rfl, he, hB⟩ := hrel
    have HE := Lib.hid he; clear he
    by_cases hlt : k < n
    · obtain ⟨x, b, off, rfl, hb, hc, hx, _, HD⟩ := (HR.out.ext hB).nextK k hlt
      have h0 := hc 0 (by omega)
      have h1 := hc 1 (by omega)
      have h2 := hc 2 (by omega)
      have h3 := hc 3 (by omega)
      have h4 := hc 4 (by omega)
      have h5 := hc 5 (by omega)
      clear hc
      simp [encTa] at h0 h1 h2 h3 h4 h5
      have hcall := HF.out x hx wr hB
      have HB := Lib.hid hB; clear hB
      have HE2 : Hid ((if p x = true then (k : Int) else idxGo p (k + 1) (xs.drop (k + 1))) = R) := by have := HE.out; rw [HD.out] at this; exact this
      cases hq : p x
      · rw [hq] at hcall HE2
        go_wp2_with (go_at_fn g; refine hcall.mono ?_; rintro e w1 ⟨rfl, hb1⟩)
        go_roundw
        case rel => exact ⟨k + 1, by omega, by go_num, by simpa using HE2.out, HB.out.trans (hb1.mono HB.out.size)⟩
        case measure => simp [intOf]; omega
      · rw [hq] at hcall HE2
        have : R = k := by simpa using HE2.out.symm
        subst this
        go_wp2_with (go_at_fn g; refine hcall.mono ?_; rintro e w1 ⟨rfl, hb1⟩)
        go_ret
        exact ⟨rfl, HB.out.trans (hb1.mono HB.out.size)⟩
    · have : R = -1 := by rw [← HE.out, drop_end HL.out (by omega)]; rfl
      subst this
      go_wp2
      go_ret
      exact ⟨rfl, hB⟩
theorem tk_con (g : Nat) (lb : Array Value) (p : TaV → Bool) (a : Option Addr) (n c : Nat) (xs : List TaV) (w : World) (hR : Rd w a n 6 (xs.map encTa)) (hf : PredIn g lb valTa p xs w) :
    Calls Tryz.prog 75 #[.slice a n c, .func (.func g) #[] lb] w fun e w' => e = .returned (.bool (xs.any p)) ∧ Below w.heap.size w w' := by
  have HR := Lib.hid hR; clear hR
  have HF := Lib.hid hf; clear hf
  go_enter Tryz.func75, Tryz.ntmps75
  go_wp2_with (go_at_call 107; refine (tk_idx _ _ _ _ _ _ _ _ HR.out HF.out).mono ?_; rintro e w1 ⟨rfl, hb1⟩)
  go_ret
  exact ⟨ret_bool (idxGo_any p xs 0), by (repeat' (first | (with_reducible exact Below.refl _ _) | (with_reducible assumption) | (with_reducible refine Below.alloc ?_ ?_ _) | (with_reducible refine Below.drew ?_) | (with_reducible refine Below.draws ?_ _) | (with_reducible refine Below.setCell ?_ ?_ _) | (refine Below.then ?_ (by with_reducible assumption)) | go_size))⟩

theorem pc_idx (g : Nat) (lb : Array Value) (p : P2 → Bool) (a : Option Addr) (n c : Nat) (xs : List P2) (w : World) (hR : Rd w a n 2 (xs.map enc2)) (hf : PredIn g lb valPc p xs w) :
    Calls Tryz.prog 124 #[.slice a n c, .func (.func g) #[] lb] w fun e w' => e = .returned (.int .i64 (idxGo p 0 xs)) ∧ Below w.heap.size w w' := by
  have HL := Lib.hid hR.length
  have hs := hR.small
  have HR := Lib.hid hR; clear hR
  have eg := hf.eg
  have HF := Lib.hid hf.gives; clear hf
  generalize hg : idxGo p 0 xs = R
  have HG := Lib.hid hg; clear hg
  go_enter Tryz.func124, Tryz.ntmps124
  go_wp2
  go_loopw [8] (fun i wr => ∃ k : Nat, k ≤ n ∧ i = .int .i64 k ∧ idxGo p k (xs.drop k) = R ∧ Below w.heap.size w wr) (fun i _ => n - (intOf i).toNat)
  case atStart => exact ⟨0, Nat.zero_le _, rfl, HG.out, Below.refl _ _⟩
  case round =>
    obtain ⟨k, hk, rfl, he, hB⟩ := hrel
    have HE := Lib.hid he; clear he
    by_cases hlt : k < n
    · obtain ⟨x, b, off, rfl, hb, hc, hx, _, HD⟩ := (HR.out.ext hB).nextK k hlt
      have h0 := hc 0 (by omega)
      have h1 := hc 1 (by omega)
      clear hc
      simp [enc2] at h0 h1
      have hcall := HF.out x hx wr hB
      have HB := Lib.hid hB; clear hB
      have HE2 : Hid ((if p x = true then (k : Int) else idxGo p (k + 1) (xs.drop (k + 1))) = R) := by have := HE.out; rw [HD.out] at this; exact this
      cases hq : p x
      · rw [hq] at hcall HE2
        go_wp2_with (go_at_fn g; refine hcall.mono ?_; rintro e w1 ⟨rfl, hb1⟩)
        go_roundw
        case rel => exact ⟨k + 1, by omega, by go_num, by simpa using HE2.out, HB.out.trans (hb1.mono HB.out.size)⟩
        case measure => simp [intOf]; omega
      · rw [hq] at hcall HE2
        have : R = k := by simpa using HE2.out.symm
        subst this
        go_wp2_with (go_at_fn g; refine hcall.mono ?_; rintro e w1 ⟨rfl, hb1⟩)
        go_ret
        exact ⟨rfl, HB.out.trans (hb1.mono HB.out.size)⟩
    · have : R = -1 := by rw [← HE.out, drop_end HL.out (by omega)]; rfl
      subst this
      go_wp2
      go_ret
      exact ⟨rfl, hB⟩
theorem pc_con (g : Nat) (lb : Array Value) (p : P2 → Bool) (a : Option Addr) (n c : Nat) (xs : List P2) (w : World) (hR : Rd w a n 2 (xs.map enc2)) (hf : PredIn g lb valPc p xs w) :
    Calls Tryz.prog 109 #[.slice a n c, .func (.func g) #[] lb] w fun e w' => e = .returned (.bool (xs.any p)) ∧ Below w.heap.size w w' := by
  have HR := Lib.hid hR; clear hR
  have HF := Lib.hid hf; clear hf
  go_enter Tryz.func109, Tryz.ntmps109
  go_wp2_with (go_at_call 124; refine (pc_idx _ _ _ _ _ _ _ _ HR.out HF.out).mono ?_; rintro e w1 ⟨rfl, hb1⟩)
  go_ret
  exact ⟨ret_bool (idxGo_any p xs 0), by (repeat' (first | (with_reducible exact Below.refl _ _) | (with_reducible assumption) | (with_reducible refine Below.alloc ?_ ?_ _) | (with_reducible refine Below.drew ?_) | (with_reducible refine Below.draws ?_ _) | (with_reducible refine Below.setCell ?_ ?_ _) | (refine Below.then ?_ (by with_reducible assumption)) | go_size))⟩

theorem ilk_any (n : Int) (w : World) : Calls Tryz.prog 111 #[.int .i64 n] w fun e w' => e = .returned (.bool (inB n 0 5)) ∧ w = w' := by
  go_enter Tryz.func111, Tryz.ntmps111
  go_wp2
  all_goals (go_ret; exact ⟨ret_bool (by rw [inB_eq]; simp [*]; try omega), rfl⟩)
theorem ilk_is {n : Int} {b : Bool} {w : World} (h : inB n 0 5 = b) : Calls Tryz.prog 111 #[.int .i64 n] w fun e w' => e = .returned (.bool b) ∧ w = w' := by subst h; exact ilk_any n w
theorem pieceF_any (p : P2) (w : World) : Calls Tryz.prog 110 #[valPc p] w fun e w' => e = .returned (.bool (!pieceB p)) ∧ Below w.heap.size w w' := by
  obtain ⟨t, l⟩ := p
  obtain ⟨R, hR⟩ : ∃ R, pieceB (t, l) = R := ⟨_, rfl⟩
  rw [hR]
  unfold pieceB at hR
  simp only [] at hR
  by_cases h1 : t < 1
  · have : R = false := by rw [← hR, inB_eq]; simp; omega
    subst this
    clear hR
    go_enter Tryz.func110, Tryz.ntmps110
    go_wp2
    go_ret
    exact ⟨rfl, by (repeat' (first | (with_reducible exact Below.refl _ _) | (with_reducible assumption) | (with_reducible refine Below.alloc ?_ ?_ _) | (with_reducible refine Below.drew ?_) | (with_reducible refine Below.draws ?_ _) | (with_reducible refine Below.setCell ?_ ?_ _) | (refine Below.then ?_ (by with_reducible assumption)) | go_size))⟩
  · by_cases h2 : 200 < t
    · have : R = false := by rw [← hR, inB_eq]; simp; omega
      subst this
      have h1' : decide (t < 1) = false := by simpa using h1
      clear hR
      go_enter Tryz.func110, Tryz.ntmps110
      go_wp2
      go_ret
      exact ⟨rfl, by (repeat' (first | (with_reducible exact Below.refl _ _) | (with_reducible assumption) | (with_reducible refine Below.alloc ?_ ?_ _) | (with_reducible refine Below.drew ?_) | (with_reducible refine Below.draws ?_ _) | (with_reducible refine Below.setCell ?_ ?_ _) | (refine Below.then ?_ (by with_reducible assumption)) | go_size))⟩
    · have h1' : decide (t < 1) = false := by simpa using h1
      have h2' : decide (200 < t) = false := by simpa using h2
      have e1 : inB t 1 200 = true := inB_iff.2 (by omega)
      rw [e1, Bool.true_and] at hR
      by_cases h3 : l = -1
      · subst h3
        obtain rfl : R = true := by rw [← hR]; rfl
        clear hR
        go_enter Tryz.func110, Tryz.ntmps110
        go_wp2
        go_ret
        exact ⟨rfl, by (repeat' (first | (with_reducible exact Below.refl _ _) | (with_reducible assumption) | (with_reducible refine Below.alloc ?_ ?_ _) | (with_reducible refine Below.drew ?_) | (with_reducible refine Below.draws ?_ _) | (with_reducible refine Below.setCell ?_ ?_ _) | (refine Below.then ?_ (by with_reducible assumption)) | go_size))⟩
      · have h3' : (l != -1) = true := by simpa using h3
        have e2 : inB l 0 5 = R := by rw [← hR]; unfold inB; congr 1; exact propext ⟨fun h => by omega, fun h => by omega⟩
        have HE := Lib.hid e2
        clear hR e2 e1
        cases R
        all_goals
          go_enter Tryz.func110, Tryz.ntmps110
          go_wp2_with (go_at_call 111; refine (ilk_is HE.out).mono ?_; rintro e w1 ⟨rfl, rfl⟩)
          go_ret
          exact ⟨rfl, by (repeat' (first | (with_reducible exact Below.refl _ _) | (with_reducible assumption) | (with_reducible refine Below.alloc ?_ ?_ _) | (with_reducible refine Below.drew ?_) | (with_reducible refine Below.draws ?_ _) | (with_reducible refine Below.setCell ?_ ?_ _) | (refine Below.then ?_ (by with_reducible assumption)) | go_size))⟩
theorem any_not {α : Type} (f : α → Bool) : ∀ l : List α, (l.any fun x => !f x) = !(l.all f)
  | [] => rfl
  | x :: l => by simp [any_not f l]
theorem pieces_any (a : Option Addr) (n c : Nat) (xs : List P2) (w : World) (hR : Rd w a n 2 (xs.map enc2)) :
    Calls Tryz.prog 109 #[.slice a n c, .func (.func 110) #[] #[]] w fun e w' => e = .returned (.bool (!(xs.all pieceB))) ∧ Below w.heap.size w w' := by
  have := pc_con 110 #[] (fun p => !pieceB p) a n c xs w hR ⟨fun args w => by kernel_rfl, fun x hx w' hb => pieceF_any x w'⟩
  rw [any_not] at this
  exact this
theorem pieces_is {a : Option Addr} {n c : Nat} {xs : List P2} {w : World} {b : Bool} (hR : Rd w a n 2 (xs.map enc2)) (h : xs.all pieceB = b) :
    Calls Tryz.prog 109 #[.slice a n c, .func (.func 110) #[] #[]] w fun e w' => e = .returned (.bool (!b)) ∧ Below w.heap.size w w' := by subst h; exact pieces_any a n c xs w hR
theorem taskB_eq {t : Ta} {n : Nat} (h : t.pcs.length = n) : taskB t = (inB t.pri 0 99 && inB n 1 8 && t.pcs.all pieceB) := by rw [← h]; rfl
set_option maxHeartbeats 1000000 in
theorem taskF_any (t : TaV) (w : World) (hok : t.ok w) : Calls Tryz.prog 108 #[valTa t] w fun e w' => e = .returned (.bool (!taskB t.ta)) ∧ Below w.heap.size w w' := by
  obtain ⟨pri, dl, first, gap, jit, a, n, c, pcs⟩ := t
  obtain ⟨hR, hN⟩ := hok
  simp only [] at hR hN
  have hl := hR.length
  have hs := hR.small
  rw [taskB_eq (t := TaV.ta ⟨pri, dl, first, gap, jit, a, n, c, pcs⟩) hl]
  obtain ⟨R, hRR⟩ : ∃ R, (inB pri 0 99 && inB n 1 8 && pcs.all pieceB) = R := ⟨_, rfl⟩
  show Calls _ _ _ _ (fun e w' => e = .returned (.bool (!(inB pri 0 99 && inB n 1 8 && pcs.all pieceB))) ∧ _)
  rw [hRR]
  have HR := Lib.hid hR
  clear hR hl hN
  by_cases h1 : pri < 0
  · have : R = false := by rw [← hRR, inB_eq]; simp; omega
    subst this
    clear hRR
    go_enter Tryz.func108, Tryz.ntmps108
    go_wp2
    go_ret
    exact ⟨rfl, by (repeat' (first | (with_reducible exact Below.refl _ _) | (with_reducible assumption) | (with_reducible refine Below.alloc ?_ ?_ _) | (with_reducible refine Below.drew ?_) | (with_reducible refine Below.draws ?_ _) | (with_reducible refine Below.setCell ?_ ?_ _) | (refine Below.then ?_ (by with_reducible assumption)) | go_size))⟩
  · by_cases h2 : 99 < pri
    · have : R = false := by rw [← hRR, inB_eq]; simp; omega
      subst this
      have h1' : decide (pri < 0) = false := by simpa using h1
      clear hRR
      go_enter Tryz.func108, Tryz.ntmps108
      go_wp2
      go_ret
      exact ⟨rfl, by (repeat' (first | (with_reducible exact Below.refl _ _) | (with_reducible assumption) | (with_reducible refine Below.alloc ?_ ?_ _) | (with_reducible refine Below.drew ?_) | (with_reducible refine Below.draws ?_ _) | (with_reducible refine Below.setCell ?_ ?_ _) | (refine Below.then ?_ (by with_reducible assumption)) | go_size))⟩
    · have h1' : decide (pri < 0) = false := by simpa using h1
      have h2' : decide (99 < pri) = false := by simpa using h2
      rw [show inB pri 0 99 = true from inB_iff.2 (by omega), Bool.true_and] at hRR
      by_cases h3 : n < 1
      · have : R = false := by rw [← hRR, inB_eq]; simp; omega
        subst this
        have h3' : (n : Int) < 1 := by omega
        clear hRR
        go_enter Tryz.func108, Tryz.ntmps108
        go_wp2
        go_ret
        exact ⟨rfl, by (repeat' (first | (with_reducible exact Below.refl _ _) | (with_reducible assumption) | (with_reducible refine Below.alloc ?_ ?_ _) | (with_reducible refine Below.drew ?_) | (with_reducible refine Below.draws ?_ _) | (with_reducible refine Below.setCell ?_ ?_ _) | (refine Below.then ?_ (by with_reducible assumption)) | go_size))⟩
      · by_cases h4 : 8 < n
        · have : R = false := by rw [← hRR, inB_eq]; simp; omega
          subst this
          have h3' : decide ((n : Int) < 1) = false := by simp; omega
          have h3'' : decide (n < 1) = false := by simp; omega
          have h4' : 8 < (n : Int) := by omega
          clear hRR
          go_enter Tryz.func108, Tryz.ntmps108
          go_wp2
          go_ret
          exact ⟨rfl, by (repeat' (first | (with_reducible exact Below.refl _ _) | (with_reducible assumption) | (with_reducible refine Below.alloc ?_ ?_ _) | (with_reducible refine Below.drew ?_) | (with_reducible refine Below.draws ?_ _) | (with_reducible refine Below.setCell ?_ ?_ _) | (refine Below.then ?_ (by with_reducible assumption)) | go_size))⟩
        · rw [show inB n 1 8 = true from inB_iff.2 (by omega), Bool.true_and] at hRR
          have h3' : decide ((n : Int) < 1) = false := by simp; omega
          have h4' : decide (8 < (n : Int)) = false := by simp; omega
          have h3'' : decide (n < 1) = false := by simp; omega
          have h4'' : decide (8 < n) = false := by simp; omega
          have HE := Lib.hid hRR
          clear hRR h3 h4
          cases R
          all_goals
            go_enter Tryz.func108, Tryz.ntmps108
            go_wp2_with (go_at_call 109; (with_reducible refine (pieces_is (HR.out.ext (by (repeat' (first | (with_reducible exact Below.refl _ _) | (with_reducible assumption) | (with_reducible refine Below.alloc ?_ ?_ _) | (with_reducible refine Below.drew ?_) | (with_reducible refine Below.draws ?_ _) | (with_reducible refine Below.setCell ?_ ?_ _) | (refine Below.then ?_ (by with_reducible assumption)) | go_size)))) HE.out).mono ?_); rintro e w1 ⟨rfl, hb1⟩)
            go_ret
            exact ⟨rfl, by (repeat' (first | (with_reducible exact Below.refl _ _) | (with_reducible assumption) | (with_reducible refine Below.alloc ?_ ?_ _) | (with_reducible refine Below.drew ?_) | (with_reducible refine Below.draws ?_ _) | (with_reducible refine Below.setCell ?_ ?_ _) | (refine Below.then ?_ (by with_reducible assumption)) | go_size))⟩
theorem right_any (a : Option Addr) (n c : Nat) (L : List Ta) (w : World) (hL : RdL w a n L) : Calls Tryz.prog 77 #[.slice a n c] w fun e w' => e = .returned (.bool (rightB L)) ∧ Below w.heap.size w w' := by
  obtain ⟨g, hG, rfl⟩ := hL
  have hl := hG.length
  have hs := hG.rd.small
  obtain ⟨R, hR⟩ : ∃ R, rightB (g.map TaV.ta) = R := ⟨_, rfl⟩
  rw [hR]
  unfold rightB at hR
  rw [List.length_map, hl, List.all_map] at hR
  have HG := Lib.hid hG
  clear hG hl
  by_cases h5 : n ≤ 5
  · rw [decide_eq_true h5, Bool.true_and] at hR
    have h5' : (n : Int) ≤ 5 := by omega
    have HC : Hid (Calls Tryz.prog 75 #[.slice a n c, .func (.func 108) #[] #[]] w fun e w' => e = .returned (.bool (!R)) ∧ Below w.heap.size w w') := by
      have := tk_con 108 #[] (fun t => !taskB t.ta) a n c g w HG.out.rd ⟨fun args w => by kernel_rfl, fun x hx w' hb => taskF_any x w' ((HG.out.ok x hx).ext hb)⟩
      rw [any_not (fun t : TaV => taskB t.ta)] at this
      have e : g.all (fun t => taskB t.ta) = R := hR
      rw [e] at this
      exact Lib.hid this
    clear hR
    cases R
    all_goals
      go_enter Tryz.func77, Tryz.ntmps77
      go_wp2_with (go_at_call 75; refine (HC.out).mono ?_; rintro e w1 ⟨rfl, hb1⟩; obtain ⟨hc1, hf1, hz1, hr1⟩ := bfacts hb1; (try simp only [World.size_alloc, World.size_setCell, World.size_drew, World.size_drewN] at hz1 hr1); (try have hw0 : w.heap.size < w1.heap.size := by omega); (try have hw1 : w.heap.size + 1 < w1.heap.size := by omega); (try have hw2 : w.heap.size + 1 + 1 < w1.heap.size := by omega))
      go_ret
      exact ⟨rfl, by (repeat' (first | (with_reducible exact Below.refl _ _) | (with_reducible assumption) | (with_reducible refine Below.alloc ?_ ?_ _) | (with_reducible refine Below.drew ?_) | (with_reducible refine Below.draws ?_ _) | (with_reducible refine Below.setCell ?_ ?_ _) | (refine Below.then ?_ (by with_reducible assumption)) | go_size))⟩
  · rw [decide_eq_false h5, Bool.false_and] at hR
    subst hR
    have h5' : decide ((n : Int) ≤ 5) = false := by simp; omega
    have h5'' : decide (n ≤ 5) = false := by simp; omega
    go_enter Tryz.func77, Tryz.ntmps77
    go_wp2
    go_ret
    exact ⟨rfl, by (repeat' (first | (with_reducible exact Below.refl _ _) | (with_reducible assumption) | (with_reducible refine Below.alloc ?_ ?_ _) | (with_reducible refine Below.drew ?_) | (with_reducible refine Below.draws ?_ _) | (with_reducible refine Below.setCell ?_ ?_ _) | (refine Below.then ?_ (by with_reducible assumption)) | go_size))⟩
theorem right_is {a : Option Addr} {n c : Nat} {L : List Ta} {w : World} {b : Bool} (hL : RdL w a n L) (h : rightB L = b) : Calls Tryz.prog 77 #[.slice a n c] w fun e w' => e = .returned (.bool b) ∧ Below w.heap.size w w' := by subst h; exact right_any a n c L w hL
end Go.Proofs.YtlhnhmimhpcoaaaGreat
namespace Go.Proofs.YtlhnhmimhpcoaaaGreat
open Go.ChangeShapes Go.WideShapes Go.ChangeAt Go.RowKit Go.Joins Go.Deep
set_option linter.unusedSimpArgs false
set_option linter.unusedVariables false
section
variable {H : Type} {enc : TypeId × Value → H} {P : Program} {w : World} {base b0 : Nat} {spare : Nat → Bool} {held : Bool} {r : Reach} {t : TypeId} {v : Value} {d : DataW H} {ps : List MemPlace}
theorem open_i64 (ht : P.underlying t = some (.int .i64)) (hv : Value.okWide P w r b0 t v) (h : DataW.Trod enc P w base spare held t v d ps) : ∃ n, v = .int .i64 n ∧ (-9223372036854775808 ≤ n ∧ n ≤ 9223372036854775807) := by
  obtain ⟨n, rfl, _, _, hw⟩ := open_int ht hv h
  refine ⟨n, rfl, ?_⟩
  simpa [Lit.wf, IntKind.min, IntKind.max, IntKind.signed, IntKind.bits] using hw
theorem open_int3 {f0 f1 f2 : Field} (hs : P.underlying t = some (.struct #[f0, f1, f2])) (hone : oneCellFields P #[f0, f1, f2] = true) (hC : P.cellsOf t = 3)
    (h0 : P.underlying f0.type = some (.int .i64)) (h1 : P.underlying f1.type = some (.int .i64)) (h2 : P.underlying f2.type = some (.int .i64))
    (hv : Value.okWide P w r b0 t v) (h : DataW.Trod enc P w base spare held t v d ps) : ∃ a b c, v = .agg #[.int .i64 a, .int .i64 b, .int .i64 c] := by
  obtain ⟨v0, v1, v2, y0, y1, y2, n, rfl, _, _, k0, k1, k2⟩ := open_agg3 hs hone hC hv h
  obtain ⟨a, e0, _⟩ := DataW.trod_int h0 k0
  obtain ⟨b, e1, _⟩ := DataW.trod_int h1 k1
  obtain ⟨c, e2, _⟩ := DataW.trod_int h2 k2
  simp at e0 e1 e2
  exact ⟨a, b, c, by rw [e0, e1, e2]⟩
end
/-- what a type's cells read as: R w cs y for some y -/
def Opens (P : Program) (t : TypeId) {α : Type} (R : World → List Value → α → Prop) : Prop :=
  ∀ {H : Type} {enc : TypeId × Value → H} {w : World} {base : Nat} {spare : Nat → Bool} {held : Bool} {fuel : Nat} {cs : List Value} {x : DataW H × List MemPlace}, DataW.trod enc P w base spare held fuel t cs = some x → ∃ y, R w cs y
theorem opens_int {P : Program} {t : TypeId} (ht : P.underlying t = some (.int .i64)) : Opens P t (fun _ cs (y : Int) => cs = enc1 y) := by
  intro H enc w base spare held fuel cs x h
  obtain ⟨n, e, _⟩ := DataW.trod_int ht h
  exact ⟨n, e⟩
theorem opens_pair {P : Program} {t e : TypeId} (ht : P.underlying t = some (.array 2 e)) (he : P.underlying e = some (.int .i64)) (hc : P.cellsOf e = 1) (hc2 : P.cellsOf t = 2) : Opens P t (fun _ cs (y : P2) => cs = enc2 y) := by
  intro H enc w base spare held fuel cs x h
  obtain ⟨xs, m, _, _, hl, hx, hf⟩ := DataW.trod_array ht h
  rw [hc2] at hl
  match cs, hl, xs, hx with
  | [u, v], _, [x0, x1], _ =>
    have g0 := hf 0 (by omega)
    have g1 := hf 1 (by omega)
    simp [hc] at g0 g1
    obtain ⟨a, e0, _⟩ := DataW.trod_int he g0
    obtain ⟨b, e1, _⟩ := DataW.trod_int he g1
    simp at e0 e1
    exact ⟨(a, b), by rw [e0, e1]; rfl⟩
theorem addr_add (a : Addr) (i : Nat) (h : a.spot = none) : a.add i = ⟨a.block, a.off + i, none⟩ := by
  obtain ⟨b, o, s⟩ := a
  simp only at h
  subst h
  unfold Addr.add; split <;> simp_all
/-- a slice of flat elements -/
theorem opens_slice {P : Program} {t e : TypeId} {k : Nat} {α : Type} [Inhabited α] {en : α → List Value} (ht : P.underlying t = some (.slice e)) (hk : P.cellsOf e = k) (hk0 : 0 < k) (he : Opens P e (fun _ cs y => cs = en y)) :
    Opens P t (fun w cs (ys : List α) => ∃ a n c, cs = [.slice a n c] ∧ Rd w a n k (ys.map en) ∧ (n = 0 → (a = none ∧ c = 0) ∨ ∃ ad, a = some ad)) := by
  intro H enc w base spare held fuel cs x h
  rcases open_slice ht h with ⟨rfl, _⟩ | ⟨a, len, cap, m, n, D, Pl, rfl, hb, hl, hm, hmm, _, hx⟩
  · exact ⟨[], none, 0, 0, rfl, Rd.nil w k none, fun _ => .inl ⟨rfl, rfl⟩⟩
  · have hlm : len ≤ m := by rw [hmm]; split <;> omega
    have each : ∀ i, i < len → ∃ y : α, ∀ j, j < k → w.cell? ((a.add (i * k)).add j) = (en y)[j]? := by
      intro i hi
      obtain ⟨cs', h1, h2⟩ := hx i (by omega)
      rw [hk] at h1
      obtain ⟨_, hlen, hcell⟩ := World.cells?_some h1
      obtain ⟨y, rfl⟩ := he h2
      exact ⟨y, hcell⟩
    obtain ⟨q, hq⟩ := choose_lt each
    refine ⟨(List.range len).map q, some a, len, cap, rfl, ⟨by simp, by unfold maxLen at hm; omega, fun h0 => ?_⟩, fun _ => .inr ⟨a, rfl⟩⟩
    have c0 := hq 0 h0 0 hk0
    have hne : ∃ v, w.cell? ((a.add (0 * k)).add 0) = some v := by
      obtain ⟨cs', h1, h2⟩ := hx 0 (by omega)
      rw [hk] at h1
      obtain ⟨_, hlen, hcell⟩ := World.cells?_some h1
      rw [hcell 0 hk0]
      exact ⟨cs'[0], by simp [List.getElem?_eq_getElem, hlen, hk0]⟩
    obtain ⟨v, hv⟩ := hne
    have hs0 := World.cell?_spot hv
    have hsp : a.spot = none := by
      obtain ⟨b, o, s⟩ := a
      unfold Addr.add at hs0
      simp at hs0
      exact hs0
    have hblk := World.block_lt_of_cell? w _ hv
    rw [addr_add _ _ hsp, addr_add _ _ rfl] at hblk
    refine ⟨a.block, a.off, by obtain ⟨b, o, s⟩ := a; simp only at hsp; rw [hsp], hblk, fun i hi j hj => ?_⟩
    have hi' : i < len := by simpa using hi
    have := hq i hi' j hj
    rw [addr_add _ _ hsp, addr_add _ _ rfl] at this
    simp only at this
    rw [this]; simp
set_option maxRecDepth 100000 in
theorem open_pat {H : Type} {enc : TypeId × Value → H} {w : World} {base b0 : Nat} {spare : Nat → Bool} {held : Bool} {r : Reach} {v : Value} {d : DataW H} {ps : List MemPlace}
    (hv : Value.okWide Tryz.prog w r b0 47 v) (h : DataW.Trod enc Tryz.prog w base spare held 47 v d ps) : ∃ a b c, v = .agg #[.int .i64 a, .int .i64 b, .int .i64 c] ∧ True :=
  let ⟨a, b, c, e⟩ := open_int3 Tryz.underlying47 (by kernel_rfl) (by kernel_rfl) Tryz.underlying3 Tryz.underlying3 Tryz.underlying3 hv h
  ⟨a, b, c, e, trivial⟩
end Go.Proofs.YtlhnhmimhpcoaaaGreat
namespace Go.Proofs.YtlhnhmimhpcoaaaGreat
open Go.ChangeShapes Go.WideShapes Go.ChangeAt Go.RowKit Go.Joins Go.Deep
set_option linter.unusedSimpArgs false
set_option linter.unusedVariables false
set_option maxRecDepth 100000 in
theorem opensB_piece : OpensB Tryz.prog 52 (fun _ cs (y : P2) => cs = enc2 y ∧ True) := by
  intro H enc w base spare held fuel cs x h _
  obtain ⟨xs, n, _, hx, hl, hxl, hf⟩ := DataW.trod_struct Tryz.underlying52 h
  have hc : Tryz.prog.cellsOf 52 = 2 := by kernel_rfl
  have hc1 : Tryz.prog.cellsOf 3 = 1 := by kernel_rfl
  rw [hc] at hl
  match cs, hl, xs, hxl with
  | [u0, u1], _, [x0, x1], _ =>
    have g0 := hf 0 _ rfl
    have g1 := hf 1 _ rfl
    simp [hc1] at g0 g1
    obtain ⟨p, e0, _⟩ := DataW.trod_int Tryz.underlying3 g0
    obtain ⟨l, e1, _⟩ := DataW.trod_int Tryz.underlying3 g1
    simp at e0 e1
    subst e0; subst e1
    exact ⟨(p, l), rfl, trivial⟩
set_option maxRecDepth 100000 in
theorem opensB_pat : OpensB Tryz.prog 47 (fun _ cs (y : Int × Int × Int) => cs = [.int .i64 y.1, .int .i64 y.2.1, .int .i64 y.2.2]) := by
  intro H enc w base spare held fuel cs x h _
  obtain ⟨xs, n, _, hx, hl, hxl, hf⟩ := DataW.trod_struct Tryz.underlying47 h
  have hc : Tryz.prog.cellsOf 47 = 3 := by kernel_rfl
  have hc1 : Tryz.prog.cellsOf 3 = 1 := by kernel_rfl
  rw [hc] at hl
  match cs, hl, xs, hxl with
  | [u0, u1, u2], _, [x0, x1, x2], _ =>
    have g0 := hf 0 _ rfl
    have g1 := hf 1 _ rfl
    have g2 := hf 2 _ rfl
    simp [hc1] at g0 g1 g2
    obtain ⟨p, e0, _⟩ := DataW.trod_int Tryz.underlying3 g0
    obtain ⟨l, e1, _⟩ := DataW.trod_int Tryz.underlying3 g1
    obtain ⟨m, e2, _⟩ := DataW.trod_int Tryz.underlying3 g2
    simp at e0 e1 e2
    subst e0; subst e1; subst e2
    exact ⟨(p, l, m), rfl⟩
set_option maxRecDepth 100000 in
theorem opensB_task : OpensB Tryz.prog 50 (fun w cs (t : TaV) => cs = encTa t ∧ (t.ok w ∧ t.n ≤ 281474976710656)) := by
  intro H enc w base spare held fuel cs x h hw
  obtain ⟨xs, n, _, hx, hl, hxl, hf⟩ := DataW.trod_struct Tryz.underlying50 h
  have hc : Tryz.prog.cellsOf 50 = 6 := by kernel_rfl
  have hc1 : Tryz.prog.cellsOf 3 = 1 := by kernel_rfl
  have hc3 : Tryz.prog.cellsOf 47 = 3 := by kernel_rfl
  have hc2 : Tryz.prog.cellsOf 48 = 1 := by kernel_rfl
  have hcp : Tryz.prog.cellsOf 52 = 2 := by kernel_rfl
  have hb : Tryz.prog.bytesOf 52 = 16 := by kernel_rfl
  rw [hc] at hl
  rw [hx] at hw
  simp only [DataW.weights, Tryz.underlying50] at hw
  match cs, hl, xs, hxl with
  | [u0, u1, u2, u3, u4, u5], _, [x0, x1, x2, x3], _ =>
    have g0 := hf 0 _ rfl
    have g1 := hf 1 _ rfl
    have g2 := hf 2 _ rfl
    have g3 := hf 3 _ rfl
    simp [hc1, hc2, hc3] at g0 g1 g2 g3
    obtain ⟨p, e0, _⟩ := DataW.trod_int Tryz.underlying3 g0
    obtain ⟨l, e1, _⟩ := DataW.trod_int Tryz.underlying3 g1
    obtain ⟨y, e2⟩ := opensB_pat g2 (fun q hq => hw q (by simp [DataW.weightsEach]; exact .inr (.inr (.inl hq))))
    obtain ⟨ys, a, m, c, e3, hR, _, hN, hB⟩ := opensB_slice (en := enc2) (k := 2) (ok := fun _ _ => True) Tryz.underlying48 hcp (by decide) opensB_piece g3 (fun q hq => hw q (by simp [DataW.weightsEach]; exact .inr (.inr (.inr hq))))
    simp at e0 e1 e2 e3
    obtain ⟨e2, e4, e5⟩ := e2
    subst e0; subst e1; subst e2; subst e3; subst e4; subst e5
    rw [hb] at hB
    refine ⟨⟨p, l, y.1, y.2.1, y.2.2, a, m, c, ys⟩, rfl, ⟨hR, hN⟩, ?_⟩
    simp only [reachBytes] at hB ⊢
    omega
set_option maxRecDepth 100000 in
theorem open_T {H : Type} {enc : TypeId × Value → H} {w : World} {base b0 : Nat} {spare : Nat → Bool} {held : Bool} {r : Reach} {v : Value} {d : DataW H} {ps : List MemPlace}
    (hv : Value.okWide Tryz.prog w r b0 22 v) (h : DataW.Trod enc Tryz.prog w base spare held 22 v d ps) (hw : ∀ n ∈ d.weights Tryz.prog 22, n ≤ reachBytes) :
    ∃ a n c, v = .slice a n c ∧ ∃ L : List Ta, RdL w a n L ∧ (∀ t ∈ L, t.pcs.length ≤ 281474976710656) ∧ NilOk a n c := by
  obtain ⟨a0, n0, c0, rfl⟩ := okWide_slice Tryz.underlying22 hv
  obtain ⟨fuel, hf⟩ := h
  obtain ⟨ys, a, n, c, e, h1, h2, h3, _⟩ := opensB_slice (en := encTa) (k := 6) (ok := fun w t => t.ok w ∧ t.n ≤ 281474976710656) Tryz.underlying22 (by kernel_rfl) (by decide) opensB_task hf hw
  simp [Value.cells] at e
  obtain ⟨rfl, rfl, rfl⟩ := e
  refine ⟨_, _, _, rfl, _, RdT.rdL ⟨h1, fun t ht => (h2 t ht).1⟩, fun t ht => ?_, h3⟩
  obtain ⟨u, hu, rfl⟩ := List.mem_map.1 ht
  have := (h2 u hu).1.1.length
  have := (h2 u hu).2
  have e : (TaV.ta u).pcs.length = u.pcs.length := rfl
  omega
set_option maxRecDepth 100000 in
theorem open_sup {H : Type} {enc : TypeId × Value → H} {w : World} {base b0 : Nat} {spare : Nat → Bool} {held : Bool} {r : Reach} {v : Value} {d : DataW H} {ps : List MemPlace}
    (hv : Value.okWide Tryz.prog w r b0 24 v) (h : DataW.Trod enc Tryz.prog w base spare held 24 v d ps) : ∃ a b, v = .agg #[.int .i64 a, .int .i64 b] ∧ True := by
  obtain ⟨v0, v1, y0, y1, n, rfl, _, _, k0, k1⟩ := open_agg2 Tryz.underlying24 (by kernel_rfl) (by kernel_rfl) hv h
  obtain ⟨a, e0, _⟩ := DataW.trod_int Tryz.underlying3 k0
  obtain ⟨b, e1, _⟩ := DataW.trod_int Tryz.underlying3 k1
  simp at e0 e1
  exact ⟨a, b, by rw [e0, e1], trivial⟩
end Go.Proofs.YtlhnhmimhpcoaaaGreat
namespace Go.Proofs.YtlhnhmimhpcoaaaGreat
open Go.ChangeShapes Go.WideShapes Go.ChangeAt Go.RowKit Go.Joins Go.Deep
set_option linter.unusedSimpArgs false
set_option linter.unusedVariables false
theorem opensB_pair : OpensB Tryz.prog 53 (fun _ cs (y : P2) => cs = enc2 y ∧ True) := by
  intro H enc w base spare held fuel cs x h _
  obtain ⟨y, hy⟩ := opens_pair (P := Tryz.prog) (t := 53) (e := 3) Tryz.underlying53 Tryz.underlying3 (by kernel_rfl) (by kernel_rfl) h
  exact ⟨y, hy, trivial⟩
set_option maxRecDepth 100000 in
theorem open_P2z {H : Type} {enc : TypeId × Value → H} {w : World} {base b0 : Nat} {spare : Nat → Bool} {held : Bool} {r : Reach} {v : Value} {d : DataW H} {ps : List MemPlace}
    (hv : Value.okWide Tryz.prog w r b0 27 v) (h : DataW.Trod enc Tryz.prog w base spare held 27 v d ps) (hw : ∀ n ∈ d.weights Tryz.prog 27, n ≤ reachBytes) :
    ∃ a n c, v = .slice a n c ∧ ∃ xs : List P2, Rd w a n 2 (xs.map enc2) ∧ (n = 0 → (a = none ∧ c = 0) ∨ ∃ ad, a = some ad) ∧ n ≤ 281474976710656 := by
  obtain ⟨a0, n0, c0, rfl⟩ := okWide_slice Tryz.underlying27 hv
  obtain ⟨fuel, hf⟩ := h
  obtain ⟨ys, a, n, c, e, h1, h2, h3, h4⟩ := opensB_slice (en := enc2) (k := 2) (ok := fun _ _ => True) Tryz.underlying27 (by kernel_rfl) (by decide) opensB_pair hf hw
  simp [Value.cells] at e
  obtain ⟨rfl, rfl, rfl⟩ := e
  have hb : Tryz.prog.bytesOf 53 = 16 := by kernel_rfl
  rw [hb] at h4
  refine ⟨_, _, _, rfl, ys, h1, h3, ?_⟩
  simp only [reachBytes] at h4
  omega
end Go.Proofs.YtlhnhmimhpcoaaaGreat
namespace Go.Proofs.YtlhnhmimhpcoaaaGreat
open Go.RowKit
set_option linter.unusedSimpArgs false
set_option linter.unusedVariables false
/-- a job: its piece, the ticks of it, all its ticks, whether it has been told to end -/
structure Jb where
  p : Nat
  t : Nat
  d : Nat
  s : Bool
deriving DecidableEq
def Jb.zero : Jb := ⟨0, 0, 0, false⟩
/-- an entry -/
structure En where
  m : Int
  k : Int
  w : Int
  a : Int
  b : Int
deriving DecidableEq, Inhabited
/-- a run -/
structure Rn where
  L : List Ta
  fr : Int
  sl : Int
  ev : List (List P2)
  bu : List Int
  sg : List P2
/-- the machine: of each task the events that wait, the job; what has been written -/
structure Ms where
  q : List (List Int)
  j : List Jb
  o : List En
def Ms.qa (s : Ms) (i : Nat) : List Int := (s.q[i]?).getD []
def Ms.ja (s : Ms) (i : Nat) : Jb := (s.j[i]?).getD Jb.zero
def Ms.hd (s : Ms) (i : Nat) : Int := (s.qa i).headD 0
def pcA (L : List Ta) (i p : Nat) : P2 := (((taAt L i).pcs)[p]?).getD default
def lkA (L : List Ta) (i p : Nat) : Int := (pcA L i p).2
def tkA (L : List Ta) (i p : Nat) : Int := (pcA L i p).1
/-- within a piece with a lock -/
def insB (L : List Ta) (s : Ms) (i : Nat) : Bool := decide (0 < (s.ja i).t) && decide (0 ≤ lkA L i (s.ja i).p)
def toI (L : List Ta) (s : Ms) (i : Nat) : Int := if insB L s i = true then ceilG L (lkA L i (s.ja i).p) else i
def ownI (L : List Ta) (s : Ms) (i : Nat) : Nat := if toI L s i = (i : Int) then 1 else 0
def keyI (L : List Ta) (s : Ms) (i : Nat) : Nat := 2 * cnt L (toI L s i) + ownI L s i
def Ms.wr (s : Ms) (e : En) : Ms := { s with o := s.o ++ [e] }
def rel1 (t : Int) (i : Nat) (k : Nat) (s : Ms) : Ms := { s with q := s.q.set i (s.qa i ++ [(k : Int)]), o := s.o ++ [⟨t, i, 1, k, 0⟩] }
def relE (t : Int) (i : Nat) : Nat → List P2 → Ms → Ms
  | _, [], s => s
  | k, e :: es, s => relE t i (k + 1) es (if e.1 + e.2 = t then rel1 t i k s else s)
def relA (t : Int) : Nat → List (List P2) → Ms → Ms
  | _, [], s => s
  | i, l :: ls, s => relA t (i + 1) ls (relE t i 0 l s)
def sig1 (t : Int) (i : Nat) (s : Ms) : Ms := { s with j := s.j.set i { s.ja i with s := true }, o := s.o ++ [⟨t, i, 2, 0, 0⟩] }
def sigS (t : Int) (g : P2) (s : Ms) : Ms := if g.1 = t ∧ s.qa g.2.toNat ≠ [] then sig1 t g.2.toNat s else s
def sigA (t : Int) : List P2 → Ms → Ms
  | [], s => s
  | g :: gs, s => sigA t gs (sigS t g s)
def fin1 (m : Int) (i : Nat) (how : Int) (s : Ms) : Ms := { q := s.q.set i (s.qa i).tail, j := s.j.set i Jb.zero, o := s.o ++ [⟨m, i, 5, s.hd i, how⟩] }
def endS (L : List Ta) (t : Int) (i : Nat) (s : Ms) : Ms := if s.qa i ≠ [] ∧ (s.ja i).s = true ∧ insB L s i = false then fin1 t i 1 s else s
def endA (L : List Ta) (t : Int) : Nat → Nat → Ms → Ms
  | 0, _, s => s
  | f + 1, i, s => endA L t f (i + 1) (endS L t i s)
def arrA (R : Rn) (t : Int) (s : Ms) : Ms := endA R.L t R.L.length 0 (sigA t R.sg (relA t 0 R.ev s))
/-- who is chosen -/
def chF (L : List Ta) (s : Ms) : Nat → Nat → Int → Int
  | 0, _, b => b
  | f + 1, i, b => chF L s f (i + 1) (if s.qa i ≠ [] ∧ (b < 0 ∨ keyI L s i < keyI L s b.toNat) then i else b)
def chM (L : List Ta) (s : Ms) : Int := chF L s L.length 0 (-1)
/-- the job behind a tick -/
def jbN (L : List Ta) (i : Nat) (j : Jb) : Jb := if ((j.t : Nat) : Int) + 1 = tkA L i j.p then ⟨j.p + 1, 0, j.d + 1, j.s⟩ else ⟨j.p, j.t + 1, j.d + 1, j.s⟩
def wkA (R : Rn) (t : Int) (i : Nat) (s : Ms) : Ms :=
  if (jbN R.L i (s.ja i)).p = (taAt R.L i).pcs.length then fin1 (t + 1) i 0 { s with o := s.o ++ [⟨t, i, 4, (s.ja i).p, s.hd i⟩], j := s.j.set i (jbN R.L i (s.ja i)) }
  else if (((jbN R.L i (s.ja i)).d : Nat) : Int) = (R.bu[i]?).getD 0 then { s with j := s.j.set i { jbN R.L i (s.ja i) with s := true }, o := s.o ++ [⟨t, i, 4, (s.ja i).p, s.hd i⟩] ++ [⟨t + 1, i, 6, s.hd i, 0⟩] }
  else { s with j := s.j.set i (jbN R.L i (s.ja i)), o := s.o ++ [⟨t, i, 4, (s.ja i).p, s.hd i⟩] }
def tckB (R : Rn) (t : Int) (s : Ms) : Ms := if t % R.fr < R.sl then s.wr ⟨t, -1, 3, 0, 0⟩ else if 0 ≤ chM R.L s then wkA R t (chM R.L s).toNat s else s
def tckA (R : Rn) (t : Int) (s : Ms) : Ms := tckB R t (arrA R t s)
def ms0 (n : Nat) : Ms := ⟨List.replicate n [], List.replicate n Jb.zero, []⟩
def plM (R : Rn) : Nat → Ms
  | 0 => ms0 R.L.length
  | t + 1 => tckA R t (plM R t)
/-- a run that may be -/
structure RnOk (R : Rn) : Prop where
  r : Right R.L
  f : 1 ≤ R.fr
  ev : R.ev.length = R.L.length
  bu : R.bu.length = R.L.length
  el : ∀ l ∈ R.ev, l.length ≤ 40 ∧ ∀ e ∈ l, (0 ≤ e.1 ∧ e.1 ≤ 1000000) ∧ (0 ≤ e.2 ∧ e.2 ≤ 1000000)
  sl : R.sg.length ≤ 40
  sg : ∀ g ∈ R.sg, 0 ≤ g.2 ∧ g.2 < R.L.length
  b0 : ∀ b ∈ R.bu, 0 ≤ b ∧ b ≤ 1000
/-- what holds of the machine -/
structure MOk (R : Rn) (s : Ms) : Prop where
  ql : s.q.length = R.L.length
  jl : s.j.length = R.L.length
  pc : ∀ i, i < R.L.length → (s.ja i).p < (taAt R.L i).pcs.length
  tk : ∀ i, i < R.L.length → ((s.ja i).t : Int) < tkA R.L i (s.ja i).p
  rd : ∀ i, i < R.L.length → s.qa i = [] → s.ja i = Jb.zero
  ce : ∀ a b, a < R.L.length → b < R.L.length → a ≠ b → insB R.L s a = true → insB R.L s b = true → cnt R.L a < cnt R.L (toI R.L s b) ∨ cnt R.L b < cnt R.L (toI R.L s a)
theorem qa_set {s : Ms} {i k : Nat} {x : List Int} {q : List (List Int)} {o : List En} {j : List Jb} (h : i < s.q.length) : Ms.qa ⟨s.q.set i x, j, o⟩ k = if k = i then x else s.qa k := by
  unfold Ms.qa
  simp only [List.getElem?_set]
  by_cases e : k = i
  · subst e; simp [h]
  · rw [if_neg (fun q => e q.symm), if_neg e]
theorem ja_set {s : Ms} {i k : Nat} {x : Jb} {q : List (List Int)} {o : List En} (h : i < s.j.length) : Ms.ja ⟨q, s.j.set i x, o⟩ k = if k = i then x else s.ja k := by
  unfold Ms.ja
  simp only [List.getElem?_set]
  by_cases e : k = i
  · subst e; simp [h]
  · rw [if_neg (fun q => e q.symm), if_neg e]
theorem insB_iff {L : List Ta} {s : Ms} {i : Nat} : insB L s i = true ↔ 0 < (s.ja i).t ∧ 0 ≤ lkA L i (s.ja i).p := by unfold insB; simp
theorem insB_eq {L : List Ta} {s s' : Ms} {i : Nat} (h : s.ja i = s'.ja i) : insB L s i = insB L s' i := by unfold insB; rw [h]
theorem toI_eq {L : List Ta} {s s' : Ms} {i : Nat} (h : s.ja i = s'.ja i) : toI L s i = toI L s' i := by unfold toI; rw [insB_eq h, h]
theorem keyI_eq {L : List Ta} {s s' : Ms} {i : Nat} (h : s.ja i = s'.ja i) : keyI L s i = keyI L s' i := by unfold keyI ownI; rw [toI_eq h]
theorem ins_zero {L : List Ta} {s : Ms} {i : Nat} (h : s.ja i = Jb.zero) : insB L s i = false := by unfold insB; rw [h]; rfl
theorem toI_no {L : List Ta} {s : Ms} {i : Nat} (h : insB L s i = false) : toI L s i = i := by unfold toI; rw [h]; rfl
theorem pc_uses {L : List Ta} {i p : Nat} (h : p < (taAt L i).pcs.length) : uses L i (lkA L i p) := by
  refine ⟨(taAt L i).pcs[p], List.getElem_mem h, ?_⟩
  unfold lkA pcA; rw [List.getElem?_eq_getElem h]; rfl
theorem ceil_le {L : List Ta} {lock : Int} {i : Nat} (hi : i < L.length) (h : uses L i lock) : (0 ≤ ceilG L lock ∧ ceilG L lock < L.length) ∧ cnt L (ceilG L lock) ≤ cnt L i := by
  have hc := isCeil L lock
  have h0 : 0 ≤ ceilG L lock := by
    by_cases h0 : ceilG L lock < 0
    · exact absurd h (hc.none_ h0 i hi)
    · omega
  have hh := hc.hi
  refine ⟨⟨h0, hh⟩, ?_⟩
  by_cases e : (i : Int) = ceilG L lock
  · rw [e]; exact Nat.le_refl _
  · exact Nat.le_of_lt ((cnt_ahead h0 hh (by omega) (by omega)).2 ((hc.some_ h0).2 i hi h e))
theorem MOk.to_ {R : Rn} {s : Ms} (h : MOk R s) {i : Nat} (hi : i < R.L.length) : (0 ≤ toI R.L s i ∧ toI R.L s i < R.L.length) ∧ cnt R.L (toI R.L s i) ≤ cnt R.L i := by
  unfold toI
  split
  · exact ceil_le hi (pc_uses (h.pc i hi))
  · exact ⟨by omega, Nat.le_refl _⟩
theorem cnt_inj {L : List Ta} {x y : Int} (h0 : 0 ≤ x) (h1 : x < L.length) (h2 : 0 ≤ y) (h3 : y < L.length) (h : cnt L x = cnt L y) : x = y := by
  have a := rank_at h0 h1
  have b := rank_at h2 h3
  rw [h, b] at a; simpa using a.symm
/-- how the reference compares -/
theorem MOk.cmp {R : Rn} {s : Ms} (h : MOk R s) {i b : Nat} (hi : i < R.L.length) (hb : b < R.L.length) (hne : i ≠ b) :
    keyI R.L s i < keyI R.L s b ↔ cnt R.L (toI R.L s i) < cnt R.L (toI R.L s b) ∨ (cnt R.L (toI R.L s i) = cnt R.L (toI R.L s b) ∧ insB R.L s i = true) := by
  have hti := h.to_ hi
  have htb := h.to_ hb
  unfold keyI ownI
  constructor
  · intro k
    by_cases e : cnt R.L (toI R.L s i) < cnt R.L (toI R.L s b)
    · exact .inl e
    · right
      have h1 : toI R.L s i ≠ (i : Int) := by
        intro q
        rw [if_pos q] at k
        split at k <;> omega
      refine ⟨by split at k <;> split at k <;> omega, ?_⟩
      cases hc : insB R.L s i
      · exact absurd (toI_no hc) h1
      · rfl
  · rintro (k | ⟨k, hc⟩)
    · split <;> split <;> omega
    · have e := cnt_inj hti.1.1 hti.1.2 htb.1.1 htb.1.2 k
      have hcb : insB R.L s b = false := by
        cases hcb : insB R.L s b
        · rfl
        · rcases h.ce i b hi hb hne hc hcb with q | q <;> omega
      have hb' := toI_no hcb
      have : toI R.L s i ≠ (i : Int) := by rw [e, hb']; omega
      rw [if_neg this, if_pos hb']; omega
/-- the reference's choice -/
def chR (L : List Ta) (s : Ms) : Nat → Nat → Int → Int → Int
  | 0, _, b, _ => b
  | f + 1, i, b, r => if s.qa i = [] then chR L s f (i + 1) b r
    else if b < 0 ∨ (cnt L (toI L s i) : Int) < r ∨ ((cnt L (toI L s i) : Int) = r ∧ insB L s i = true) then chR L s f (i + 1) i (cnt L (toI L s i)) else chR L s f (i + 1) b r
theorem chR_eq {R : Rn} {s : Ms} (h : MOk R s) : ∀ (f i : Nat) (b r : Int), i + f = R.L.length → b < i → (b < 0 ∨ (r = (cnt R.L (toI R.L s b.toNat) : Int))) → chR R.L s f i b r = chF R.L s f i b
  | 0, _, _, _, _, _, _ => rfl
  | f + 1, i, b, r, hf, hb, hr => by
    rw [chR, chF]
    by_cases hq : s.qa i = []
    · rw [if_pos hq, if_neg (fun q => q.1 hq)]
      exact chR_eq h f (i + 1) b r (by omega) (by omega) hr
    · rw [if_neg hq]
      have hc : (b < 0 ∨ (cnt R.L (toI R.L s i) : Int) < r ∨ ((cnt R.L (toI R.L s i) : Int) = r ∧ insB R.L s i = true)) ↔ (s.qa i ≠ [] ∧ (b < 0 ∨ keyI R.L s i < keyI R.L s b.toNat)) := by
        by_cases hb0 : b < 0
        · simp [hb0, hq]
        · have e := hr.resolve_left hb0
          have := h.cmp (i := i) (b := b.toNat) (by omega) (by omega) (by omega)
          rw [this, e]
          constructor
          · rintro (k | k | ⟨k, c⟩)
            · omega
            · exact ⟨hq, .inr (.inl (by omega))⟩
            · exact ⟨hq, .inr (.inr ⟨by omega, c⟩)⟩
          · rintro ⟨_, k | k | ⟨k, c⟩⟩
            · omega
            · exact .inr (.inl (by omega))
            · exact .inr (.inr ⟨by omega, c⟩)
      by_cases hk : s.qa i ≠ [] ∧ (b < 0 ∨ keyI R.L s i < keyI R.L s b.toNat)
      · rw [if_pos hk, if_pos (hc.2 hk)]
        exact chR_eq h f (i + 1) i _ (by omega) (by omega) (.inr (by rw [Int.toNat_natCast]))
      · rw [if_neg hk, if_neg (fun q => hk (hc.1 q))]
        exact chR_eq h f (i + 1) b r (by omega) (by omega) hr
/-- the choice is a first one -/
theorem chF_spec {L : List Ta} {s : Ms} : ∀ (f i : Nat) (b : Int), -1 ≤ b → b < i → (∀ k : Nat, k < i → s.qa k ≠ [] → 0 ≤ b ∧ keyI L s b.toNat ≤ keyI L s k) → (0 ≤ b → s.qa b.toNat ≠ []) →
    -1 ≤ chF L s f i b ∧ chF L s f i b < (i + f : Nat) ∧ (∀ k : Nat, k < i + f → s.qa k ≠ [] → 0 ≤ chF L s f i b ∧ keyI L s (chF L s f i b).toNat ≤ keyI L s k) ∧ (0 ≤ chF L s f i b → s.qa (chF L s f i b).toNat ≠ [])
  | 0, i, b, h1, h2, h3, h4 => ⟨h1, by simpa [chF] using h2, by simpa [chF] using h3, h4⟩
  | f + 1, i, b, h1, h2, h3, h4 => by
    rw [chF, show i + (f + 1) = i + 1 + f by omega]
    by_cases hk : s.qa i ≠ [] ∧ (b < 0 ∨ keyI L s i < keyI L s b.toNat)
    · rw [if_pos hk]
      refine chF_spec f (i + 1) i (by omega) (by omega) (fun k hki hq => ⟨by omega, ?_⟩) (fun _ => by rw [Int.toNat_natCast]; exact hk.1)
      rw [Int.toNat_natCast]
      rcases Nat.lt_succ_iff_lt_or_eq.1 hki with hki | rfl
      · have := h3 k hki hq
        rcases hk.2 with q | q
        · omega
        · omega
      · exact Nat.le_refl _
    · rw [if_neg hk]
      refine chF_spec f (i + 1) b h1 (by omega) (fun k hki hq => ?_) h4
      rcases Nat.lt_succ_iff_lt_or_eq.1 hki with hki | rfl
      · exact h3 k hki hq
      · have : ¬ (b < 0 ∨ keyI L s k < keyI L s b.toNat) := fun q => hk ⟨hq, q⟩
        omega
theorem chM_spec (L : List Ta) (s : Ms) : -1 ≤ chM L s ∧ chM L s < L.length ∧ (∀ k : Nat, k < L.length → s.qa k ≠ [] → 0 ≤ chM L s ∧ keyI L s (chM L s).toNat ≤ keyI L s k) ∧ (0 ≤ chM L s → s.qa (chM L s).toNat ≠ []) := by
  have := chF_spec (L := L) (s := s) L.length 0 (-1) (by omega) (by omega) (fun k hk => by omega) (fun h => by omega)
  unfold chM
  simpa using this
end Go.Proofs.YtlhnhmimhpcoaaaGreat
namespace Go.Proofs.YtlhnhmimhpcoaaaGreat
open Go.RowKit
set_option linter.unusedSimpArgs false
set_option linter.unusedVariables false
theorem ta_mem {L : List Ta} {i : Nat} (h : i < L.length) : taAt L i ∈ L := by
  rw [taAt_of (List.getElem?_eq_getElem h)]; exact List.getElem_mem h
theorem pcA_mem {L : List Ta} {i p : Nat} (h : p < (taAt L i).pcs.length) : pcA L i p ∈ (taAt L i).pcs := by
  unfold pcA; rw [List.getElem?_eq_getElem h]; exact List.getElem_mem h
theorem pc_lim {L : List Ta} (h : Right L) {i p : Nat} (hi : i < L.length) (hp : p < (taAt L i).pcs.length) : (1 ≤ tkA L i p ∧ tkA L i p ≤ 200) ∧ (-1 ≤ lkA L i p ∧ lkA L i p ≤ 5) :=
  h.piece _ (ta_mem hi) _ (pcA_mem hp)
theorem pcs_pos {L : List Ta} (h : Right L) {i : Nat} (hi : i < L.length) : 0 < (taAt L i).pcs.length ∧ (taAt L i).pcs.length ≤ 8 := by
  have := h.pcs _ (ta_mem hi); omega
theorem MOk.same {R : Rn} {s s' : Ms} (h : MOk R s) (hq : s'.q.length = s.q.length) (hl : s'.j.length = s.j.length) (hp : ∀ i, i < R.L.length → (s'.ja i).p = (s.ja i).p ∧ (s'.ja i).t = (s.ja i).t) (hr : ∀ i, i < R.L.length → s'.qa i = [] → s'.ja i = Jb.zero) : MOk R s' := by
  have hi : ∀ i, i < R.L.length → insB R.L s' i = insB R.L s i := fun i hi => by unfold insB; rw [(hp i hi).1, (hp i hi).2]
  have ht : ∀ i, i < R.L.length → toI R.L s' i = toI R.L s i := fun i hx => by unfold toI; rw [hi i hx, (hp i hx).1]
  exact ⟨hq.trans h.ql, hl.trans h.jl, fun i hx => by rw [(hp i hx).1]; exact h.pc i hx, fun i hx => by rw [(hp i hx).1, (hp i hx).2]; exact h.tk i hx, hr,
    fun a b ha hb hne h1 h2 => by rw [ht a ha, ht b hb]; exact h.ce a b ha hb hne (by rw [← hi a ha]; exact h1) (by rw [← hi b hb]; exact h2)⟩
/-- the events that are released at t -/
def relK (t : Int) : Nat → List P2 → List Int
  | _, [] => []
  | k, e :: es => (if e.1 + e.2 = t then [(k : Int)] else []) ++ relK t (k + 1) es
theorem set_qa {s : Ms} {i : Nat} (h : i < s.q.length) : s.q.set i (s.qa i) = s.q := by
  apply List.ext_getElem?
  intro k
  rw [List.getElem?_set]
  split
  · rename_i e
    subst e
    unfold Ms.qa
    rw [List.getElem?_eq_getElem h]; rfl
  · rfl
theorem qa_self {q : List (List Int)} {j : List Jb} {o : List En} {i : Nat} {x : List Int} (h : i < q.length) : Ms.qa ⟨q.set i x, j, o⟩ i = x := by
  unfold Ms.qa; simp [h]
theorem relE_eq (t : Int) (i : Nat) : ∀ (es : List P2) (k : Nat) (s : Ms), i < s.q.length → relE t i k es s = ⟨s.q.set i (s.qa i ++ relK t k es), s.j, s.o ++ (relK t k es).map (fun x => ⟨t, i, 1, x, 0⟩)⟩
  | [], k, s, h => by simp [relE, relK, set_qa h]
  | e :: es, k, s, h => by
    rw [relE, relK]
    by_cases he : e.1 + e.2 = t
    · rw [if_pos he, if_pos he, relE_eq t i es (k + 1) _ (by simpa [rel1] using h)]
      have : (rel1 t i k s).qa i = s.qa i ++ [(k : Int)] := qa_self h
      rw [this]
      simp [rel1]
    · rw [if_neg he, if_neg he, relE_eq t i es (k + 1) _ h]
      simp
theorem relA_spec (t : Int) : ∀ (ls : List (List P2)) (i : Nat) (s : Ms), i + ls.length ≤ s.q.length →
    (relA t i ls s).q.length = s.q.length ∧ (relA t i ls s).j = s.j ∧ (∀ x, (relA t i ls s).qa x = s.qa x ++ (if i ≤ x then relK t 0 ((ls[x - i]?).getD []) else []))
  | [], i, s, h => ⟨rfl, rfl, fun x => by
    simp [relA, relK]⟩
  | l :: ls, i, s, h => by
    rw [relA]
    simp only [List.length_cons] at h
    have e := relE_eq t i l 0 s (by omega)
    obtain ⟨h1, h2, h3⟩ := relA_spec t ls (i + 1) (relE t i 0 l s) (by rw [e]; simp; omega)
    refine ⟨by rw [h1, e]; simp, by rw [h2, e], fun x => ?_⟩
    rw [h3 x, e, qa_set (q := s.q) (by omega)]
    rcases Nat.lt_trichotomy x i with hx | hx | hx
    · rw [if_neg (by omega), if_neg (by omega), if_neg (by omega)]
    · subst hx
      rw [if_pos rfl, if_neg (by omega), if_pos (Nat.le_refl _), Nat.sub_self]
      simp
    · rw [if_neg (by omega), if_pos (by omega), if_pos (by omega)]
      congr 3
      rw [show x - i = (x - (i + 1)) + 1 by omega, List.getElem?_cons_succ]
theorem MOk.relA {R : Rn} {s : Ms} (h : MOk R s) (hr : RnOk R) (t : Int) : MOk R (relA t 0 R.ev s) := by
  obtain ⟨h1, h2, h3⟩ := relA_spec t R.ev 0 s (by rw [h.ql, hr.ev]; omega)
  have hj : ∀ i, (Go.Proofs.YtlhnhmimhpcoaaaGreat.relA t 0 R.ev s).ja i = s.ja i := fun i => by unfold Ms.ja; rw [h2]
  refine h.same h1 (by rw [h2]) (fun i _ => by rw [hj]; exact ⟨rfl, rfl⟩) (fun i hi hq => ?_)
  rw [hj]
  rw [h3] at hq
  exact h.rd i hi (List.append_eq_nil_iff.1 hq).1
theorem sigS_spec {t : Int} {g : P2} {s : Ms} : (sigS t g s).q = s.q ∧ (sigS t g s).j.length = s.j.length := by
  unfold sigS; split
  · exact ⟨rfl, by simp [sig1]⟩
  · exact ⟨rfl, rfl⟩
theorem MOk.sigS {R : Rn} {s : Ms} (h : MOk R s) (t : Int) {g : P2} (hg : 0 ≤ g.2 ∧ g.2 < R.L.length) : MOk R (sigS t g s) := by
  unfold Go.Proofs.YtlhnhmimhpcoaaaGreat.sigS
  split
  · rename_i hc
    have hl : g.2.toNat < s.j.length := by rw [h.jl]; omega
    have hj : ∀ i, (sig1 t g.2.toNat s).ja i = if i = g.2.toNat then { s.ja g.2.toNat with s := true } else s.ja i := fun i => ja_set hl
    refine h.same rfl (by simp [sig1]) (fun i _ => ?_) (fun i hi hq => ?_)
    · rw [hj]; split
      · rename_i e; subst e; exact ⟨rfl, rfl⟩
      · exact ⟨rfl, rfl⟩
    · rw [hj]
      have hq' : s.qa i = [] := hq
      rw [if_neg (fun e => by subst e; exact hc.2 hq')]
      exact h.rd i hi hq'
  · exact h
theorem MOk.sigA {R : Rn} (t : Int) : ∀ (gs : List P2) {s : Ms}, MOk R s → (∀ g ∈ gs, 0 ≤ g.2 ∧ g.2 < R.L.length) → MOk R (sigA t gs s)
  | [], s, h, _ => h
  | g :: gs, s, h, hg => MOk.sigA t gs (h.sigS t (hg g (by simp))) (fun x hx => hg x (by simp [hx]))
theorem fin_ja {m how : Int} {i k : Nat} {s : Ms} (h : i < s.j.length) : (fin1 m i how s).ja k = if k = i then Jb.zero else s.ja k := ja_set h
theorem fin_qa {m how : Int} {i k : Nat} {s : Ms} (h : i < s.q.length) : (fin1 m i how s).qa k = if k = i then (s.qa i).tail else s.qa k := qa_set (q := s.q) h
theorem MOk.fin {R : Rn} {s : Ms} (h : MOk R s) (hr : RnOk R) (m how : Int) {i : Nat} (hi : i < R.L.length) : MOk R (fin1 m i how s) := by
  have hj := fun k => fin_ja (m := m) (how := how) (i := i) (k := k) (s := s) (by rw [h.jl]; exact hi)
  have hq := fun k => fin_qa (m := m) (how := how) (i := i) (k := k) (s := s) (by rw [h.ql]; exact hi)
  have hz : ∀ k, insB R.L (fin1 m i how s) k = true → k ≠ i ∧ insB R.L s k = true := fun k hk => by
    by_cases e : k = i
    · rw [ins_zero (by rw [hj, if_pos e])] at hk; cases hk
    · exact ⟨e, by rw [← insB_eq (by rw [hj, if_neg e])]; exact hk⟩
  have ht : ∀ k, k ≠ i → toI R.L (fin1 m i how s) k = toI R.L s k := fun k hk => toI_eq (by rw [hj, if_neg hk])
  refine ⟨by simp [fin1, h.ql], by simp [fin1, h.jl], fun k hk => ?_, fun k hk => ?_, fun k hk hq' => ?_, fun a b ha hb hne h1 h2 => ?_⟩
  · rw [hj]; split
    · exact (pcs_pos hr.r hk).1
    · exact h.pc k hk
  · rw [hj]; split
    · have := (pc_lim hr.r hk (pcs_pos hr.r hk).1).1.1
      show ((0 : Nat) : Int) < tkA R.L k 0
      omega
    · exact h.tk k hk
  · rw [hj]; split
    · rfl
    · rename_i e
      rw [hq, if_neg e] at hq'
      exact h.rd k hk hq'
  · obtain ⟨e1, i1⟩ := hz a h1
    obtain ⟨e2, i2⟩ := hz b h2
    rw [ht a e1, ht b e2]
    exact h.ce a b ha hb hne i1 i2
theorem MOk.endS {R : Rn} {s : Ms} (h : MOk R s) (hr : RnOk R) (t : Int) {i : Nat} (hi : i < R.L.length) : MOk R (endS R.L t i s) := by
  unfold Go.Proofs.YtlhnhmimhpcoaaaGreat.endS
  split
  · exact h.fin hr t 1 hi
  · exact h
theorem MOk.endA {R : Rn} (hr : RnOk R) (t : Int) : ∀ (f i : Nat) {s : Ms}, MOk R s → i + f = R.L.length → MOk R (endA R.L t f i s)
  | 0, _, _, h, _ => h
  | f + 1, i, s, h, e => MOk.endA hr t f (i + 1) (h.endS hr t (by omega)) (by omega)
theorem MOk.arrA {R : Rn} {s : Ms} (h : MOk R s) (hr : RnOk R) (t : Int) : MOk R (arrA R t s) :=
  MOk.endA hr t _ _ (MOk.sigA t _ (h.relA hr t) hr.sg) (by omega)
theorem MOk.wr {R : Rn} {s : Ms} (h : MOk R s) (e : En) : MOk R (s.wr e) :=
  h.same rfl rfl (fun _ _ => ⟨rfl, rfl⟩) (fun i hi hq => h.rd i hi hq)
/-- a tick of work within the job -/
theorem MOk.work {R : Rn} {s : Ms} (h : MOk R s) (hr : RnOk R) {i : Nat} (hi : i < R.L.length) (hk : ∀ k, k < R.L.length → s.qa k ≠ [] → keyI R.L s i ≤ keyI R.L s k) (hq : s.qa i ≠ []) (hp : (jbN R.L i (s.ja i)).p < (taAt R.L i).pcs.length) (o : List En) :
    MOk R { s with j := s.j.set i (jbN R.L i (s.ja i)), o := o } := by
  have hj : ∀ k, Ms.ja ⟨s.q, s.j.set i (jbN R.L i (s.ja i)), o⟩ k = if k = i then jbN R.L i (s.ja i) else s.ja k := fun k => ja_set (by rw [h.jl]; exact hi)
  obtain ⟨s', hs'⟩ : ∃ s', (⟨s.q, s.j.set i (jbN R.L i (s.ja i)), o⟩ : Ms) = s' := ⟨_, rfl⟩
  have hq' : ∀ k, s'.qa k = s.qa k := fun k => by subst hs'; rfl
  rw [hs'] at hj ⊢
  have hto : ∀ k, k ≠ i → toI R.L s' k = toI R.L s k := fun k hk => toI_eq (by rw [hj, if_neg hk])
  have hin : ∀ k, k ≠ i → insB R.L s' k = insB R.L s k := fun k hk => insB_eq (by rw [hj, if_neg hk])
  have htk := h.tk i hi
  have hpi := h.pc i hi
  -- against another one that is inside
  have key : ∀ b, b < R.L.length → b ≠ i → insB R.L s b = true → insB R.L s' i = true → cnt R.L i < cnt R.L (toI R.L s b) ∨ cnt R.L b < cnt R.L (toI R.L s' i) := by
    intro b hb hne h1 h2
    cases hc : insB R.L s i
    · left
      have hqb : s.qa b ≠ [] := fun e => by rw [ins_zero (h.rd b hb e)] at h1; cases h1
      have hkb := hk b hb hqb
      unfold keyI ownI at hkb
      rw [toI_no hc, if_pos rfl] at hkb
      have htb := h.to_ hb
      by_cases e : cnt R.L i < cnt R.L (toI R.L s b)
      · exact e
      · exfalso
        split at hkb
        · rename_i e2
          have : cnt R.L (i : Int) = cnt R.L (toI R.L s b) := by omega
          have := cnt_inj (by omega) (by omega) htb.1.1 htb.1.2 this
          rw [e2] at this
          omega
        · omega
    · have e : toI R.L s' i = toI R.L s i := by
        have hp2 : (s'.ja i).p = (s.ja i).p := by
          have h3 := (insB_iff.1 h2).1
          rw [hj, if_pos rfl] at h3 ⊢
          unfold jbN at h3 ⊢
          split
          · rename_i hx
            rw [if_pos hx] at h3
            exact absurd h3 (Nat.lt_irrefl 0)
          · rfl
        unfold toI; rw [h2, hc, hp2]
      rw [e]
      exact h.ce i b hi hb (fun e => hne e.symm) hc h1
  clear hk
  refine ⟨by subst hs'; exact h.ql, by subst hs'; simp [h.jl], fun k hk => ?_, fun k hk => ?_, fun k hk hqk => ?_, fun a b ha hb hne h1 h2 => ?_⟩
  · rw [hj]; split
    · rename_i e; subst e; exact hp
    · exact h.pc k hk
  · rw [hj]; split
    · rename_i e; subst e
      have h5 := (pc_lim hr.r hk hp).1.1
      unfold jbN at h5 hp ⊢
      split
      · rename_i hx
        rw [if_pos hx] at h5
        show ((0 : Nat) : Int) < _
        simp only [] at h5
        exact Int.lt_of_lt_of_le (by omega) h5
      · rename_i hx
        show ((((s.ja k).t + 1 : Nat)) : Int) < tkA R.L k (s.ja k).p
        omega
    · exact h.tk k hk
  · rw [hq'] at hqk
    by_cases e : k = i
    · subst e; exact absurd hqk hq
    · rw [hj, if_neg e]; exact h.rd k hk hqk
  · by_cases ea : a = i
    · subst ea
      have hb' : b ≠ a := fun e => hne e.symm
      rw [hin b hb'] at h2
      rw [hto b hb']
      exact key b hb hb' h2 h1
    · by_cases eb : b = i
      · subst eb
        rw [hin a ea] at h1
        rw [hto a ea]
        exact (key a ha ea h1 h2).symm
      · rw [hin a ea] at h1
        rw [hin b eb] at h2
        rw [hto a ea, hto b eb]
        exact h.ce a b ha hb hne h1 h2
theorem MOk.wkA {R : Rn} {s : Ms} (h : MOk R s) (hr : RnOk R) (t : Int) {i : Nat} (hi : i < R.L.length) (hk : ∀ k, k < R.L.length → s.qa k ≠ [] → keyI R.L s i ≤ keyI R.L s k) (hq : s.qa i ≠ []) : MOk R (wkA R t i s) := by
  have hjl : i < s.j.length := by rw [h.jl]; exact hi
  unfold Go.Proofs.YtlhnhmimhpcoaaaGreat.wkA
  have hpi := h.pc i hi
  have hle : (jbN R.L i (s.ja i)).p ≤ (taAt R.L i).pcs.length := by unfold jbN; split <;> simp only [] <;> omega
  by_cases h1 : (jbN R.L i (s.ja i)).p = (taAt R.L i).pcs.length
  · rw [if_pos h1]
    have := h.fin hr (t + 1) 0 hi
    have e : fin1 (t + 1) i 0 { s with o := s.o ++ [⟨t, i, 4, (s.ja i).p, s.hd i⟩], j := s.j.set i (jbN R.L i (s.ja i)) } = { fin1 (t + 1) i 0 s with o := s.o ++ [⟨t, i, 4, (s.ja i).p, s.hd i⟩] ++ [⟨t + 1, i, 5, s.hd i, 0⟩] } := by
      unfold fin1; simp; exact ⟨rfl, rfl⟩
    rw [e]
    exact this.same rfl rfl (fun _ _ => ⟨rfl, rfl⟩) (fun k hk hq => this.rd k hk hq)
  · rw [if_neg h1]
    have hw := fun o => h.work hr hi hk hq (by omega) o
    split
    · refine (hw s.o).same rfl (by simp) (fun k hk => ?_) (fun k hk hq' => ?_)
      · rw [ja_set hjl, ja_set hjl]
        split <;> exact ⟨rfl, rfl⟩
      · rw [ja_set hjl]
        have hq2 : s.qa k = [] := hq'
        split
        · rename_i e; subst e; exact absurd hq2 hq
        · exact h.rd k hk hq2
    · exact hw _
theorem MOk.tckB {R : Rn} {s : Ms} (h : MOk R s) (hr : RnOk R) (t : Int) : MOk R (tckB R t s) := by
  unfold Go.Proofs.YtlhnhmimhpcoaaaGreat.tckB
  split
  · exact h.wr _
  · split
    · rename_i hc
      obtain ⟨h1, h2, h3, h4⟩ := chM_spec R.L s
      exact h.wkA hr t (by omega) (fun k hk hq => (h3 k hk hq).2) (h4 hc)
    · exact h
theorem MOk.tckA {R : Rn} {s : Ms} (h : MOk R s) (hr : RnOk R) (t : Int) : MOk R (tckA R t s) := (h.arrA hr t).tckB hr t
theorem MOk.zero {R : Rn} (hr : RnOk R) : MOk R (ms0 R.L.length) := by
  have hj : ∀ i, (ms0 R.L.length).ja i = Jb.zero := fun i => by
    unfold Ms.ja ms0; simp only [List.getElem?_replicate]; split <;> rfl
  refine ⟨by simp [ms0], by simp [ms0], fun i hi => by rw [hj]; exact (pcs_pos hr.r hi).1, fun i hi => ?_, fun i _ _ => hj i, fun a b _ _ _ h1 _ => by rw [ins_zero (hj a)] at h1; cases h1⟩
  rw [hj]
  have := (pc_lim hr.r hi (pcs_pos hr.r hi).1).1.1
  show ((0 : Nat) : Int) < tkA R.L i 0
  omega
theorem plM_ok {R : Rn} (hr : RnOk R) : ∀ t, MOk R (plM R t)
  | 0 => MOk.zero hr
  | t + 1 => (plM_ok hr t).tckA hr t
end Go.Proofs.YtlhnhmimhpcoaaaGreat
