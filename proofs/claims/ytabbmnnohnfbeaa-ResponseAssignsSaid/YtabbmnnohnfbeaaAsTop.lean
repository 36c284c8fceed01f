/- Assign of the program. The conditions: the tasks read as named. -/
import Derived.Test.YtabbmnnohnfbeaaAsTry
import Derived.Deep.RegionLaw
import Derived.Deep.Cut
import Derived.Deep.DeepCutAuto
namespace Go.Proofs.Ytabbmnnohnfbeaa
open Go.RowKit
set_option linter.unusedSimpArgs false
set_option linter.unusedVariables false
abbrev valI (k : Int) : Value := .int .i64 k
theorem ai_idx (g : Nat) (lb : Array Value) (p : Int → Bool) (a : Option Addr) (n c : Nat) (xs : List Int) (w : World) (hR : Rd w a n 1 (xs.map enc1)) (hf : PredIn g lb valI p xs w) :
    Calls Try.prog 93 #[.slice a n c, .func (.func g) #[] lb] w fun e w' => e = .returned (.int .i64 (idxGo p 0 xs)) ∧ Below w.heap.size w w' := by
  have HL := Lib.hid hR.length
  have hs := hR.small
  have HR := Lib.hid hR; clear hR
  have eg := hf.eg
  have HF := Lib.hid hf.gives; clear hf
  generalize hg : idxGo p 0 xs = R
  have HG := Lib.hid hg; clear hg
  go_enter Try.func93, Try.ntmps93
  go_wp2
  go_loopw [8] (fun i wr => ∃ k : Nat, k ≤ n ∧ i = .int .i64 k ∧ idxGo p k (xs.drop k) = R ∧ Below w.heap.size w wr) (fun i _ => n - (intOf i).toNat)
  case atStart => exact ⟨0, Nat.zero_le _, rfl, HG.out, Below.refl _ _⟩
  case round =>
    obtain ⟨k, hk, rfl, he, hB⟩ := hrel
    have HE := Lib.hid he; clear he
    by_cases hlt : k < n
    · obtain ⟨x, b, off, rfl, hb, hc, hx, _, HD⟩ := (HR.out.ext hB).nextK k hlt
      have h0 := hc 0 (by omega)
      clear hc
      simp [enc1] at h0
      have hcall := HF.out x hx wr hB
      have HB := Lib.hid hB; clear hB
      have HE2 : Hid ((if p x = true then (k : Int) else idxGo p (k + 1) (xs.drop (k + 1))) = R) := by have := HE.out; rw [HD.out] at this; exact this
      cases hq : p x
      · rw [hq] at hcall HE2
        go_wp2_with (go_at_fn g; refine hcall.mono ?_; rintro e w1 ⟨rfl, hb1⟩)
        go_roundw
        case rel => exact ⟨k + 1, by omega, by go_num, by simpa using HE2.out, HB.out.trans (hb1.mono HB.out.size)⟩
        case measure => simp [intOf]; omega
      · rw [hq] at hcall HE2
        have : R = k := by simpa using HE2.out.symm
        subst this
        go_wp2_with (go_at_fn g; refine hcall.mono ?_; rintro e w1 ⟨rfl, hb1⟩)
        go_ret
        exact ⟨rfl, HB.out.trans (hb1.mono HB.out.size)⟩
    · have : R = -1 := by rw [← HE.out, drop_end HL.out (by omega)]; rfl
      subst this
      go_wp2
      go_ret
      exact ⟨rfl, hB⟩

theorem idxGo_find {p : Int → Bool} : ∀ (xs : List Int) (r : Nat), (idxGo p r xs = -1 ∧ xs.find? p = none) ∨ ∃ (i : Nat) (k : Int), idxGo p r xs = ((r + i : Nat) : Int) ∧ xs[i]? = some k ∧ xs.find? p = some k
  | [], r => .inl ⟨rfl, rfl⟩
  | x :: xs, r => by
    by_cases h : p x = true
    · right; exact ⟨0, x, by rw [idxGo, if_pos h, Nat.add_zero], rfl, by rw [List.find?_cons, h]⟩
    · have h' : p x = false := by simpa using h
      rw [idxGo, if_neg h, List.find?_cons, h']
      rcases idxGo_find xs (r + 1) with ⟨h1, h2⟩ | ⟨i, k, h1, h2, h3⟩
      · exact .inl ⟨h1, h2⟩
      · right; exact ⟨i + 1, k, by rw [h1]; congr 1; omega, by simpa using h2, h3⟩
theorem asg_pred {L : List Ta} {F S : Int} {a : Option Addr} {n c fb lb pb sb : Nat} {free placed : List Int} {w : World} (hv : ValidT L) (hS : supB F S = true) (hf : FreeOk n free placed) (hN : NilOk a n c) (hc : AsC L F S a n c fb lb pb sb free placed w) :
    PredIn 94 #[.pointer (some ⟨fb, 0, none⟩), .pointer (some ⟨lb, 0, none⟩), .pointer (some ⟨pb, 0, none⟩), .pointer (some ⟨sb, 0, none⟩)] valI (fun k => meetB (ordL L (tryO free k placed)) F S k) free w :=
  ⟨fun args w => by kernel_rfl, fun k hk w' hb => asgC_any a n c fb lb pb sb F S L free placed k w' hv hS hf hk hN (hc.ext hb)⟩
/-- the two rows that Assign keeps in boxes -/
structure FP (w : World) (fb : Nat) (free placed : List Int) (a2 : Option Addr) (n2 c2 : Nat) (a3 : Option Addr) (n3 c3 : Nat) : Prop where
  lt : fb + 1 < w.heap.size
  f0 : w.cell? ⟨fb, 0, none⟩ = some (.slice a2 n2 c2)
  ff : w.frozen? ⟨fb, 0, none⟩ = false
  p0 : w.cell? ⟨fb + 1, 0, none⟩ = some (.slice a3 n3 c3)
  pf : w.frozen? ⟨fb + 1, 0, none⟩ = false
  fo : w.ownsRow (fb + 2) 3 1 (.slice a2 n2 c2) n2 (free.flatMap enc1)
  po : w.ownsRow (fb + 2) 3 1 (.slice a3 n3 c3) n3 (placed.flatMap enc1)
  ap : ∀ x, (Value.slice a2 n2 c2).ownBlock = some x → (Value.slice a3 n3 c3).ownBlock ≠ some x
theorem FP.ext {w w' : World} {fb free placed a2 n2 c2 a3 n3 c3} (h : FP w fb free placed a2 n2 c2 a3 n3 c3) (hb : Below w.heap.size w w') : FP w' fb free placed a2 n2 c2 a3 n3 c3 := by
  have h1 := h.lt
  have h2 := hb.size
  exact ⟨by omega, keep_c hb h.f0, (hb.frozen (p := ⟨fb, 0, none⟩) (by simp only []; omega)).trans h.ff, keep_c hb h.p0, (hb.frozen (p := ⟨fb + 1, 0, none⟩) (by simp only []; omega)).trans h.pf, owns_ext h.fo hb, owns_ext h.po hb, h.ap⟩
theorem own_low {w : World} {B e k n : Nat} {v : Value} {xs : List Value} (h : w.ownsRow B e k v n xs) : ∀ x, v.ownBlock = some x → B ≤ x ∧ x < w.heap.size := by
  intro x hx
  rcases h.2 with ⟨rfl, _⟩ | ⟨g, cap, cur, rfl, hB, hg, _⟩
  · simp [Value.ownBlock] at hx
  · simp [Value.ownBlock] at hx; subst hx; exact ⟨hB, (Array.getElem?_eq_some_iff.1 hg).1⟩
/-- free is pushed to, in place or anew -/
theorem FP.free' {w w' : World} {fb free placed a2 n2 c2 a3 n3 c3} (h : FP w fb free placed a2 n2 c2 a3 n3 c3) {free' : List Int} {a4 : Option Addr} {n4 c4 : Nat} (hO : w'.ownsRow (fb + 2) 3 1 (.slice a4 n4 c4) n4 (free'.flatMap enc1)) (hg : w.grownBy w' (Value.slice a2 n2 c2).ownBlock)
    (hap : ∀ x, (Value.slice a4 n4 c4).ownBlock = some x → (Value.slice a3 n3 c3).ownBlock ≠ some x) :
    FP (w'.setCell ⟨fb, 0, none⟩ (.slice a4 n4 c4)) fb free' placed a4 n4 c4 a3 n3 c3 := by
  have h1 := h.lt
  have hB : Below (fb + 2) w w' := (Below.refl _ w).grown hg (by omega) (fun j hj => (own_low h.fo j hj).1)
  have e1 : w'.cell? ⟨fb, 0, none⟩ = some (.slice a2 n2 c2) := (hB.cell (p := ⟨fb, 0, none⟩) (by simp only []; omega)).trans h.f0
  have e2 : w'.cell? ⟨fb + 1, 0, none⟩ = some (.slice a3 n3 c3) := (hB.cell (p := ⟨fb + 1, 0, none⟩) (by simp only []; omega)).trans h.p0
  have e3 : w'.frozen? ⟨fb, 0, none⟩ = false := (hB.frozen (p := ⟨fb, 0, none⟩) (by simp only []; omega)).trans h.ff
  have e4 : w'.frozen? ⟨fb + 1, 0, none⟩ = false := (hB.frozen (p := ⟨fb + 1, 0, none⟩) (by simp only []; omega)).trans h.pf
  have hne : ¬ fb + 1 = fb := by omega
  have hne' : ¬ fb = fb + 1 := by omega
  have hP : w'.ownsRow (fb + 2) 3 1 (.slice a3 n3 c3) n3 (placed.flatMap enc1) := h.po.kept hg (by
    rcases hx : (Value.slice a3 n3 c3).ownBlock with _ | x
    · exact .inl rfl
    · right; intro e; exact h.ap x e.symm hx)
  refine ⟨by have := hB.size; simp; omega, by simp [go_sem, e1], by simp [go_sem, e3], by simp [go_sem, e2, hne, hne'], by simp [go_sem, e4, hne, hne'], owns_far hO (by omega) _, owns_far hP (by omega) _, hap⟩
/-- placed is made anew -/
theorem FP.placed' {w w' : World} {fb free placed a2 n2 c2 a3 n3 c3} (h : FP w fb free placed a2 n2 c2 a3 n3 c3) {placed' : List Int} {a4 : Option Addr} {n4 c4 : Nat} (hb : Below w.heap.size w w') (hO : w'.ownsRow w.heap.size 3 1 (.slice a4 n4 c4) n4 (placed'.flatMap enc1)) :
    FP (w'.setCell ⟨fb + 1, 0, none⟩ (.slice a4 n4 c4)) fb free placed' a2 n2 c2 a4 n4 c4 := by
  have h1 := h.lt
  have hE := h.ext hb
  have e1 := hE.f0; have e2 := hE.p0; have e3 := hE.ff; have e4 := hE.pf
  have hne : ¬ fb + 1 = fb := by omega
  have hne' : ¬ fb = fb + 1 := by omega
  refine ⟨by have := hb.size; simp; omega, by simp [go_sem, e1, hne, hne'], by simp [go_sem, e3, hne, hne'], by simp [go_sem, e2], by simp [go_sem, e4], owns_far hE.fo (by omega) _, owns_far (owns_mono hO (by omega)) (by omega) _, fun x hx hy => ?_⟩
  have h2 := (own_low h.fo x hx).2
  have h3 := (own_low hO x hy).1
  omega
end Go.Proofs.Ytabbmnnohnfbeaa
