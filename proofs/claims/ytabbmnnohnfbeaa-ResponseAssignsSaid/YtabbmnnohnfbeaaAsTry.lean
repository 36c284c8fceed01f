/- Assign: has and tried of the reference; the closures of the program. The conditions: the rows read as named. -/
import Derived.Test.YtabbmnnohnfbeaaAsOrd2
import Derived.Deep.RegionHeld3
namespace Go.Proofs.Ytabbmnnohnfbeaa
open Go.RowKit
set_option linter.unusedSimpArgs false
set_option linter.unusedVariables false
def hasI (l : List Int) (n : Int) : Bool := l.any (fun x => x == n)
theorem hasI_cons {x : Int} {l : List Int} {n : Int} : hasI (x :: l) n = (x == n || hasI l n) := rfl
theorem hasI_iff {l : List Int} {n : Int} : hasI l n = true ↔ n ∈ l := by simp [hasI]
theorem has_any (a : Option Addr) (n c : Nat) (l : List Int) (x : Int) (w : World) (hR : Rd w a n 1 (l.map enc1)) :
    Calls Try.prog 101 #[.slice a n c, .int .i64 x] w fun e w' => e = .returned (.bool (hasI l x)) ∧ w = w' := by
  have hs := hR.small
  have HL := Lib.hid hR.length
  obtain ⟨R, hRR⟩ : ∃ R, hasI l x = R := ⟨_, rfl⟩
  have HA : Hid (hasI (l.drop 0) x = R) := Lib.hid hRR
  have HR := Lib.hid hR
  rw [hRR]
  clear hR hRR
  go_enter Try.func101, Try.ntmps101
  go_wp2
  go_loopw [5] (fun i wr => ∃ k : Nat, k ≤ n ∧ i = .int .i64 k ∧ hasI (l.drop k) x = R ∧ w = wr) (fun i _ => n - (intOf i).toNat)
  case atStart => exact ⟨0, Nat.zero_le _, rfl, HA.out, rfl⟩
  case round =>
    clear HA
    obtain ⟨k, hk, rfl, he, rfl⟩ := hrel
    have HE := Lib.hid he; clear he
    by_cases hlt : k < n
    · obtain ⟨y, b, off, rfl, hb, hc, HD⟩ := HR.out.next1 k hlt
      have hE := HE.out
      rw [HD.out, hasI_cons] at hE
      cases hx : y == x
      · rw [hx, Bool.false_or] at hE
        have HE2 := Lib.hid hE
        clear hE
        go_wp2_with fail
        go_roundw
        case rel => exact ⟨k + 1, by omega, by go_num, HE2.out, by first | rfl | trivial⟩
        case measure => simp [intOf]; omega
      · rw [hx, Bool.true_or] at hE
        subst hE
        go_wp2_with fail
        go_ret
        exact ⟨rfl, by first | rfl | trivial⟩
    · have hE := HE.out
      rw [List.drop_of_length_le (by rw [HL.out]; omega)] at hE
      obtain rfl : R = false := by rw [← hE]; rfl
      go_wp2_with fail
      go_ret
      exact ⟨rfl, by first | rfl | trivial⟩
theorem has_is {a : Option Addr} {n c : Nat} {l : List Int} {x : Int} {b : Bool} {w : World} (hR : Rd w a n 1 (l.map enc1)) (h : hasI l x = b) :
    Calls Try.prog 101 #[.slice a n c, .int .i64 x] w fun e w' => e = .returned (.bool b) ∧ w = w' := by subst h; exact has_any a n c l x w hR
/-- those without a place -/
def freeL (n : Nat) (placed : List Int) : List Int := (idxs n).filter (fun i => !(hasI placed i))
theorem tryO_free (n : Nat) (k : Int) (placed : List Int) : tryO (freeL n placed) k placed = (idxs n).filter (fun i => !(i == k) && !(hasI placed i)) ++ k :: placed := by
  unfold tryO freeL
  rw [List.filter_filter]
/-- a row of ints that reads as xs -/
def OutRd (w : World) (xs : List Int) (e : Ending) (w' : World) : Prop :=
  ∃ a l c, e = .returned (.slice a l c) ∧ Rd w' a l 1 (xs.map enc1) ∧ Below w.heap.size w w'
theorem filter_take_succ {p : Int → Bool} {n k : Nat} (h : k < n) : ((idxs n).take (k + 1)).filter p = ((idxs n).take k).filter p ++ (if p k = true then [(k : Int)] else []) := by
  rw [List.take_add_one, idxs_get h, List.filter_append]
  congr 1
  by_cases e : p k = true
  · simp [e]
  · simp [e]
set_option maxRecDepth 100000 in
set_option maxHeartbeats 4000000 in
theorem tried_any (n k : Nat) (a : Option Addr) (m c : Nat) (placed : List Int) (w : World) (hn : n ≤ 5) (hm : m ≤ 5) (hR : Rd w a m 1 (placed.map enc1)) (hN : m = 0 → (a = none ∧ c = 0) ∨ ∃ ad, a = some ad) :
    Calls Try.prog 103 #[.int .i64 n, .int .i64 k, .slice a m c] w (OutRd w (tryO (freeL n placed) k placed)) := by
  have HR := Lib.hid hR; have HN := Lib.hid hN
  have hE := E1
  clear hR hN
  go_enter Try.func103, Try.ntmps103
  go_wp2
  go_loopw [7, 8] (fun v i wr => ∃ (j l : Nat) (a' : Option Addr) (c' : Nat), j ≤ n ∧ v = .slice a' l c' ∧ i = .int .i64 j ∧ l ≤ j ∧ wr.ownsRow w.heap.size 3 1 (.slice a' l c') l ((((idxs n).take j).filter (fun i => !(i == (k : Int)) && !(hasI placed i))).flatMap enc1) ∧ Below w.heap.size w wr) (fun _ i _ => n - (intOf i).toNat)
  case atStart => exact ⟨0, 0, none, 0, Nat.zero_le _, rfl, rfl, Nat.le_refl _, World.ownsRow_nil _ _ _ _, Below.refl _ _⟩
  case round =>
    obtain ⟨j, l, a', c', hj, rfl, rfl, hlj, hO, hB⟩ := hrel
    have HO := Lib.hid hO; have HB := Lib.hid hB
    have hz := hB.size
    clear hO hB
    by_cases hlt : j < n
    · have HF := Lib.hid (filter_take_succ (p := fun i => !(i == (k : Int)) && !(hasI placed i)) hlt)
      obtain ⟨b, hb⟩ : ∃ b, hasI placed (j : Int) = b := ⟨_, rfl⟩
      have HH := Lib.hid hb
      by_cases e : j = k
      · have e' : ((j : Int) != (k : Int)) = false := by simp; omega
        have hF := HF.out
        rw [if_neg (by rw [show ((j : Int) == (k : Int)) = true by simp; omega]; simp), List.append_nil] at hF
        have HF2 := Lib.hid hF
        clear hF hb
        go_wp2_with fail
        go_roundw
        case rel => exact ⟨j + 1, l, a', c', by omega, rfl, by go_num, by omega, by rw [HF2.out]; exact HO.out, HB.out⟩
        case measure => simp [intOf]; omega
      · have e' : ((j : Int) != (k : Int)) = true := by simp; omega
        have e'' : ((j : Int) == (k : Int)) = false := by simp; omega
        cases b
        · have hF := HF.out
          rw [if_pos (by rw [e'', hb]; rfl)] at hF
          have HF2 := Lib.hid hF
          clear hF hb
          go_wp2_with (first
            | (go_at_call 101; (with_reducible refine (has_is (HR.out.ext HB.out) HH.out).mono ?_); rintro e w1 ⟨rfl, rfl⟩)
            | (at_builtin; refine wpList_push (B := w.heap.size) rfl _ _ _ rfl hE rfl HO.out rfl rfl (by intro u hu; simp at hu; subst hu; rfl) (by omega) (by decide) hz ?_; intro a6 c6 w6 hown6 hb6; have HO6 := Lib.hid hown6; have B6 := Lib.hid hb6; clear hown6 hb6))
          go_roundw
          case rel => exact ⟨j + 1, l + 1, a6, c6, by omega, rfl, by go_num, by omega, by rw [HF2.out, List.flatMap_append]; exact HO6.out, HB.out.trans B6.out⟩
          case measure => simp [intOf]; omega
        · have hF := HF.out
          rw [if_neg (by rw [hb]; simp), List.append_nil] at hF
          have HF2 := Lib.hid hF
          clear hF hb
          go_wp2_with (go_at_call 101; (with_reducible refine (has_is (HR.out.ext HB.out) HH.out).mono ?_); rintro e w1 ⟨rfl, rfl⟩)
          go_roundw
          case rel => exact ⟨j + 1, l, a', c', by omega, rfl, by go_num, by omega, by rw [HF2.out]; exact HO.out, HB.out⟩
          case measure => simp [intOf]; omega
    · have hO2 := HO.out
      rw [List.take_of_length_le (by rw [idxs_len]; omega)] at hO2
      have HO2 := Lib.hid hO2
      clear hO2
      go_wp2_with (first
        | (at_builtin; refine wpList_push (B := w.heap.size) rfl _ _ _ rfl hE rfl HO2.out rfl rfl (by intro u hu; simp at hu; subst hu; rfl) (by omega) (by decide) hz ?_; intro a6 c6 w6 hown6 hb6; have HO6 := Lib.hid hown6; have B6 := Lib.hid (HB.out.trans hb6); have hz6 := hb6.size; clear hown6 hb6)
        | (at_builtin; refine wpList_pushAll (B := w.heap.size) rfl _ _ _ rfl hE enc1_len enc1_one rfl HO6.out rfl (HR.out.ext B6.out) HN.out (by omega) (by decide) (by have := B6.out.size; omega) ?_; intro v7 w7 hown7 hv7 hb7; obtain ⟨a7, c7, rfl⟩ := hv7; have HO7 := Lib.hid hown7; have B7 := Lib.hid (B6.out.trans hb7); clear hown7 hb7))
      go_ret
      refine ⟨_, _, _, rfl, ownsI_rd (B := w.heap.size) (c := c7) ?_, B7.out⟩
      have e : (tryO (freeL n placed) k placed).flatMap enc1 = ((idxs n).filter (fun i => !(i == (k : Int)) && !(hasI placed i))).flatMap enc1 ++ [.int .i64 k] ++ placed.flatMap enc1 := by
        rw [tryO_free]; simp [enc1]
      rw [e]; exact HO7.out
/-- what the closure of Assign has captured -/
structure AsC (L : List Ta) (F S : Int) (a : Option Addr) (n c fb lb pb sb : Nat) (free placed : List Int) (w : World) : Prop where
  l0 : w.cell? ⟨lb, 0, none⟩ = some (.slice a n c)
  s0 : w.cell? ⟨sb, 0, none⟩ = some (.int .i64 F)
  s1 : w.cell? ⟨sb, 1, none⟩ = some (.int .i64 S)
  f0 : ∃ a2 n2 c2, w.cell? ⟨fb, 0, none⟩ = some (.slice a2 n2 c2) ∧ Rd w a2 n2 1 (free.map enc1) ∧ (n2 = 0 → (a2 = none ∧ c2 = 0) ∨ ∃ ad, a2 = some ad)
  p0 : ∃ a3 n3 c3, w.cell? ⟨pb, 0, none⟩ = some (.slice a3 n3 c3) ∧ Rd w a3 n3 1 (placed.map enc1) ∧ (n3 = 0 → (a3 = none ∧ c3 = 0) ∨ ∃ ad, a3 = some ad)
  rd : RdL w a n L
theorem keep_c {w w' : World} (hb : Below w.heap.size w w') {b o : Nat} {v : Value} (h : w.cell? ⟨b, o, none⟩ = some v) : w'.cell? ⟨b, o, none⟩ = some v := (hb.cell (p := ⟨b, o, none⟩) (World.block_lt_of_cell? w _ h)).trans h
theorem AsC.ext {L : List Ta} {F S : Int} {a : Option Addr} {n c fb lb pb sb : Nat} {free placed : List Int} {w w' : World} (h : AsC L F S a n c fb lb pb sb free placed w) (hb : Below w.heap.size w w') : AsC L F S a n c fb lb pb sb free placed w' := by
  obtain ⟨a2, n2, c2, h1, h2, h3⟩ := h.f0
  obtain ⟨a3, n3, c3, k1, k2, k3⟩ := h.p0
  exact ⟨keep_c hb h.l0, keep_c hb h.s0, keep_c hb h.s1, ⟨a2, n2, c2, keep_c hb h1, h2.ext hb, h3⟩, ⟨a3, n3, c3, keep_c hb k1, k2.ext hb, k3⟩, h.rd.ext hb⟩
theorem nodup_get {xs : List Int} (h : xs.Nodup) {i j : Nat} {x : Int} (hi : xs[i]? = some x) (hj : xs[j]? = some x) : i = j := by
  have hl := (List.getElem?_eq_some_iff.1 hi).1
  exact (List.getElem?_inj hl h).1 (hi.trans hj.symm)
theorem idxGo_get {xs : List Int} {k : Int} : ∀ (r : Nat), k ∈ xs → ∃ i : Nat, idxGo (fun v => v == k) r xs = ((r + i : Nat) : Int) ∧ xs[i]? = some k := by
  induction xs with
  | nil => intro r h; simp at h
  | cons x xs ih =>
    intro r h
    by_cases e : x = k
    · subst e; exact ⟨0, by simp [idxGo], rfl⟩
    · have hm : k ∈ xs := by rcases List.mem_cons.1 h with h | h; exact absurd h.symm e; exact h
      obtain ⟨i, h1, h2⟩ := ih (r + 1) hm
      refine ⟨i + 1, ?_, by simpa using h2⟩
      rw [idxGo, if_neg (by simpa using e), h1]
      congr 1; omega
theorem cutL_filter {xs : List Int} (hn : xs.Nodup) {k : Int} {i : Nat} (hi : xs[i]? = some k) : cutL xs i = xs.filter (fun n => !(n == k)) := by
  obtain ⟨hl, e⟩ := List.getElem?_eq_some_iff.1 hi
  have hx : xs = xs.take i ++ k :: xs.drop (i + 1) := by rw [← e, ← List.drop_eq_getElem_cons hl, List.take_append_drop]
  have hnd := hn
  rw [hx] at hnd
  obtain ⟨h1, h2, h3⟩ := List.nodup_append.1 hnd
  have h4 := List.nodup_cons.1 h2
  have ft : ∀ l : List Int, k ∉ l → l.filter (fun n => !(n == k)) = l := fun l hl => List.filter_eq_self.2 (fun x hx => by
    have : x ≠ k := fun e => hl (e ▸ hx)
    simpa using this)
  conv => rhs; rw [hx]
  rw [List.filter_append, List.filter_cons, if_neg (by simp), ft _ (fun h => h3 k h k (by simp) rfl), ft _ h4.1]
  rfl
set_option maxRecDepth 100000 in
set_option maxHeartbeats 8000000 in
theorem asgC_any (a : Option Addr) (n c fb lb pb sb : Nat) (F S : Int) (L : List Ta) (free placed : List Int) (k : Int) (w : World) (hv : ValidT L) (hS : supB F S = true) (hf : FreeOk n free placed) (hk : k ∈ free) (hN : NilOk a n c) (hc : AsC L F S a n c fb lb pb sb free placed w) :
    Calls Try.prog 94 #[.int .i64 k, .pointer (some ⟨fb, 0, none⟩), .pointer (some ⟨lb, 0, none⟩), .pointer (some ⟨pb, 0, none⟩), .pointer (some ⟨sb, 0, none⟩)] w fun e w' => e = .returned (.bool (meetB (ordL L (tryO free k placed)) F S k)) ∧ Below w.heap.size w w' := by
  have hll := hc.rd.length
  have hord := hf.tryO hk
  have hkr := hord.mem.1 (show k ∈ tryO free k placed by unfold tryO; simp)
  obtain ⟨kk, rfl⟩ := Int.eq_ofNat_of_zero_le hkr.1
  have hkn : kk < n := by omega
  obtain ⟨R, hR⟩ : ∃ R, meetB (ordL L (tryO free kk placed)) F S kk = R := ⟨_, rfl⟩
  have HRR := Lib.hid hR
  rw [hR]
  have HRG : Hid (∀ x ∈ tryO free kk placed, 0 ≤ x ∧ x < n) := Lib.hid (fun x hx => hord.mem.1 hx)
  have HPN : Hid (∀ t ∈ L, t.pcs.length ≤ 1000) := Lib.hid (fun t ht => by have := (hv.r.pcs t ht).2; omega)
  have HVO : Hid (ValidT (ordL L (tryO free kk placed))) := Lib.hid (valid_of (ordL_valid hv (by rw [hll]; exact hord)))
  obtain ⟨to, hto⟩ : ∃ l, tryO free kk placed = l := ⟨_, rfl⟩
  rw [hto] at HRR HRG HVO
  have HTO := Lib.hid hto
  clear hR hord hkr hto
  obtain ⟨a2, n2, c2, h1, h2, h3⟩ := hc.f0
  have hn5 : n ≤ 5 := by rw [← hll]; exact hv.r.len
  obtain ⟨i, hi1, hi2⟩ := idxGo_get (xs := free) 0 hk
  rw [Nat.zero_add] at hi1
  have hlf := h2.length
  have hin : i < n2 := by rw [← hlf]; exact (List.getElem?_eq_some_iff.1 hi2).1
  have hln : free.length + placed.length = n := by have := hf.perm.length_eq; simp [idxs_len] at this; omega
  obtain ⟨w0, hw0⟩ : ∃ w0, w0 = w.alloc (.cells #[.int .i64 kk] 3) := ⟨_, rfl⟩
  have hb0 : Below w.heap.size w w0 := by rw [hw0]; (repeat' (first | (with_reducible exact Below.refl _ _) | (with_reducible assumption) | (with_reducible refine Below.alloc ?_ ?_ _) | (with_reducible refine Below.drew ?_) | (with_reducible refine Below.draws ?_ _) | (with_reducible refine Below.setCell ?_ ?_ _) | (refine Below.then ?_ (by with_reducible assumption)) | go_size))
  have q0 : w0.cell? ⟨w.heap.size, 0, none⟩ = some (.int .i64 kk) := by rw [hw0]; simp [go_sem]
  have hz0 : w0.heap.size = w.heap.size + 1 := by rw [hw0]; simp
  have B0 := Lib.hid hb0
  obtain ⟨a3, n3, c3, p1, p2, p3⟩ := (hc.ext hb0).p0
  have h1' := keep_c hb0 h1
  have hn3 := p2.length
  have HH2 := Lib.hid (h2.ext hb0); have HH3 := Lib.hid h3; have HC := Lib.hid (hc.ext hb0)
  have HP2 := Lib.hid p2; have HP3 := Lib.hid p3
  have HI1 := Lib.hid hi1; have HI2 := Lib.hid hi2; have HND := Lib.hid hf.nodup.1
  have hl0 := (hc.ext hb0).l0; have hs0 := (hc.ext hb0).s0; have hs1 := (hc.ext hb0).s1
  obtain ⟨kb, hkb⟩ : ∃ x, w.heap.size = x := ⟨_, rfl⟩
  rw [hkb] at q0 hz0
  have HKB := Lib.hid hkb
  have HONE : Hid (∀ j x, i < j → free[j]? = some x → (x == kk) = false) := Lib.hid (fun j x hij hj => by
    rw [beq_eq_false_iff_ne]
    rintro rfl
    have := nodup_get hf.nodup.1 hi2 hj
    omega)
  have HF := Lib.hid hf; have HV := Lib.hid hv; have HS := Lib.hid hS; have HNN := Lib.hid hN; have HK := Lib.hid hk
  clear hc h2 h3 hb0 p2 p3 h1 hi1 hi2 hf hv hS hN hk
  go_enter Try.func94, Try.ntmps94
  go_upto_region 1 with fail
  rw [← hw0]
  clear hw0 hkb
  go_wp2_with (first
    | (go_at_call 96; (with_reducible refine (cloneI_any _ _ _ free _ (by omega) HH2.out HH3.out).mono ?_); rintro e w1 ⟨a4, c4, rfl, hown1, hb1⟩; obtain ⟨b4, rfl, hb41, hb42⟩ := owns_addr hown1 (by omega); have HO1 := Lib.hid hown1; have B1 := Lib.hid hb1; have q1 := keep_c hb1 q0; clear hown1 hb1)
    | (go_at_call 95; (with_reducible refine (del_any w0.heap.size b4 n2 c4 i free kk kb _ (by omega) HO1.out (by omega) (by omega) q1 HI1.out hin HONE.out).mono ?_); rintro e w2 ⟨rfl, hown2, hg2⟩; have HO2 := Lib.hid hown2; have B2 := Lib.hid (B1.out.grown hg2 (by omega) (fun j hj => by simp at hj; omega)); clear hown2 hg2))
  have r0 := keep_c B2.out hl0; have r1 := keep_c B2.out hs0; have r2 := keep_c B2.out hs1; have r3 := keep_c B2.out p1; have r4 := keep_c B2.out q0
  clear hl0 hs0 hs1 h1' p1 q0
  obtain ⟨W, hW⟩ : ∃ W, ((w2.alloc (.cells #[.int .i64 kk] 3)).alloc (.cells #[.slice (some ⟨b4, 0, none⟩) (n2 - 1) c4, .slice (some ⟨w2.heap.size, 0, none⟩) 1 1, .slice a3 n3 c3] 32)).drew = W := ⟨_, rfl⟩
  have hbW : Below w2.heap.size w2 W := by rw [← hW]; (repeat' (first | (with_reducible exact Below.refl _ _) | (with_reducible assumption) | (with_reducible refine Below.alloc ?_ ?_ _) | (with_reducible refine Below.drew ?_) | (with_reducible refine Below.draws ?_ _) | (with_reducible refine Below.setCell ?_ ?_ _) | (refine Below.then ?_ (by with_reducible assumption)) | go_size))
  have HBW := Lib.hid hbW
  have hrd3 : Rd W (some ⟨w2.heap.size + 1, 0, none⟩) 3 1 (([⟨some ⟨b4, 0, none⟩, n2 - 1, c4, cutL free i⟩, ⟨some ⟨w2.heap.size, 0, none⟩, 1, 1, [(kk : Int)]⟩, ⟨a3, n3, c3, placed⟩] : List ISl).map fun s => [valS s]) := by
    refine ⟨rfl, by omega, fun _ => ⟨_, 0, rfl, by rw [← hW]; simp, fun x hx j hj => ?_⟩⟩
    have hx' : x < 3 := by simpa using hx
    obtain rfl : j = 0 := by omega
    rw [← hW]
    rcases x with _ | _ | _ | x
    · simp [go_sem]
    · simp [go_sem]
    · simp [go_sem]
    · omega
  have hrk : Rd W (some ⟨w2.heap.size, 0, none⟩) 1 1 ([(kk : Int)].map enc1) := by
    refine ⟨rfl, by omega, fun _ => ⟨_, 0, rfl, by rw [← hW]; simp; omega, fun x hx j hj => ?_⟩⟩
    have hx' : x < 1 := by simpa using hx
    obtain rfl : j = 0 := by omega
    obtain rfl : x = 0 := by omega
    rw [← hW]
    simp [go_sem, enc1]
  have hlen1 : (cutL free i).length = n2 - 1 := by rw [cutL_len (by omega)]; omega
  have hcat := concat_any _ 3 3 _ W hrd3 (fun s hs => by
    simp only [List.mem_cons, List.not_mem_nil, or_false] at hs
    rcases hs with rfl | rfl | rfl
    · exact ⟨(ownsI_rd HO2.out).ext hbW, fun _ => .inr ⟨_, rfl⟩⟩
    · exact ⟨hrk, fun h => by simp at h⟩
    · exact ⟨(HP2.out.ext B2.out).ext hbW, HP3.out⟩) (by simp only [sizeS]; omega) (by simp only [sizeS]; omega)
  have hsz : sizeS ([⟨some ⟨b4, 0, none⟩, n2 - 1, c4, cutL free i⟩, ⟨some ⟨w2.heap.size, 0, none⟩, 1, 1, [(kk : Int)]⟩, ⟨a3, n3, c3, placed⟩] : List ISl) = n := by simp only [sizeS]; omega
  have hct : catS ([⟨some ⟨b4, 0, none⟩, n2 - 1, c4, cutL free i⟩, ⟨some ⟨w2.heap.size, 0, none⟩, 1, 1, [(kk : Int)]⟩, ⟨a3, n3, c3, placed⟩] : List ISl) = to := by
    rw [← HTO.out]
    simp only [catS, List.append_nil]
    rw [cutL_filter HND.out HI2.out]; rfl
  rw [hsz, hct] at hcat
  have HCAT := Lib.hid hcat
  have HW := Lib.hid hW
  clear hrd3 hrk hlen1 hcat hsz hct hbW
  have u0 := keep_c HBW.out r0; have u1 := keep_c HBW.out r1; have u2 := keep_c HBW.out r2; have u3 := keep_c HBW.out r3; have u4 := keep_c HBW.out r4
  go_region_held3 (fun w' => w'.cell? ⟨lb, 0, none⟩ = some (.slice a n c) ∧ w'.cell? ⟨sb, 0, none⟩ = some (.int .i64 F) ∧ w'.cell? ⟨sb, 1, none⟩ = some (.int .i64 S) ∧ w'.cell? ⟨pb, 0, none⟩ = some (.slice a3 n3 c3) ∧ w'.cell? ⟨kb, 0, none⟩ = some (.int .i64 kk))
    (first | go_keep)
    (first
      | (go_at_call 99; (with_reducible refine (HCAT.out).mono ?_); rintro e w3 ⟨a5, c5, rfl, hown3, hb3⟩; have HO3 := Lib.hid (ownsI_rd hown3); have B3 := Lib.hid (Below.then HBW.out hb3); have x0 := keep_c B3.out r0; have x1 := keep_c B3.out r1; have x2 := keep_c B3.out r2; have x3 := keep_c B3.out r3; have x4 := keep_c B3.out r4; clear hown3 hb3)
      | (go_at_call 98; (with_reducible refine (ordered_M _ _ _ L _ _ _ to hn5 HPN.out _ (HC.out.rd.ext (Below.then B2.out B3.out)) HNN.out HO3.out hn5 HRG.out).mono ?_); rintro e w4 ⟨a6, c6, g6, rfl, hm6, hg6, hb6⟩; have HM6 : Hid (RdL w4 a6 n (ordL L to)) := Lib.hid (by rw [← hg6]; exact hm6.rdL); have B4 := Lib.hid hb6; have y0 := keep_c hb6 x0; have y1 := keep_c hb6 x1; have y2 := keep_c hb6 x2; have y3 := keep_c hb6 x3; have y4 := keep_c hb6 x4; clear hm6 hg6 hb6)
      | (go_at_call 80; (with_reducible refine (meets_is HM6.out HVO.out HS.out hkn HRR.out).mono ?_); rintro e w5 ⟨rfl, hb7⟩; have B5 := Lib.hid hb7; have z0 := keep_c hb7 y0; have z1 := keep_c hb7 y1; have z2 := keep_c hb7 y2; have z3 := keep_c hb7 y3; have z4 := keep_c hb7 y4; clear hb7))
  all_goals
    go_wp2_with fail
    go_ret
    exact ⟨rfl, Below.then B0.out (Below.then B2.out (Below.then B3.out (Below.then B4.out B5.out)))⟩
end Go.Proofs.Ytabbmnnohnfbeaa
