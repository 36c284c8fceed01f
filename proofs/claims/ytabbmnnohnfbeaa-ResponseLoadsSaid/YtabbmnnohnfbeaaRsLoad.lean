/- Sums of ratios that are not negative: ratio.Add, ratio.Sum and the reference's. The conditions are the ones that each contract names. -/
import Derived.Test.YtabbmnnohnfbeaaRatio2
import Derived.Test.YtabbmnnohnfbeaaBase
import Derived.Test.YtabbmnnohnfbeaaLst
import Derived.Deep.RegionWith
import Derived.Deep.Cut
import Derived.Deep.DeepCutAuto
namespace Go.Proofs.Ytabbmnnohnfbeaa
open Go.RowKit
set_option linter.unusedSimpArgs false
set_option linter.unusedVariables false
abbrev Q := Nat × Nat
structure QOk (q : Q) : Prop where
  x : q.1 ≤ 1000000000
  y : q.2 ≤ 1000000000
  p : 1 ≤ q.2
  g : Nat.gcd q.1 q.2 = 1
def qI (q : Q) : P2 := ((q.1 : Int), (q.2 : Int))
def lowN (n d : Nat) : Q := (n / Nat.gcd n d, d / Nat.gcd n d)
def rvQ (q : Q) : Bool := rval q.1 q.2
theorem lowR_eq (n d : Nat) : lowR n d = if rvQ (lowN n d) then (qI (lowN n d), 0) else ((0, 0), 6) := rfl
theorem lowN_ok {n d : Nat} (hd : 1 ≤ d) (h : rvQ (lowN n d) = true) : QOk (lowN n d) := by
  have hg : 0 < Nat.gcd n d := Nat.gcd_pos_of_pos_right _ (by omega)
  have h2 : ¬ ((lowN n d).2 > 1000000000) ∧ ¬ ((lowN n d).1 > 1000000000) := by
    unfold rvQ rval at h
    simp at h
    omega
  refine ⟨by omega, by omega, ?_, ?_⟩
  · exact Nat.div_pos (Nat.le_of_dvd (by omega) (Nat.gcd_dvd_right _ _)) hg
  · unfold lowN
    show Nat.gcd (n / Nat.gcd n d) (d / Nat.gcd n d) = 1
    rw [Nat.gcd_div (Nat.gcd_dvd_left _ _) (Nat.gcd_dvd_right _ _), Nat.div_self hg]
theorem QOk.rv {q : Q} (h : QOk q) : rval q.1 q.2 = true := by
  have := h.x; have := h.y
  simp [rval]; omega
def addN (s q : Q) : Q := lowN (s.1 * q.2 + q.1 * s.2) (s.2 * q.2)
def sumQ (s : Q) : List Q → P2 × Int
  | [] => (qI s, 0)
  | q :: qs => if rvQ (addN s q) then sumQ (addN s q) qs else ((0, 0), 6)
theorem lowest_is {n d : Nat} {x y e : Int} {w : World} (h1 : n ≤ 4000000000000000000) (h2 : d ≤ 4000000000000000000) (h3 : 1 ≤ d) (h : lowR n d = ((x, y), e)) : Calls Try.prog 123 #[.int .i64 n, .int .i64 d] w fun en w' => en = .returned (.tuple #[.agg #[.int .i64 x, .int .i64 y], .int .i64 e]) ∧ Below w.heap.size w w' := by
  have := lowest_any n d w h1 h2 h3
  rw [h] at this; exact this
theorem r2lowest_is {n d : Nat} {x y e : Int} {w : World} (h1 : n ≤ 4000000000000000000) (h2 : d ≤ 4000000000000000000) (h3 : 1 ≤ d) (h : lowR n d = ((x, y), e)) : Calls Try.prog 126 #[.int .i64 n, .int .i64 d] w fun en w' => en = .returned (.tuple #[.agg #[.int .i64 x, .int .i64 y], .int .i64 e]) ∧ Below w.heap.size w w' := by
  have := r2lowest_any n d w h1 h2 h3
  rw [h] at this; exact this
theorem make_is {n d : Nat} {x y e : Int} {w : World} (h1 : n ≤ 1000000000000000000) (h2 : d ≤ 1000000000000000000) (h3 : 1 ≤ d) (h : lowR n d = ((x, y), e)) : Calls Try.prog 89 #[.int .i64 n, .int .i64 d] w fun en w' => en = .returned (.tuple #[.agg #[.int .i64 x, .int .i64 y], .int .i64 e]) ∧ Below w.heap.size w w' := by
  have := make_any n d w h1 h2 h3
  rw [h] at this; exact this
theorem r2make_is {n d : Nat} {x y e : Int} {w : World} (h1 : n ≤ 1000000000000000000) (h2 : d ≤ 1000000000000000000) (h3 : 1 ≤ d) (h : lowR n d = ((x, y), e)) : Calls Try.prog 91 #[.int .i64 n, .int .i64 d] w fun en w' => en = .returned (.tuple #[.agg #[.int .i64 x, .int .i64 y], .int .i64 e]) ∧ Below w.heap.size w w' := by
  have := r2make_any n d w h1 h2 h3
  rw [h] at this; exact this
theorem rvalid_is {x y : Nat} {w : World} (h : QOk (x, y)) : Calls Try.prog 124 #[.agg #[.int .i64 x, .int .i64 y]] w fun e w' => e = .returned (.bool true) ∧ Below w.heap.size w w' := by
  have := ratioValid_any x y w (by have := h.x; simp at this; omega) (by have := h.y; simp at this; omega) h.p h.g
  rw [show rval x y = true from h.rv] at this; exact this
theorem r2valid_is {x y : Nat} {w : World} (h : QOk (x, y)) : Calls Try.prog 127 #[.agg #[.int .i64 x, .int .i64 y]] w fun e w' => e = .returned (.bool true) ∧ Below w.heap.size w w' := by
  have := r2ratioValid_any x y w (by have := h.x; simp at this; omega) (by have := h.y; simp at this; omega) h.p h.g
  rw [show rval x y = true from h.rv] at this; exact this
theorem addF_is {p q a b c d : Nat} {x y e : Int} {w : World} (h1 : QOk (a, b)) (h2 : QOk (c, d)) (hp : p < w.heap.size) (hq : q < w.heap.size)
    (c0 : w.cell? ⟨p, 0, none⟩ = some (.int .i64 a)) (c1 : w.cell? ⟨p, 1, none⟩ = some (.int .i64 b)) (d0 : w.cell? ⟨q, 0, none⟩ = some (.int .i64 c)) (d1 : w.cell? ⟨q, 1, none⟩ = some (.int .i64 d))
    (h : lowR (a * d + c * b) (b * d) = ((x, y), e)) :
    Calls Try.prog 143 #[.pointer (some ⟨p, 0, none⟩), .pointer (some ⟨q, 0, none⟩)] w fun en w' => en = .returned (.tuple #[.agg #[.int .i64 x, .int .i64 y], .int .i64 e]) ∧ Below w.heap.size w w' := by
  have ha := h1.x; have hb := h1.y; have hc := h2.x; have hd := h2.y; have hb1 := h1.p; have hd1 := h2.p
  simp only [] at ha hb hc hd hb1 hd1
  have m1 : a * d ≤ 1000000000000000000 := Nat.le_trans (Nat.mul_le_mul ha hd) (by decide)
  have m2 : c * b ≤ 1000000000000000000 := Nat.le_trans (Nat.mul_le_mul hc hb) (by decide)
  have m3 : b * d ≤ 1000000000000000000 := Nat.le_trans (Nat.mul_le_mul hb hd) (by decide)
  have m4 : 1 ≤ b * d := Nat.mul_pos hb1 hd1
  have hR : lowR (a * d + c * b) (b * d) = ((x, y), e) := h
  have e1 : (a : Int) * (d : Int) = ((a * d : Nat) : Int) := by simp
  have e2 : (c : Int) * (b : Int) = ((c * b : Nat) : Int) := by simp
  have e3 : (b : Int) * (d : Int) = ((b * d : Nat) : Int) := by simp
  generalize a * d = k1 at *
  generalize c * b = k2 at *
  generalize b * d = k3 at *
  have e4 : (k1 : Int) + (k2 : Int) = ((k1 + k2 : Nat) : Int) := by simp
  have hs4 : k1 + k2 ≤ 4000000000000000000 := by omega
  generalize k1 + k2 = k4 at *
  have w1' : IntKind.i64.wrap (k1 : Int) = (k1 : Int) := IntWalk.i64_in _ (by omega)
  have w2' : IntKind.i64.wrap (k2 : Int) = (k2 : Int) := IntWalk.i64_in _ (by omega)
  have w3' : IntKind.i64.wrap (k3 : Int) = (k3 : Int) := IntWalk.i64_in _ (by omega)
  have w4' : IntKind.i64.wrap (k4 : Int) = (k4 : Int) := IntWalk.i64_in _ (by omega)
  have HR := Lib.hid hR
  clear h h1 h2 hR
  go_enter Try.func143, Try.ntmps143
  go_wp2_with (go_at_call 123; refine (lowest_is hs4 (by omega) m4 HR.out).mono ?_; rintro e w1 ⟨rfl, hb1⟩; obtain ⟨hc1, hf1, hz1, hr1⟩ := bfacts hb1; (try simp only [World.size_alloc, World.size_setCell, World.size_drew, World.size_drewN] at hz1 hr1); (try have hw0 : w.heap.size < w1.heap.size := by omega); (try have hw1 : w.heap.size + 1 < w1.heap.size := by omega); (try have hw2 : w.heap.size + 1 + 1 < w1.heap.size := by omega))
  have x0 : w1.cell? ⟨w.heap.size, 0, none⟩ = some (.int .i64 0) := by simp [go_sem, *]
  have x1 : w1.cell? ⟨w.heap.size, 1, none⟩ = some (.int .i64 0) := by simp [go_sem, *]
  exact bodyPost_ret (v := .tuple #[.agg #[.int .i64 x, .int .i64 y], .int .i64 e]) (by simp [results, Try.results143, go_sem, x0, x1]) rfl ⟨rfl, by (repeat' (first | (with_reducible exact Below.refl _ _) | (with_reducible assumption) | (with_reducible refine Below.alloc ?_ ?_ _) | (with_reducible refine Below.drew ?_) | (with_reducible refine Below.draws ?_ _) | (with_reducible refine Below.setCell ?_ ?_ _) | (refine Below.then ?_ (by with_reducible assumption)) | go_size))⟩
/-- a box for a result -/
structure RBox (w : World) (r : Nat) : Prop where
  lt : r < w.heap.size
  c0 : w.cell? ⟨r, 0, none⟩ = some (.int .i64 0)
  c1 : w.cell? ⟨r, 1, none⟩ = some (.int .i64 0)
  f0 : w.frozen? ⟨r, 0, none⟩ = false
  f1 : w.frozen? ⟨r, 1, none⟩ = false
theorem RBox.ext {w w' : World} {r : Nat} (h : RBox w r) (hb : Below w.heap.size w w') : RBox w' r :=
  ⟨Nat.lt_of_lt_of_le h.lt hb.size, (hb.cell (p := ⟨r, 0, none⟩) h.lt).trans h.c0, (hb.cell (p := ⟨r, 1, none⟩) h.lt).trans h.c1, (hb.frozen (p := ⟨r, 0, none⟩) h.lt).trans h.f0, (hb.frozen (p := ⟨r, 1, none⟩) h.lt).trans h.f1⟩
theorem both_is {p q a b c d : Nat} {x y e : Int} {w : World} (h1 : QOk (a, b)) (h2 : QOk (c, d)) (hp : p < w.heap.size) (hq : q < w.heap.size)
    (c0 : w.cell? ⟨p, 0, none⟩ = some (.int .i64 a)) (c1 : w.cell? ⟨p, 1, none⟩ = some (.int .i64 b)) (d0 : w.cell? ⟨q, 0, none⟩ = some (.int .i64 c)) (d1 : w.cell? ⟨q, 1, none⟩ = some (.int .i64 d))
    (h : lowR (a * d + c * b) (b * d) = ((x, y), e)) :
    Calls Try.prog 142 #[.agg #[.int .i64 a, .int .i64 b], .agg #[.int .i64 c, .int .i64 d], .func (.func 143) #[] #[.pointer (some ⟨p, 0, none⟩), .pointer (some ⟨q, 0, none⟩)]] w fun en w' => en = .returned (.tuple #[.agg #[.int .i64 x, .int .i64 y], .int .i64 e]) ∧ Below w.heap.size w w' := by
  have H1 := Lib.hid h1; have H2 := Lib.hid h2
  have HC : Hid (∀ w1 : World, Below w.heap.size w w1 → Calls Try.prog 143 #[.pointer (some ⟨p, 0, none⟩), .pointer (some ⟨q, 0, none⟩)] w1 fun en w' => en = .returned (.tuple #[.agg #[.int .i64 x, .int .i64 y], .int .i64 e]) ∧ Below w1.heap.size w1 w') :=
    Lib.hid (fun w1 hb => addF_is h1 h2 (Nat.lt_of_lt_of_le hp hb.size) (Nat.lt_of_lt_of_le hq hb.size) ((hb.cell (p := ⟨p, 0, none⟩) hp).trans c0) ((hb.cell (p := ⟨p, 1, none⟩) hp).trans c1) ((hb.cell (p := ⟨q, 0, none⟩) hq).trans d0) ((hb.cell (p := ⟨q, 1, none⟩) hq).trans d1) h)
  clear h h1 h2 c0 c1 d0 d1 hp hq
  go_enter Try.func142, Try.ntmps142
  go_wp2_with (first
    | (go_at_call 124; (with_reducible refine (rvalid_is H1.out).mono ?_); rintro e5 w5 ⟨rfl, hb5⟩; have B5 := Lib.hid (Below.then (show Below w.heap.size w _ by (repeat' (first | (with_reducible exact Below.refl _ _) | (with_reducible assumption) | (with_reducible refine Below.alloc ?_ ?_ _) | (with_reducible refine Below.drew ?_) | (with_reducible refine Below.draws ?_ _) | (with_reducible refine Below.setCell ?_ ?_ _) | (refine Below.then ?_ (by with_reducible assumption)) | go_size))) hb5); have Z5 : RBox w5 (w.heap.size + 1 + 1) := RBox.ext ⟨by simp, by simp [go_sem], by simp [go_sem], by simp [go_sem], by simp [go_sem]⟩ hb5; have y0 := (hb5.cell (p := ⟨w.heap.size + 1, 0, none⟩) (by simp <;> omega)).trans (show _ = some (.int .i64 c) by simp [go_sem]); have y1 := (hb5.cell (p := ⟨w.heap.size + 1, 1, none⟩) (by simp <;> omega)).trans (show _ = some (.int .i64 d) by simp [go_sem]); clear hb5)
    | (go_at_call 124; (with_reducible refine (rvalid_is H2.out).mono ?_); rintro e6 w6 ⟨rfl, hb6⟩; have B6 := Lib.hid (Below.then B5.out hb6); have Z6 := Z5.ext hb6; clear hb6)
    | (go_at_call 143; (with_reducible refine (HC.out _ B6.out).mono ?_); rintro e7 w7 ⟨rfl, hb7⟩; have B7 := Lib.hid (Below.then B6.out hb7); have Z7 := Z6.ext hb7; have z0 := Z7.c0; have z1 := Z7.c1; have f0 := Z7.f0; have f1 := Z7.f1; have hl7 := Z7.lt; clear hb7))
  exact bodyPost_ret (v := .tuple #[.agg #[.int .i64 x, .int .i64 y], .int .i64 e]) (by simp [results, Try.results142, go_sem, z0, z1]) rfl ⟨rfl, Below.setCell (Below.setCell B7.out (by simp <;> omega) _) (by simp <;> omega) _⟩
theorem Add_is {a b c d : Nat} {x y e : Int} {w : World} (h1 : QOk (a, b)) (h2 : QOk (c, d)) (h : lowR (a * d + c * b) (b * d) = ((x, y), e)) :
    Calls Try.prog 125 #[.agg #[.int .i64 a, .int .i64 b], .agg #[.int .i64 c, .int .i64 d]] w fun en w' => en = .returned (.tuple #[.agg #[.int .i64 x, .int .i64 y], .int .i64 e]) ∧ Below w.heap.size w w' := by
  have H1 := Lib.hid h1; have H2 := Lib.hid h2; have HH := Lib.hid h
  clear h h1 h2
  go_enter Try.func125, Try.ntmps125
  go_wp2_with (go_at_call 142; (with_reducible refine (both_is H1.out H2.out (by simp <;> omega) (by simp <;> omega) (by simp [go_sem]) (by simp [go_sem]) (by simp [go_sem]) (by simp [go_sem]) HH.out).mono ?_); rintro e5 w5 ⟨rfl, hb5⟩; have B5 := Lib.hid (Below.then (show Below w.heap.size w _ by (repeat' (first | (with_reducible exact Below.refl _ _) | (with_reducible assumption) | (with_reducible refine Below.alloc ?_ ?_ _) | (with_reducible refine Below.drew ?_) | (with_reducible refine Below.draws ?_ _) | (with_reducible refine Below.setCell ?_ ?_ _) | (refine Below.then ?_ (by with_reducible assumption)) | go_size))) hb5); have Z5 : RBox w5 (w.heap.size + 1 + 1) := RBox.ext ⟨by simp, by simp [go_sem], by simp [go_sem], by simp [go_sem], by simp [go_sem]⟩ hb5; have z0 := Z5.c0; have z1 := Z5.c1; have f0 := Z5.f0; have f1 := Z5.f1; have hl7 := Z5.lt; clear hb5)
  exact bodyPost_ret (v := .tuple #[.agg #[.int .i64 x, .int .i64 y], .int .i64 e]) (by simp [results, Try.results125, go_sem, z0, z1]) rfl ⟨rfl, Below.setCell (Below.setCell B5.out (by simp <;> omega) _) (by simp <;> omega) _⟩
theorem Rd.q_at {w : World} {a : Option Addr} {n : Nat} {qs : List Q} (h : Rd w a n 2 ((qs.map qI).map enc2)) (k : Nat) (hk : k < n) : ∃ (x y b off : Nat), a = some ⟨b, off, none⟩ ∧ b < w.heap.size ∧ w.cell? ⟨b, off + k * 2, none⟩ = some (.int .i64 (x : Int)) ∧ w.cell? ⟨b, off + k * 2 + 1, none⟩ = some (.int .i64 (y : Int)) ∧ qs[k]? = some (x, y) ∧ Hid (qs.drop k = (x, y) :: qs.drop (k + 1)) := by
  obtain ⟨hl, b, off, rfl, hb, h1, h2⟩ := h.two k hk
  have hl' : k < qs.length := by simpa using hl
  refine ⟨qs[k].1, qs[k].2, b, off, rfl, hb, ?_, ?_, List.getElem?_eq_getElem hl', List.drop_eq_getElem_cons hl'⟩
  · rw [h1]; simp [qI]
  · rw [h2]; simp [qI]
/-- a box with a sum in it -/
structure SBox (w : World) (r : Nat) (x y : Int) : Prop where
  lt : r < w.heap.size
  c0 : w.cell? ⟨r, 0, none⟩ = some (.int .i64 x)
  c1 : w.cell? ⟨r, 1, none⟩ = some (.int .i64 y)
  f0 : w.frozen? ⟨r, 0, none⟩ = false
  f1 : w.frozen? ⟨r, 1, none⟩ = false
theorem SBox.ext {w w' : World} {r : Nat} {x y : Int} (h : SBox w r x y) (hb : Below w.heap.size w w') : SBox w' r x y :=
  ⟨Nat.lt_of_lt_of_le h.lt hb.size, (hb.cell (p := ⟨r, 0, none⟩) h.lt).trans h.c0, (hb.cell (p := ⟨r, 1, none⟩) h.lt).trans h.c1, (hb.frozen (p := ⟨r, 0, none⟩) h.lt).trans h.f0, (hb.frozen (p := ⟨r, 1, none⟩) h.lt).trans h.f1⟩
theorem sb_new (w : World) (x y : Int) (T : TypeId) : SBox (w.alloc (.cells #[.int .i64 x, .int .i64 y] T)) w.heap.size x y := ⟨by simp, by simp [go_sem], by simp [go_sem], by simp [go_sem], by simp [go_sem]⟩
theorem addN_low {a b c d : Nat} {v : Bool} (h : rvQ (addN (a, b) (c, d)) = v) : lowR (a * d + c * b) (b * d) = if v then ((((addN (a, b) (c, d)).1 : Int), ((addN (a, b) (c, d)).2 : Int)), 0) else ((0, 0), 6) := by rw [lowR_eq, ← h]; rfl
theorem addN_ok {s q : Q} (h1 : QOk s) (h2 : QOk q) (h : rvQ (addN s q) = true) : QOk (addN s q) := lowN_ok (Nat.mul_pos h1.p h2.p) h
set_option maxRecDepth 100000 in
set_option maxHeartbeats 8000000 in
theorem Sum_is {a : Option Addr} {n c : Nat} {qs : List Q} {x y e : Int} {w : World} (hA : Rd w a n 2 ((qs.map qI).map enc2)) (hn : n ≤ 20) (hq : ∀ q ∈ qs, QOk q) (h : sumQ (0, 1) qs = ((x, y), e)) :
    Calls Try.prog 90 #[.slice a n c] w fun en w' => en = .returned (.tuple #[.agg #[.int .i64 x, .int .i64 y], .int .i64 e]) ∧ Below w.heap.size w w' := by
  have HA := Lib.hid hA; have HQ := Lib.hid hq
  have HL : Hid (qs.length = n) := Lib.hid (by have := hA.length; simpa using this)
  have HS0 : Hid (sumQ (0, 1) (qs.drop 0) = ((x, y), e)) := Lib.hid h
  clear hA hq h
  go_enter Try.func90, Try.ntmps90
  go_wp2
  go_loopw [17] (fun i wr => ∃ k : Nat, k ≤ n ∧ i = .int .i64 k ∧ RBox wr w.heap.size ∧ Below w.heap.size w wr) (fun i _ => n - (intOf i).toNat)
  case atStart => exact ⟨0, Nat.zero_le _, rfl, ⟨by simp, by simp [go_sem], by simp [go_sem], by simp [go_sem], by simp [go_sem]⟩, by (repeat' (first | (with_reducible exact Below.refl _ _) | (with_reducible assumption) | (with_reducible refine Below.alloc ?_ ?_ _) | (with_reducible refine Below.drew ?_) | (with_reducible refine Below.draws ?_ _) | (with_reducible refine Below.setCell ?_ ?_ _) | (refine Below.then ?_ (by with_reducible assumption)) | go_size))⟩
  case round =>
    obtain ⟨k, hk, rfl, hz, hb⟩ := hrel
    have HZ := Lib.hid hz; have HW := Lib.hid hb
    clear hz hb
    by_cases hlt : k < n
    · obtain ⟨u, v, b1, o1, rfl, hb1, c0, c1, hg, _⟩ := (HA.out.ext HW.out).q_at k hlt
      have HO := Lib.hid (HQ.out _ (List.mem_of_getElem? hg))
      have n1 : ¬ b1 = wr.heap.size := by omega
      clear hg
      go_wp2_with (go_at_call 124; (with_reducible refine (rvalid_is HO.out).mono ?_); rintro e5 w5 ⟨rfl, hb5⟩; have B5 := Lib.hid (Below.then (show Below wr.heap.size wr _ by (repeat' (first | (with_reducible exact Below.refl _ _) | (with_reducible assumption) | (with_reducible refine Below.alloc ?_ ?_ _) | (with_reducible refine Below.drew ?_) | (with_reducible refine Below.draws ?_ _) | (with_reducible refine Below.setCell ?_ ?_ _) | (refine Below.then ?_ (by with_reducible assumption)) | go_size))) hb5); clear hb5)
      go_roundw
      case rel => exact ⟨k + 1, by omega, by go_num, HZ.out.ext B5.out, Below.then HW.out B5.out⟩
      case measure => simp [intOf]; omega
    · have hlz := HZ.out.lt
      rename World => W1
      have HLW := Lib.hid hlz
      go_wp2
      go_loopw [29] (fun i wx => ∃ (k : Nat) (s : Q), k ≤ n ∧ i = .int .i64 k ∧ QOk s ∧ sumQ s (qs.drop k) = ((x, y), e) ∧ SBox wx W1.heap.size s.1 s.2 ∧ RBox wx w.heap.size ∧ Below w.heap.size w wx) (fun i _ => n - (intOf i).toNat)
      case atStart => exact ⟨0, (0, 1), Nat.zero_le _, rfl, ⟨by simp, by simp, by simp, rfl⟩, HS0.out, ⟨by simp, by simp [go_sem], by simp [go_sem], by simp [go_sem], by simp [go_sem]⟩, HZ.out.ext (by (repeat' (first | (with_reducible exact Below.refl _ _) | (with_reducible assumption) | (with_reducible refine Below.alloc ?_ ?_ _) | (with_reducible refine Below.drew ?_) | (with_reducible refine Below.draws ?_ _) | (with_reducible refine Below.setCell ?_ ?_ _) | (refine Below.then ?_ (by with_reducible assumption)) | go_size))), Below.then HW.out (by (repeat' (first | (with_reducible exact Below.refl _ _) | (with_reducible assumption) | (with_reducible refine Below.alloc ?_ ?_ _) | (with_reducible refine Below.drew ?_) | (with_reducible refine Below.draws ?_ _) | (with_reducible refine Below.setCell ?_ ?_ _) | (refine Below.then ?_ (by with_reducible assumption)) | go_size)))⟩
      case round =>
        obtain ⟨j, s, hj, rfl, hs, he, hsb, hz, hb⟩ := hrel
        obtain ⟨s1, s2⟩ := s
        have HE := Lib.hid he; have HZ2 := Lib.hid hz; have HW2 := Lib.hid hb; have HSB := Lib.hid hsb; have HS := Lib.hid hs
        have HW1 := Lib.hid HW.out.size
        clear he hz hb hsb hs HS0 HZ HW
        by_cases hlt : j < n
        · obtain ⟨u, v, b1, o1, rfl, hb1, c0, c1, hg, HD⟩ := (HA.out.ext HW2.out).q_at j hlt
          have HO := Lib.hid (HQ.out _ (List.mem_of_getElem? hg))
          have hE := HE.out
          rw [HD.out, sumQ] at hE
          have n1 : ¬ b1 = wr.heap.size := by omega
          have l0 := HZ2.out.lt; have l1 := HSB.out.lt; have s0 := HSB.out.c0; have s1' := HSB.out.c1
          have n2 : ¬ W1.heap.size = wr.heap.size := by omega
          obtain ⟨ok, hok⟩ : ∃ v' : Bool, rvQ (addN (s1, s2) (u, v)) = v' := ⟨_, rfl⟩
          rw [hok] at hE
          have hlow := addN_low hok
          clear hg HD
          cases ok
          · simp only [Bool.false_eq_true, if_false, Prod.mk.injEq] at hE hlow
            obtain ⟨⟨rfl, rfl⟩, rfl⟩ := hE
            have HLOW := Lib.hid hlow
            clear hlow hok
            go_wp2_with (go_at_call 125; (with_reducible refine (Add_is HS.out HO.out HLOW.out).mono ?_); rintro e5 w5 ⟨rfl, hb5⟩; have B5 := Lib.hid (Below.then (show Below wr.heap.size wr _ by (repeat' (first | (with_reducible exact Below.refl _ _) | (with_reducible assumption) | (with_reducible refine Below.alloc ?_ ?_ _) | (with_reducible refine Below.drew ?_) | (with_reducible refine Below.draws ?_ _) | (with_reducible refine Below.setCell ?_ ?_ _) | (refine Below.then ?_ (by with_reducible assumption)) | go_size))) hb5); have Z5 := HZ2.out.ext B5.out; have z0 := Z5.c0; have z1 := Z5.c1; have f0 := Z5.f0; have f1 := Z5.f1; have hl7 := Z5.lt; clear hb5)
            have X : SBox (((w5.setCell ⟨w.heap.size, 0, none⟩ (.int .i64 0)).setCell ⟨w.heap.size, 1, none⟩ (.int .i64 0)).alloc (.cells #[.int .i64 0, .int .i64 0] 64)) w.heap.size 0 0 :=
              SBox.ext (w := (w5.setCell ⟨w.heap.size, 0, none⟩ (.int .i64 0)).setCell ⟨w.heap.size, 1, none⟩ (.int .i64 0)) ⟨by simp; omega, by simp [go_sem, z0, z1], by simp [go_sem, z0, z1], by simp [go_sem, f0, f1], by simp [go_sem, f0, f1]⟩ (Below.alloc (Below.refl _ _) (Nat.le_refl _) _)
            have x0 := X.c0; have x1 := X.c1
            exact bodyPost_ret (v := .tuple #[.agg #[.int .i64 0, .int .i64 0], .int .i64 6]) (by simp [results, Try.results90, go_sem, x0, x1]) rfl ⟨rfl, Below.alloc (Below.setCell (Below.setCell (Below.then HW2.out B5.out) (by simp) _) (by simp) _) (by simp; omega) _⟩
          · simp only [if_true] at hE hlow
            have HLOW := Lib.hid hlow
            have HE2 := Lib.hid hE
            have HOK := Lib.hid (addN_ok HS.out HO.out hok)
            clear hlow hok hE
            go_wp2_with (go_at_call 125; (with_reducible refine (Add_is HS.out HO.out HLOW.out).mono ?_); rintro e5 w5 ⟨rfl, hb5⟩; have B5 := Lib.hid (Below.then (show Below wr.heap.size wr _ by (repeat' (first | (with_reducible exact Below.refl _ _) | (with_reducible assumption) | (with_reducible refine Below.alloc ?_ ?_ _) | (with_reducible refine Below.drew ?_) | (with_reducible refine Below.draws ?_ _) | (with_reducible refine Below.setCell ?_ ?_ _) | (refine Below.then ?_ (by with_reducible assumption)) | go_size))) hb5); have Z5 := HSB.out.ext B5.out; have z0 := Z5.c0; have z1 := Z5.c1; have f0 := Z5.f0; have f1 := Z5.f1; have hl7 := Z5.lt; clear hb5)
            have hl9 := HZ2.out.lt
            have hl10 := Z5.lt
            have hne : ¬ w.heap.size = W1.heap.size := by have := HLW.out; omega
            have hne' : ¬ W1.heap.size = w.heap.size := fun h => hne h.symm
            go_roundw
            case rel =>
              have Y5 := HZ2.out.ext B5.out
              have y0 := Y5.c0; have y1 := Y5.c1; have g0 := Y5.f0; have g1 := Y5.f1; have yl := Y5.lt
              refine ⟨j + 1, addN (s1, s2) (u, v), by omega, by go_num, HOK.out, HE2.out, SBox.ext (w := (w5.setCell ⟨W1.heap.size, 0, none⟩ _).setCell ⟨W1.heap.size, 1, none⟩ _) ⟨by simp; omega, by simp [go_sem, z0, z1], by simp [go_sem, z0, z1], by simp [go_sem, f0, f1], by simp [go_sem, f0, f1]⟩ (Below.alloc (Below.refl _ _) (Nat.le_refl _) _),
                RBox.ext (w := (w5.setCell ⟨W1.heap.size, 0, none⟩ _).setCell ⟨W1.heap.size, 1, none⟩ _) ⟨by simp; omega, by simp [go_sem, y0, y1, hne, hne'], by simp [go_sem, y0, y1, hne, hne'], by simp [go_sem, g0, g1, hne, hne'], by simp [go_sem, g0, g1, hne, hne']⟩ (Below.alloc (Below.refl _ _) (Nat.le_refl _) _),
                Below.alloc (Below.setCell (Below.setCell (Below.then HW2.out B5.out) (show _ ≤ W1.heap.size by omega) _) (show _ ≤ W1.heap.size by omega) _) (by simp; omega) _⟩
            case measure => simp [intOf]; omega
        · have hE := HE.out
          rw [drop_end HL.out (by omega), sumQ] at hE
          simp only [qI, Prod.mk.injEq] at hE
          obtain ⟨⟨rfl, rfl⟩, rfl⟩ := hE
          have l0 := HZ2.out.lt; have l1 := HSB.out.lt; have s0 := HSB.out.c0; have s1' := HSB.out.c1
          have f0 := HZ2.out.f0; have f1 := HZ2.out.f1; have z0 := HZ2.out.c0; have z1 := HZ2.out.c1
          go_wp2
          exact bodyPost_ret (v := .tuple #[.agg #[.int .i64 s1, .int .i64 s2], .int .i64 0]) (by simp [results, Try.results90, go_sem, z0, z1]) rfl ⟨rfl, Below.setCell (Below.setCell HW2.out (by simp) _) (by simp) _⟩
/-- a box with a ratio in it -/
structure QBox (w : World) (p : Nat) (a b : Nat) : Prop where
  lt : p < w.heap.size
  c0 : w.cell? ⟨p, 0, none⟩ = some (.int .i64 a)
  c1 : w.cell? ⟨p, 1, none⟩ = some (.int .i64 b)
theorem QBox.ext {w w' : World} {p : Nat} {a b : Nat} (h : QBox w p a b) (hb : Below w.heap.size w w') : QBox w' p a b :=
  ⟨Nat.lt_of_lt_of_le h.lt hb.size, (hb.cell (p := ⟨p, 0, none⟩) h.lt).trans h.c0, (hb.cell (p := ⟨p, 1, none⟩) h.lt).trans h.c1⟩
theorem rAdd_is {a b c d : Nat} {x y e : Int} {w : World} (h1 : QOk (a, b)) (h2 : QOk (c, d)) (h : lowR (a * d + c * b) (b * d) = ((x, y), e)) :
    Calls Try.prog 128 #[.agg #[.int .i64 a, .int .i64 b], .agg #[.int .i64 c, .int .i64 d]] w fun en w' => en = .returned (.tuple #[.agg #[.int .i64 x, .int .i64 y], .int .i64 e]) ∧ Below w.heap.size w w' := by
  have H1 := Lib.hid h1; have H2 := Lib.hid h2
  have ha := h1.x; have hb := h1.y; have hc := h2.x; have hd := h2.y; have hb1 := h1.p; have hd1 := h2.p
  simp only [] at ha hb hc hd hb1 hd1
  have m1 : a * d ≤ 1000000000000000000 := Nat.le_trans (Nat.mul_le_mul ha hd) (by decide)
  have m2 : c * b ≤ 1000000000000000000 := Nat.le_trans (Nat.mul_le_mul hc hb) (by decide)
  have m3 : b * d ≤ 1000000000000000000 := Nat.le_trans (Nat.mul_le_mul hb hd) (by decide)
  have m4 : 1 ≤ b * d := Nat.mul_pos hb1 hd1
  have hR : lowR (a * d + c * b) (b * d) = ((x, y), e) := h
  have e1 : (a : Int) * (d : Int) = ((a * d : Nat) : Int) := by simp
  have e2 : (c : Int) * (b : Int) = ((c * b : Nat) : Int) := by simp
  have e3 : (b : Int) * (d : Int) = ((b * d : Nat) : Int) := by simp
  generalize a * d = k1 at *
  generalize c * b = k2 at *
  generalize b * d = k3 at *
  have e4 : (k1 : Int) + (k2 : Int) = ((k1 + k2 : Nat) : Int) := by simp
  have hs4 : k1 + k2 ≤ 4000000000000000000 := by omega
  generalize k1 + k2 = k4 at *
  have w1' : IntKind.i64.wrap (k1 : Int) = (k1 : Int) := IntWalk.i64_in _ (by omega)
  have w2' : IntKind.i64.wrap (k2 : Int) = (k2 : Int) := IntWalk.i64_in _ (by omega)
  have w3' : IntKind.i64.wrap (k3 : Int) = (k3 : Int) := IntWalk.i64_in _ (by omega)
  have w4' : IntKind.i64.wrap (k4 : Int) = (k4 : Int) := IntWalk.i64_in _ (by omega)
  have HR := Lib.hid hR
  clear h h1 h2 hR
  go_enter Try.func128, Try.ntmps128
  go_wp2_with (first
    | (go_at_call 127; (with_reducible refine (r2valid_is H1.out).mono ?_); rintro e5 w5 ⟨rfl, hb5⟩; have B5 := Lib.hid (Below.then (show Below w.heap.size w _ by (repeat' (first | (with_reducible exact Below.refl _ _) | (with_reducible assumption) | (with_reducible refine Below.alloc ?_ ?_ _) | (with_reducible refine Below.drew ?_) | (with_reducible refine Below.draws ?_ _) | (with_reducible refine Below.setCell ?_ ?_ _) | (refine Below.then ?_ (by with_reducible assumption)) | go_size))) hb5); have Z5 : RBox w5 (w.heap.size + 1 + 1) := RBox.ext ⟨by simp, by simp [go_sem], by simp [go_sem], by simp [go_sem], by simp [go_sem]⟩ hb5
       have S5 : QBox w5 w.heap.size a b := QBox.ext ⟨by simp <;> omega, by simp [go_sem], by simp [go_sem]⟩ hb5
       have T5 : QBox w5 (w.heap.size + 1) c d := QBox.ext ⟨by simp <;> omega, by simp [go_sem], by simp [go_sem]⟩ hb5
       have s0 := S5.c0; have s1 := S5.c1; have t0 := T5.c0; have t1 := T5.c1; clear hb5)
    | (go_at_call 127; (with_reducible refine (r2valid_is H2.out).mono ?_); rintro e6 w6 ⟨rfl, hb6⟩; have B6 := Lib.hid (Below.then B5.out hb6); have Z6 := Z5.ext hb6
       have S6 := S5.ext hb6
       have T6 := T5.ext hb6
       have s2 := S6.c0; have s3 := S6.c1; have t2 := T6.c0; have t3 := T6.c1; clear hb6)
    | (go_at_call 126; (with_reducible refine (r2lowest_is hs4 (by omega) m4 HR.out).mono ?_); rintro e7 w7 ⟨rfl, hb7⟩; have B7 := Lib.hid (Below.then B6.out hb7); have Z7 := Z6.ext hb7; have z0 := Z7.c0; have z1 := Z7.c1; have f0 := Z7.f0; have f1 := Z7.f1; have hl7 := Z7.lt; clear hb7))
  exact bodyPost_ret (v := .tuple #[.agg #[.int .i64 x, .int .i64 y], .int .i64 e]) (by simp [results, Try.results128, go_sem, z0, z1]) rfl ⟨rfl, Below.setCell (Below.setCell B7.out (by simp <;> omega) _) (by simp <;> omega) _⟩
set_option maxRecDepth 100000 in
set_option maxHeartbeats 8000000 in
theorem rSum_is {a : Option Addr} {n c : Nat} {qs : List Q} {x y e : Int} {w : World} (hA : Rd w a n 2 ((qs.map qI).map enc2)) (hn : n ≤ 20) (hq : ∀ q ∈ qs, QOk q) (h : sumQ (0, 1) qs = ((x, y), e)) :
    Calls Try.prog 92 #[.slice a n c] w fun en w' => en = .returned (.tuple #[.agg #[.int .i64 x, .int .i64 y], .int .i64 e]) ∧ Below w.heap.size w w' := by
  have HA := Lib.hid hA; have HQ := Lib.hid hq
  have HL : Hid (qs.length = n) := Lib.hid (by have := hA.length; simpa using this)
  have HS0 : Hid (sumQ (0, 1) (qs.drop 0) = ((x, y), e)) := Lib.hid h
  clear hA hq h
  go_enter Try.func92, Try.ntmps92
  go_wp2
  go_loopw [4] (fun i wr => ∃ k : Nat, k ≤ n ∧ i = .int .i64 k ∧ RBox wr w.heap.size ∧ Below w.heap.size w wr) (fun i _ => n - (intOf i).toNat)
  case atStart => exact ⟨0, Nat.zero_le _, rfl, ⟨by simp, by simp [go_sem], by simp [go_sem], by simp [go_sem], by simp [go_sem]⟩, by (repeat' (first | (with_reducible exact Below.refl _ _) | (with_reducible assumption) | (with_reducible refine Below.alloc ?_ ?_ _) | (with_reducible refine Below.drew ?_) | (with_reducible refine Below.draws ?_ _) | (with_reducible refine Below.setCell ?_ ?_ _) | (refine Below.then ?_ (by with_reducible assumption)) | go_size))⟩
  case round =>
    obtain ⟨k, hk, rfl, hz, hb⟩ := hrel
    have HZ := Lib.hid hz; have HW := Lib.hid hb
    clear hz hb
    by_cases hlt : k < n
    · obtain ⟨u, v, b1, o1, rfl, hb1, c0, c1, hg, _⟩ := (HA.out.ext HW.out).q_at k hlt
      have HO := Lib.hid (HQ.out _ (List.mem_of_getElem? hg))
      have n1 : ¬ b1 = wr.heap.size := by omega
      clear hg
      go_wp2_with (go_at_call 127; (with_reducible refine (r2valid_is HO.out).mono ?_); rintro e5 w5 ⟨rfl, hb5⟩; have B5 := Lib.hid (Below.then (show Below wr.heap.size wr _ by (repeat' (first | (with_reducible exact Below.refl _ _) | (with_reducible assumption) | (with_reducible refine Below.alloc ?_ ?_ _) | (with_reducible refine Below.drew ?_) | (with_reducible refine Below.draws ?_ _) | (with_reducible refine Below.setCell ?_ ?_ _) | (refine Below.then ?_ (by with_reducible assumption)) | go_size))) hb5); clear hb5)
      go_roundw
      case rel => exact ⟨k + 1, by omega, by go_num, HZ.out.ext B5.out, Below.then HW.out B5.out⟩
      case measure => simp [intOf]; omega
    · have hlz := HZ.out.lt
      rename World => W1
      have HLW := Lib.hid hlz
      go_wp2
      go_loopw [6] (fun i wx => ∃ (k : Nat) (s : Q), k ≤ n ∧ i = .int .i64 k ∧ QOk s ∧ sumQ s (qs.drop k) = ((x, y), e) ∧ SBox wx W1.heap.size s.1 s.2 ∧ RBox wx w.heap.size ∧ Below w.heap.size w wx) (fun i _ => n - (intOf i).toNat)
      case atStart => exact ⟨0, (0, 1), Nat.zero_le _, rfl, ⟨by simp, by simp, by simp, rfl⟩, HS0.out, ⟨by simp, by simp [go_sem], by simp [go_sem], by simp [go_sem], by simp [go_sem]⟩, HZ.out.ext (by (repeat' (first | (with_reducible exact Below.refl _ _) | (with_reducible assumption) | (with_reducible refine Below.alloc ?_ ?_ _) | (with_reducible refine Below.drew ?_) | (with_reducible refine Below.draws ?_ _) | (with_reducible refine Below.setCell ?_ ?_ _) | (refine Below.then ?_ (by with_reducible assumption)) | go_size))), Below.then HW.out (by (repeat' (first | (with_reducible exact Below.refl _ _) | (with_reducible assumption) | (with_reducible refine Below.alloc ?_ ?_ _) | (with_reducible refine Below.drew ?_) | (with_reducible refine Below.draws ?_ _) | (with_reducible refine Below.setCell ?_ ?_ _) | (refine Below.then ?_ (by with_reducible assumption)) | go_size)))⟩
      case round =>
        obtain ⟨j, s, hj, rfl, hs, he, hsb, hz, hb⟩ := hrel
        obtain ⟨s1, s2⟩ := s
        have HE := Lib.hid he; have HZ2 := Lib.hid hz; have HW2 := Lib.hid hb; have HSB := Lib.hid hsb; have HS := Lib.hid hs
        have HW1 := Lib.hid HW.out.size
        clear he hz hb hsb hs HS0 HZ HW
        by_cases hlt : j < n
        · obtain ⟨u, v, b1, o1, rfl, hb1, c0, c1, hg, HD⟩ := (HA.out.ext HW2.out).q_at j hlt
          have HO := Lib.hid (HQ.out _ (List.mem_of_getElem? hg))
          have hE := HE.out
          rw [HD.out, sumQ] at hE
          have n1 : ¬ b1 = wr.heap.size := by omega
          have l0 := HZ2.out.lt; have l1 := HSB.out.lt; have s0 := HSB.out.c0; have s1' := HSB.out.c1
          have n2 : ¬ W1.heap.size = wr.heap.size := by omega
          obtain ⟨ok, hok⟩ : ∃ v' : Bool, rvQ (addN (s1, s2) (u, v)) = v' := ⟨_, rfl⟩
          rw [hok] at hE
          have hlow := addN_low hok
          clear hg HD
          cases ok
          · simp only [Bool.false_eq_true, if_false, Prod.mk.injEq] at hE hlow
            obtain ⟨⟨rfl, rfl⟩, rfl⟩ := hE
            have HLOW := Lib.hid hlow
            clear hlow hok
            go_wp2_with fail
            go_cut [7, 8] (fun s7 s8 wx => ∃ p : Nat, s7 = .pointer (some ⟨p, 0, none⟩) ∧ s8 = .int .i64 6 ∧ wr.heap.size ≤ p ∧ SBox wx p 0 0 ∧ Below wr.heap.size wr wx)
            case first =>
              go_region_with (go_at_call 128; refine (rAdd_is HS.out HO.out HLOW.out).mono ?_; rintro e w1 ⟨rfl, hb1⟩; obtain ⟨hc1, hf1, hz1, hr1⟩ := bfacts hb1; (try simp only [World.size_alloc, World.size_setCell, World.size_drew, World.size_drewN] at hz1 hr1); (try have hw0 : w.heap.size < w1.heap.size := by omega); (try have hw1 : w.heap.size + 1 < w1.heap.size := by omega); (try have hw2 : w.heap.size + 1 + 1 < w1.heap.size := by omega))
              all_goals (go_wp2_with fail; go_meet; first | exact ⟨_, rfl, rfl, by omega, sb_new _ _ _ _, by (repeat' (first | (with_reducible exact Below.refl _ _) | (with_reducible assumption) | (with_reducible refine Below.alloc ?_ ?_ _) | (with_reducible refine Below.drew ?_) | (with_reducible refine Below.draws ?_ _) | (with_reducible refine Below.setCell ?_ ?_ _) | (refine Below.then ?_ (by with_reducible assumption)) | go_size))⟩ | exact ⟨_, rfl, rfl, by omega, ⟨by simp; omega, by simp [go_sem, hc1], by simp [go_sem, hc1], by simp [go_sem, hf1, hc1], by simp [go_sem, hf1, hc1]⟩, by (repeat' (first | (with_reducible exact Below.refl _ _) | (with_reducible assumption) | (with_reducible refine Below.alloc ?_ ?_ _) | (with_reducible refine Below.drew ?_) | (with_reducible refine Below.draws ?_ _) | (with_reducible refine Below.setCell ?_ ?_ _) | (refine Below.then ?_ (by with_reducible assumption)) | go_size))⟩)
            case rest =>
            obtain ⟨p, rfl, rfl, hpl, hpb, hBc⟩ := hcut
            have B5 := Lib.hid hBc
            have Z5 := HZ2.out.ext B5.out; have z0 := Z5.c0; have z1 := Z5.c1; have f0 := Z5.f0; have f1 := Z5.f1; have hl7 := Z5.lt
            have p0 := hpb.c0; have p1 := hpb.c1; have hpl2 := hpb.lt
            clear hpb hBc
            go_wp2_with fail
            exact bodyPost_ret (v := .tuple #[.agg #[.int .i64 0, .int .i64 0], .int .i64 6]) (by simp [results, Try.results92, go_sem, z0, z1]) rfl ⟨rfl, Below.setCell (Below.setCell (Below.then HW2.out B5.out) (by simp) _) (by simp) _⟩
          · simp only [if_true] at hE hlow
            have HLOW := Lib.hid hlow
            have HE2 := Lib.hid hE
            have HOK := Lib.hid (addN_ok HS.out HO.out hok)
            clear hlow hok hE
            go_wp2_with fail
            go_cut [7, 8] (fun s7 s8 wx => ∃ p : Nat, s7 = .pointer (some ⟨p, 0, none⟩) ∧ s8 = .int .i64 0 ∧ wr.heap.size ≤ p ∧ SBox wx p (addN (s1, s2) (u, v)).1 (addN (s1, s2) (u, v)).2 ∧ Below wr.heap.size wr wx)
            case first =>
              go_region_with (go_at_call 128; refine (rAdd_is HS.out HO.out HLOW.out).mono ?_; rintro e w1 ⟨rfl, hb1⟩; obtain ⟨hc1, hf1, hz1, hr1⟩ := bfacts hb1; (try simp only [World.size_alloc, World.size_setCell, World.size_drew, World.size_drewN] at hz1 hr1); (try have hw0 : w.heap.size < w1.heap.size := by omega); (try have hw1 : w.heap.size + 1 < w1.heap.size := by omega); (try have hw2 : w.heap.size + 1 + 1 < w1.heap.size := by omega))
              all_goals (go_wp2_with fail; go_meet; first | exact ⟨_, rfl, rfl, by omega, sb_new _ _ _ _, by (repeat' (first | (with_reducible exact Below.refl _ _) | (with_reducible assumption) | (with_reducible refine Below.alloc ?_ ?_ _) | (with_reducible refine Below.drew ?_) | (with_reducible refine Below.draws ?_ _) | (with_reducible refine Below.setCell ?_ ?_ _) | (refine Below.then ?_ (by with_reducible assumption)) | go_size))⟩ | exact ⟨_, rfl, rfl, by omega, ⟨by simp; omega, by simp [go_sem, hc1], by simp [go_sem, hc1], by simp [go_sem, hf1, hc1], by simp [go_sem, hf1, hc1]⟩, by (repeat' (first | (with_reducible exact Below.refl _ _) | (with_reducible assumption) | (with_reducible refine Below.alloc ?_ ?_ _) | (with_reducible refine Below.drew ?_) | (with_reducible refine Below.draws ?_ _) | (with_reducible refine Below.setCell ?_ ?_ _) | (refine Below.then ?_ (by with_reducible assumption)) | go_size))⟩)
            case rest =>
            obtain ⟨p, rfl, rfl, hpl, hpb, hBc⟩ := hcut
            have B5 := Lib.hid hBc
            have Z5 := HSB.out.ext B5.out; have z0 := Z5.c0; have z1 := Z5.c1; have f0 := Z5.f0; have f1 := Z5.f1; have hl7 := Z5.lt
            have p0 := hpb.c0; have p1 := hpb.c1; have hpl2 := hpb.lt
            clear hpb hBc
            go_wp2_with fail
            have hl9 := HZ2.out.lt
            have hl10 := Z5.lt
            have hne : ¬ w.heap.size = W1.heap.size := by have := HLW.out; omega
            have hne' : ¬ W1.heap.size = w.heap.size := fun h => hne h.symm
            go_roundw
            case rel =>
              have Y5 := HZ2.out.ext B5.out
              have y0 := Y5.c0; have y1 := Y5.c1; have g0 := Y5.f0; have g1 := Y5.f1; have yl := Y5.lt
              refine ⟨j + 1, addN (s1, s2) (u, v), by omega, by go_num, HOK.out, HE2.out, ⟨by simp; omega, by simp [go_sem, z0, z1], by simp [go_sem, z0, z1], by simp [go_sem, f0, f1], by simp [go_sem, f0, f1]⟩,
                ⟨by simp; omega, by simp [go_sem, y0, y1, hne, hne'], by simp [go_sem, y0, y1, hne, hne'], by simp [go_sem, g0, g1, hne, hne'], by simp [go_sem, g0, g1, hne, hne']⟩,
                Below.setCell (Below.setCell (Below.then HW2.out B5.out) (show _ ≤ W1.heap.size by omega) _) (show _ ≤ W1.heap.size by omega) _⟩
            case measure => simp [intOf]; omega
        · have hE := HE.out
          rw [drop_end HL.out (by omega), sumQ] at hE
          simp only [qI, Prod.mk.injEq] at hE
          obtain ⟨⟨rfl, rfl⟩, rfl⟩ := hE
          have l0 := HZ2.out.lt; have l1 := HSB.out.lt; have s0 := HSB.out.c0; have s1' := HSB.out.c1
          have f0 := HZ2.out.f0; have f1 := HZ2.out.f1; have z0 := HZ2.out.c0; have z1 := HZ2.out.c1
          go_wp2
          exact bodyPost_ret (v := .tuple #[.agg #[.int .i64 s1, .int .i64 s2], .int .i64 0]) (by simp [results, Try.results92, go_sem, z0, z1]) rfl ⟨rfl, Below.setCell (Below.setCell HW2.out (by simp) _) (by simp) _⟩
end Go.Proofs.Ytabbmnnohnfbeaa
