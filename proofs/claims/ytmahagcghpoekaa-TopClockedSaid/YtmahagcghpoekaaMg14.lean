/- A range over an iterator that never ends by itself: the iterator is told of the loop's invariant. No condition beyond those named. Contracts of the functions on clocks (Reading, When and what they call), and of Looser. The conditions are the ones that each contract names. The moments of a timer, step by step. No condition: plain lemmas. The iterator alarms$1, told of the loop's invariant. The conditions: clock and period as named; no more than 40 alarms have come between two rounds. The contract of Timed of the program. No condition. The contract of Timer of the program. No condition. What Timer gives: it is there, it ascends, and Timed's pattern allows it. No condition: plain lemmas. A run whose events each pattern allows. No condition: plain lemmas. The contract of Densest, and what it gives. The conditions are the ones that the contract names. A run under way in memory, its events in a block that is written. No condition: plain lemmas. A run under way in memory: its start, its rows of events, how it reads at the end. No condition: plain lemmas. -/
import Derived.RangeFuncNested
import Derived.RangeFuncBound
import Derived.RangeFuncCalls
import Derived.RangeFuncLeaves
import Derived.Test.YtmahagcghpoekaaMg1
import Derived.Test.YtmahagcghpoekaaMg5
import Derived.Shelf.Abstract
import Derived.Shelf.RegionOpen
import Derived.WalkKit
import Derived.OwnWalkIn
import Derived.TacticsInMore
import Derived.LoopNIn
import Derived.LoopIn
import Derived.Deep.Cut
import Derived.Deep.RegionHeld3
import Derived.Maps.AppendAt
import Derived.RangeFuncBox
import Derived.Test.YtmahagcghpoekaaMg9
import Derived.Test.YtmahagcghpoekaaMg11
import Derived.Test.YtmahagcghpoekaaMg10
import Derived.Test.YtmahagcghpoekaaMg3
import Derived.Test.YtmahagcghpoekaaMg12
namespace Go.Proofs.Ytmahagcghpoekaa
open Go.RowKit
set_option linter.unusedSimpArgs false
set_option linter.unusedVariables false
/-- how a round may be left: it goes on, or it breaks off -/
def toldPost {α : Type} (B : Nat) (Kp : World → World → Prop) (I : List α → World → Prop) (X : Code → List α → World → Prop) (xs : List α) (W : World) : Exit → Act → World → Prop
  | .normal, _, W' => KeepsFrom B W W' ∧ Kp W W' ∧ I xs W'
  | .exit id, _, W' => KeepsFrom B W W' ∧ X (.exit id) xs W'
  | _, _, _ => False
/-- what the iterator owes, told that J implies I -/
def Told {α : Type} (F : Fence) (n : Nat) (P : Program) (gf : Nat) (lb : Array Value) (encs : α → Array Value) (Kp : World → World → Prop) (I : List α → World → Prop) (Sp : List α → Prop) (w : World) : Prop :=
  ∀ (l : Nat) (J Jx : List α → World → Prop) (W : World), Below w.heap.size w W → (∀ pre V, J pre V → I pre V) → AbidesFrom W.heap.size J →
    (∀ pre x V, J pre V → YieldAt F (n - 1) P l (encs x) V fun e V' => (e = .returned (.bool true) ∧ J (pre ++ [x]) V' ∧ Kp V V') ∨ (e = .returned (.bool false) ∧ Jx (pre ++ [x]) V')) →
    J [] W → CallsIn F n P gf (#[.func (.yield l) #[] #[]] ++ lb) W fun e V => (∃ v, e = .returned v) ∧ ∃ pre, Sp pre ∧ Jx pre V
/-- the two blocks that the statement lays: the rounds' deferred calls, and the loop's record -/
structure Laid2 (b : Nat) (r : Loop) (W : World) : Prop where
  d : W.heap[b]? = some (.deferred (some []))
  l : W.heap[b + 1]? = some (.loop r)
theorem Laid2.lt {b : Nat} {r : Loop} {W : World} (h : Laid2 b r W) : b + 1 < W.heap.size := (Array.getElem?_eq_some_iff.1 h.l).1
theorem Laid2.put {b : Nat} {r r' : Loop} {W : World} (h : Laid2 b r W) : Laid2 b r' (W.putObj (b + 1) (.loop r')) :=
  ⟨(World.putObj_heap_other (by omega)).trans h.d, World.putObj_heap_same h.lt⟩
theorem Laid2.kept {b : Nat} {r : Loop} {W W' : World} (h : Laid2 b r W) (k : KeepsFrom b W W') : Laid2 b r W' :=
  ⟨k.same b _ (Nat.le_refl _) h.d rfl, k.same (b + 1) _ (by omega) h.l rfl⟩
theorem Laid2.walked {b : Nat} {r : Loop} {W W' : World} {row : Option Nat} (h : Laid2 b r W) (hg : W.grownBy W' row) (hr : ∀ x, row = some x → ∃ o : Obj, W.heap[x]? = some o ∧ o.isWalk = true) : Laid2 b r W' :=
  ⟨(grownBy_keeps hg hr h.d rfl).trans h.d, (grownBy_keeps hg hr h.l rfl).trans h.l⟩
section
variable {F : Fence} {n : Nat} {P : Program}
theorem wpIn_told {α : Type} {g : Operand} {ps : Array Tmp} {assign body : Code} {Q : Exit → Act → World → Prop} {a : Act} {w : World}
    (hro : F.round = none) (h1 : 1 ≤ n) {gf : Nat} {lb : Array Value} (hg : a.eval g = .func (.func gf) #[] lb) (hFg : F.fn gf) (eg : ∀ args w, (callFunc gf args).run P w = .ok (.enter gf args) w)
    {encs : α → Array Value} (hps : ∀ x, (encs x).size = ps.size) {Kp : World → World → Prop} (hKt : ∀ {A B C : World}, Kp A B → Kp B C → Kp A C) (hKb : ∀ (W : World) (l : Nat) (o o' : Obj), w.heap.size ≤ l → W.heap[l]? = some o → o.isCells = false → Kp W (W.putObj l o'))
    (I : List α → World → Prop) (X : Code → List α → World → Prop) (hI : OwnFrom w.heap.size I) (hX : ∀ c, OwnFrom w.heap.size (X c)) (h0 : I [] w)
    {Sp : List α → Prop} (hit : Told F (n - 1) P gf lb encs Kp I Sp w) (a₁ : α → Act)
    (hassign : ∀ (l : Nat) (x : α) (W : World) (K : Act → World → Prop), K (a₁ x) W →
      assign.wpIn (F.inRound l) (n - 1 - 1) P (Exit.then K (fun _ _ _ => False)) { tmps := (ps.zip (encs x)).foldl (fun t (p, v) => t.setIfInBounds p v) a.tmps, defers := [] } W)
    (hbody : ∀ (l : Nat) (pre : List α) (x : α) (W : World), I pre W → body.wpIn (F.inRound l) (n - 1 - 1) P (toldPost w.heap.size Kp I X (pre ++ [x]) W) (a₁ x) W)
    (hstop : ∀ (D : Nat) (c : Code) (pre : List α) (W : World), w.heap.size ≤ D → Sp pre → X c pre W → W.heap[D]? = some (.deferred (some [])) → c.wpIn F n P Q { a with defers := { target := .collected D, args := #[] } :: a.defers } W) :
    (Code.rangeFunc g ps assign body).wpIn F n P Q a w := by
  refine wpIn_rangeFunc (fun fn hfn => ?_)
  rw [hro]
  obtain ⟨R, hR⟩ : ∃ R : LoopState → Option Code → Loop, R = fun s j => { state := s, pending := j, fn, tmps := a.tmps, params := ps, assign, body, defers := w.heap.size } := ⟨_, rfl⟩
  have hput : ∀ (s s' : LoopState) (j j' : Option Code), ({ R s j with state := s', pending := j' } : Loop) = R s' j' := fun s s' j j' => by rw [hR]
  have hput2 : ∀ (s s' : LoopState) (j : Option Code), ({ R s j with state := s' } : Loop) = R s' j := fun s s' j => by rw [hR]
  obtain ⟨V, hV⟩ : ∃ V, (w.alloc (.deferred (some []))).alloc (.loop (R .ready none)) = V := ⟨_, rfl⟩
  have hbV : Below w.heap.size w V := by rw [← hV]; exact ((Below.refl _ w).alloc (Nat.le_refl _) _).alloc (by simp) _
  have hLV : Laid2 w.heap.size (R .ready none) V := by
    rw [← hV]
    refine ⟨(Below.heap_alloc _ _ _ (by simp)).trans (World.alloc_heap_new w _), ?_⟩
    have := World.alloc_heap_new (w.alloc (.deferred (some []))) (.loop (R .ready none))
    rwa [World.size_alloc] at this
  have hIV : I [] V := by rw [← hV]; exact hI.alloc _ (hI.alloc _ h0)
  have hzV : w.heap.size ≤ V.heap.size := hbV.size
  refine ⟨w.heap.size + 1, [{ target := .collected w.heap.size, args := #[] }], V, { target := .fn (.func gf) lb, args := #[.func (.yield (w.heap.size + 1)) #[] #[]] }, V, gf, #[.func (.yield (w.heap.size + 1)) #[] #[]] ++ lb, V,
    by rw [← hV, hR]; exact run_enterLoop_outer _ _ _ _ _, by simp only [resolve, hg]; simp [go_sem], fun f' hf' => by simp [Target.leads] at hf'; subst hf'; exact hFg, by simp [invoke, go_sem, eg], fun _ => h1, ?_⟩
  -- a turn of a walk's block above V is a turn of a block above w that is no cells
  have low : ∀ {A : World} {row : Option Nat}, (∀ r, row = some r → V.heap.size ≤ r ∧ ∃ o : Obj, A.heap[r]? = some o ∧ o.isWalk = true) → ∀ r, row = some r → w.heap.size ≤ r ∧ ∃ o : Obj, A.heap[r]? = some o ∧ o.isCells = false := fun h r e => by
    obtain ⟨h1, o, h2, h3⟩ := h r e
    exact ⟨by omega, o, h2, Obj.not_cells_of_walk h3⟩
  have wlk : ∀ {A : World} {row : Option Nat}, (∀ r, row = some r → V.heap.size ≤ r ∧ ∃ o : Obj, A.heap[r]? = some o ∧ o.isWalk = true) → ∀ r, row = some r → ∃ o : Obj, A.heap[r]? = some o ∧ o.isWalk = true := fun h r e => (h r e).2
  refine (hit (w.heap.size + 1) (fun pre W => I pre W ∧ Laid2 w.heap.size (R .ready none) W) (fun pre W => ∃ c, X c pre W ∧ Laid2 w.heap.size (R .done (some c)) W) V hbV (fun _ _ h => h.1)
    (fun s A B row hs hgr hr => ⟨hI s A B row hs.1 hgr (low hr), hs.2.walked hgr (wlk hr)⟩) (fun pre x W hJ => ?_) ⟨hIV, hLV⟩).mono ?_
  · -- a round
    obtain ⟨hi, hL⟩ := hJ
    have hy := run_yield (P := P) (args := encs x) hL.l (by rw [hR]; exact hps x)
    rw [hR] at hy
    refine ⟨fn, _, assign, body, hy, roundIn_of_wpIn hfn (hassign _ x W _ ⟨_, run_beginRound hL.l (by rw [hR]), ?_⟩)⟩
    rw [hput2]
    have hL2 := hL.put (r' := R .busy none)
    have hi2 : I pre (W.putObj (w.heap.size + 1) (.loop (R .busy none))) := hI.putObj _ hi (by omega) hL.l rfl
    have hb2 : Kp W (W.putObj (w.heap.size + 1) (.loop (R .busy none))) := hKb _ _ _ _ (by omega) hL.l rfl
    obtain ⟨W2, hW2⟩ : ∃ W2, W.putObj (w.heap.size + 1) (.loop (R .busy none)) = W2 := ⟨_, rfl⟩
    rw [hW2] at hL2 hi2 hb2 ⊢
    refine wpIn_mono (hbody _ pre x W2 hi2) (fun e a3 W3 hp => ?_)
    match e, hp with
    | .normal, ⟨hk, hb, hi3⟩ =>
      have hL3 := hL2.kept hk
      have hr := run_endRound (P := P) none hL3.l
      rw [hput] at hr
      exact ⟨_, _, hr, .inl ⟨rfl, ⟨hI.putObj _ hi3 (by omega) hL3.l rfl, hL3.put⟩, hKt (hKt hb2 hb) (hKb _ _ _ _ (by omega) hL3.l rfl)⟩⟩
    | .exit id, ⟨hk, hx3⟩ =>
      have hL3 := hL2.kept hk
      have hr := run_endRound (P := P) (some (.exit id)) hL3.l
      rw [hput] at hr
      exact ⟨_, _, hr, .inr ⟨rfl, .exit id, (hX _).putObj _ hx3 (by omega) hL3.l rfl, hL3.put⟩⟩
  · rintro e W2 ⟨⟨v, rfl⟩, pre, hSp, c, hx, hL⟩
    have hr := run_endLoop (P := P) hL.l (by rw [hR]; simp)
    rw [hput2, show (R .done (some c)).pending = some c by rw [hR]] at hr
    refine ⟨some c, _, hr, hstop _ c pre _ (Nat.le_refl _) hSp ((hX c).putObj _ hx (by omega) hL.l rfl) hL.put.d⟩
end
/-- two blocks lie as they lay -/
structure Kp2 (p q : Nat) (V V' : World) : Prop where
  z : V.heap.size ≤ V'.heap.size
  hp : V'.heap[p]? = V.heap[p]?
  hq : V'.heap[q]? = V.heap[q]?
theorem Kp2.trans {p q : Nat} {A B C : World} (h : Kp2 p q A B) (k : Kp2 p q B C) : Kp2 p q A C := ⟨Nat.le_trans h.z k.z, k.hp.trans h.hp, k.hq.trans h.hq⟩
theorem Kp2.put {p q : Nat} (W : World) (l : Nat) (o' : Obj) (h1 : l ≠ p) (h2 : l ≠ q) : Kp2 p q W (W.putObj l o') :=
  ⟨by simp, World.putObj_heap_other (fun e => h1 e.symm), World.putObj_heap_other (fun e => h2 e.symm)⟩
theorem Kp2.below {p q n : Nat} {V V' : World} (h : Below n V V') (h1 : p < n) (h2 : q < n) (hn : n ≤ V.heap.size) : Kp2 p q V V' := ⟨h.size, h.block p h1, h.block q h2⟩
theorem cell_heap {V V' : World} {b o : Nat} (h : V'.heap[b]? = V.heap[b]?) : V'.cell? ⟨b, o, none⟩ = V.cell? ⟨b, o, none⟩ := by simp [World.cell?, h]
end Go.Proofs.Ytmahagcghpoekaa
namespace Go.Proofs.Ytmahagcghpoekaa
open Go.RowKit
set_option linter.unusedSimpArgs false
set_option linter.unusedVariables false
theorem ediv_of {a b q r : Int} (hb : 0 < b) (h : a = b * q + r) (h0 : 0 ≤ r) (h1 : r < b) : a / b = q := by
  have := (Int.ediv_emod_unique (a := a) (b := b) (r := r) (q := q) hb).2 ⟨by omega, h0, h1⟩
  exact this.1
theorem floor_pos {a b : Int} (hb : 1 ≤ b) (h : a.tmod b < 0) : a.tdiv b - 1 = a / b := by
  by_cases ha : 0 ≤ a
  · rw [Int.tmod_eq_emod_of_nonneg ha] at h
    have := Int.emod_nonneg a (b := b) (by omega)
    omega
  · obtain ⟨c, rfl⟩ : ∃ c, a = -c := ⟨-a, by omega⟩
    rw [Int.neg_tmod, Int.tmod_eq_emod_of_nonneg (by omega)] at h
    rw [Int.neg_tdiv, Int.tdiv_eq_ediv_of_nonneg (by omega)]
    have e := Int.mul_ediv_add_emod c b
    have l := Int.emod_lt_of_pos c (b := b) (by omega)
    refine (ediv_of (r := b - c % b) (by omega) ?_ (by omega) (by omega)).symm
    rw [Int.mul_sub, Int.mul_neg]; omega
theorem floor_neg {a b : Int} (hb : 1 ≤ b) (h : ¬ a.tmod b < 0) : a.tdiv b = a / b := by
  by_cases ha : 0 ≤ a
  · rw [Int.tdiv_eq_ediv_of_nonneg ha]
  · obtain ⟨c, rfl⟩ : ∃ c, a = -c := ⟨-a, by omega⟩
    rw [Int.neg_tmod, Int.tmod_eq_emod_of_nonneg (by omega)] at h
    rw [Int.neg_tdiv, Int.tdiv_eq_ediv_of_nonneg (by omega)]
    have e := Int.mul_ediv_add_emod c b
    have l := Int.emod_nonneg c (b := b) (by omega)
    refine (ediv_of (r := 0) (by omega) ?_ (by omega) (by omega)).symm
    rw [Int.mul_neg]; omega
theorem ediv_bd {a b m : Int} (hb : 1 ≤ b) (hm : 0 ≤ m) (h1 : -m ≤ a) (h2 : a ≤ m) : -m ≤ a / b ∧ a / b ≤ m := by
  constructor
  · have : -m ≤ a / b := by
      rw [Int.le_ediv_iff_mul_le (by omega)]
      have : -m * b ≤ -m * 1 := by
        rw [Int.neg_mul, Int.neg_mul]
        have := Int.mul_le_mul_of_nonneg_left hb hm
        omega
      omega
    exact this
  · by_cases ha : 0 ≤ a
    · exact Int.le_trans (Int.ediv_le_self _ ha) h2
    · have : a / b < 0 := Int.ediv_neg_of_neg_of_pos (by omega) (by omega)
      omega
theorem tdiv_bd {a b m : Int} (hb : 1 ≤ b) (hm : 0 ≤ m) (h1 : -m ≤ a) (h2 : a ≤ m) : -m ≤ a.tdiv b ∧ a.tdiv b ≤ m := by
  by_cases ha : 0 ≤ a
  · rw [Int.tdiv_eq_ediv_of_nonneg ha]; exact ediv_bd hb hm h1 h2
  · obtain ⟨c, rfl⟩ : ∃ c, a = -c := ⟨-a, by omega⟩
    rw [Int.neg_tdiv, Int.tdiv_eq_ediv_of_nonneg (by omega)]
    have := quo_bd (a := c) (g := b) (m := m) (by omega) (by omega) hb
    omega
theorem floor_any (a b : Int) (w : World) (h1 : -4000000000000 ≤ a) (h2 : a ≤ 4000000000000) (hb : 1 ≤ b) : Calls Try.prog 81 #[.int .i64 a, .int .i64 b] w fun e w' => e = .returned (.int .i64 (a / b)) ∧ w = w' := by
  obtain ⟨k1, k2⟩ := tdiv_bd hb (m := 4000000000000) (by omega) (by omega) h2
  by_cases hm : a.tmod b < 0
  · have hq := Lib.hid (floor_pos hb hm)
    go_enter Try.func81, Try.ntmps81
    go_wp2
    go_ret
    exact ⟨ret_int hq.out, rfl⟩
  · have hq := Lib.hid (floor_neg hb hm)
    go_enter Try.func81, Try.ntmps81
    go_wp2
    go_ret
    exact ⟨ret_int hq.out, rfl⟩
/-- a clock: its offset, num, den -/
def readN (o n d m : Int) : Int := o + m * n / d
theorem mul_bd {a b m k : Int} (h0 : 0 ≤ a) (h1 : a ≤ m) (h2 : 0 ≤ b) (h3 : b ≤ k) : 0 ≤ a * b ∧ a * b ≤ m * k :=
  ⟨Int.mul_nonneg h0 h2, Int.mul_le_mul h1 h3 h2 (by omega)⟩
def readR (o n d m : Int) : Int × Int := if vclk o n d && inB m 0 1000000 then (readN o n d m, 0) else (0, 1)
/-- the least moment at which a clock shows at least r -/
def whenN (o n d r : Int) : Int := if r ≤ o then 0 else ((r - o) * d + n - 1) / n
theorem when_neg {x n : Int} (hn : 1 ≤ n) : -(-x / n) = (x + n - 1) / n := by
  have e := Int.mul_ediv_add_emod (x + n - 1) n
  have l := Int.emod_lt_of_pos (x + n - 1) (b := n) (by omega)
  have l0 := Int.emod_nonneg (x + n - 1) (b := n) (by omega)
  have : -x / n = -((x + n - 1) / n) := by
    refine ediv_of (r := n - 1 - (x + n - 1) % n) (by omega) ?_ (by omega) (by omega)
    rw [Int.mul_neg]; omega
  omega
theorem when_any (o n d r : Int) (w : World) (hv : vclk o n d = true) (hr : -1000000000 ≤ r) (hr' : r ≤ 1000000000) : Calls Try.prog 82 #[patV o n d, .int .i64 r] w fun e w' => e = .returned (.int .i64 (whenN o n d r)) ∧ Below w.heap.size w w' := by
  obtain ⟨k1, k2, k3⟩ := vclk_iff.1 hv
  by_cases h : r ≤ o
  · go_enter Try.func82, Try.ntmps82
    go_wp2
    go_ret
    exact ⟨ret_int (by simp [whenN, h]), by (repeat' (first | (with_reducible exact Below.refl _ _) | (with_reducible assumption) | (with_reducible refine Below.alloc ?_ ?_ _) | (with_reducible refine Below.drew ?_) | (with_reducible refine Below.draws ?_ _) | (with_reducible refine Below.setCell ?_ ?_ _) | (refine Below.then ?_ (by with_reducible assumption)) | go_size))⟩
  · obtain ⟨q1, q2⟩ := mul_bd (a := r - o) (m := 1001000000) (by omega) (by omega) (b := d) (k := 1000) (by omega) (by omega)
    have q3 : -(r - o) * d = -((r - o) * d) := Int.neg_mul _ _
    have Q3 := Lib.hid q3
    have q5 : -1001000000000 ≤ -(r - o) * d := by omega
    have q6 : -(r - o) * d ≤ 0 := by omega
    clear q3
    obtain ⟨q7, q8⟩ := ediv_bd (a := -(r - o) * d) (b := n) (m := 1001000000000) (by omega) (by omega) (by omega) (by omega)
    go_enter Try.func82, Try.ntmps82
    go_wp2_with (go_at_call 81; refine (floor_any _ _ _ (by omega) (by omega) (by omega)).mono ?_; rintro e w1 ⟨rfl, rfl⟩)
    go_ret
    exact ⟨ret_int (by rw [whenN, if_neg (by omega), Q3.out]; exact when_neg (by omega)), by (repeat' (first | (with_reducible exact Below.refl _ _) | (with_reducible assumption) | (with_reducible refine Below.alloc ?_ ?_ _) | (with_reducible refine Below.drew ?_) | (with_reducible refine Below.draws ?_ _) | (with_reducible refine Below.setCell ?_ ?_ _) | (refine Below.then ?_ (by with_reducible assumption)) | go_size))⟩
def whenR (o n d r : Int) : Int × Int := if vclk o n d && inB r (-1000000000) 1000000000 then (if whenN o n d r > 1000000000 then (0, 3) else (whenN o n d r, 0)) else (0, 1)
def looR (f g j f' g' j' : Int) : Bool × Int := if vpat f g j && vpat f' g' j' then (decide (f' ≤ f ∧ g' ≤ g ∧ j ≤ j'), 0) else (false, 1)
end Go.Proofs.Ytmahagcghpoekaa
namespace Go.Proofs.Ytmahagcghpoekaa
open Go.RowKit
set_option linter.unusedSimpArgs false
set_option linter.unusedVariables false
/-- the reading of the first alarm; those behind it -/
def baseT (o n : Int) : Int := (o / n + 1) * n
def rdT (o n : Int) (k : Nat) : Int := baseT o n + k * n
def atT (o a d n : Int) (k : Nat) : Int := whenN o a d (rdT o n k)
def lastT (o a d n : Int) : Nat → Int
  | 0 => -1
  | k + 1 => atT o a d n k
def preT (o a d n : Int) : Nat → List Int
  | 0 => []
  | k + 1 => if atT o a d n k = lastT o a d n k then preT o a d n k else preT o a d n k ++ [atT o a d n k]
structure TmOk (o a d n : Int) : Prop where
  v : vclk o a d = true
  n : 1 ≤ n ∧ n ≤ 10000
section
variable {o a d n : Int}
theorem TmOk.base (h : TmOk o a d n) : o < baseT o n ∧ baseT o n ≤ o + n := by
  have hn := h.n
  unfold baseT
  have e := Int.emod_add_mul_ediv o n
  have h0 := Int.emod_nonneg o (show n ≠ 0 by omega)
  have h1 := Int.emod_lt_of_pos o (show 0 < n by omega)
  rw [Int.add_mul, Int.mul_comm (o / n) n]
  omega
theorem rdT_succ (k : Nat) : rdT o n (k + 1) = rdT o n k + n := by
  unfold rdT
  rw [show ((k + 1 : Nat) : Int) = (k : Int) + 1 by omega, Int.add_mul]; omega
theorem TmOk.rd (h : TmOk o a d n) : ∀ k : Nat, o < rdT o n k
  | 0 => by have := h.base; unfold rdT; simp; omega
  | k + 1 => by have := h.rd k; have := h.n; rw [rdT_succ]; omega
/-- the numerator -/
def xT (o d n : Int) (k : Nat) : Int := (rdT o n k - o) * d
theorem xT_succ (k : Nat) : xT o d n (k + 1) = xT o d n k + n * d := by
  unfold xT
  rw [rdT_succ, show rdT o n k + n - o = (rdT o n k - o) + n by omega, Int.add_mul]
theorem TmOk.x0 (h : TmOk o a d n) (k : Nat) : 1 ≤ xT o d n k := by
  have h1 := h.rd k
  have h2 := (vclk_iff.1 h.v).2.2
  unfold xT
  have := Int.mul_le_mul (a := 1) (b := 1) (c := rdT o n k - o) (d := d) (by omega) (by omega) (by omega) (by omega)
  omega
theorem TmOk.at_ (h : TmOk o a d n) (k : Nat) : atT o a d n k = (xT o d n k + a - 1) / a := by
  have h1 := h.rd k
  unfold atT whenN xT
  rw [if_neg (by omega)]
theorem TmOk.ceil (h : TmOk o a d n) (k : Nat) : xT o d n k ≤ atT o a d n k * a ∧ atT o a d n k * a ≤ xT o d n k + a - 1 := by
  have ha := (vclk_iff.1 h.v).2.1
  rw [h.at_ k]
  have e := Int.emod_add_mul_ediv (xT o d n k + a - 1) a
  have h0 := Int.emod_nonneg (xT o d n k + a - 1) (show a ≠ 0 by omega)
  have h1 := Int.emod_lt_of_pos (xT o d n k + a - 1) (show 0 < a by omega)
  rw [Int.mul_comm ((xT o d n k + a - 1) / a) a]
  omega
theorem TmOk.pos (h : TmOk o a d n) (k : Nat) : 1 ≤ atT o a d n k := by
  have h1 := (h.ceil k).1
  have h2 := h.x0 k
  have ha := (vclk_iff.1 h.v).2.1
  rcases Int.lt_or_le (atT o a d n k) 1 with q | q
  · have := Int.mul_le_mul_of_nonneg_right (show atT o a d n k ≤ 0 by omega) (show 0 ≤ a by omega)
    omega
  · exact q
/-- how far two neighbours are apart -/
def gapT (a d n : Int) : Int := max (n * d / a) 1
theorem TmOk.step (h : TmOk o a d n) (k : Nat) : atT o a d n k ≤ atT o a d n (k + 1) ∧ (atT o a d n (k + 1) ≠ atT o a d n k → atT o a d n k + gapT a d n ≤ atT o a d n (k + 1)) := by
  have ha := (vclk_iff.1 h.v).2.1
  have hd := (vclk_iff.1 h.v).2.2
  have hn := h.n
  have c1 := h.ceil k
  have c2 := h.ceil (k + 1)
  rw [xT_succ] at c2
  have hnd : 0 ≤ n * d := Int.mul_nonneg (by omega) (by omega)
  have hq := Int.ediv_mul_le (n * d) (show a ≠ 0 by omega)
  have hq0 := Int.ediv_nonneg hnd (show 0 ≤ a by omega)
  have key : atT o a d n k + n * d / a ≤ atT o a d n (k + 1) := by
    rcases Int.lt_or_le (atT o a d n (k + 1)) (atT o a d n k + n * d / a) with q | q
    · have := Int.mul_le_mul_of_nonneg_right (show atT o a d n (k + 1) ≤ atT o a d n k + n * d / a - 1 by omega) (show 0 ≤ a by omega)
      rw [Int.sub_mul, Int.add_mul] at this
      omega
    · exact q
  refine ⟨by omega, fun hne => ?_⟩
  unfold gapT; omega
theorem TmOk.lastle (h : TmOk o a d n) : ∀ k : Nat, lastT o a d n k ≤ atT o a d n k ∧ (atT o a d n k ≠ lastT o a d n k → lastT o a d n k < atT o a d n k)
  | 0 => by have := h.pos 0; show (-1 : Int) ≤ _ ∧ (_ → (-1 : Int) < _); omega
  | k + 1 => by have := (h.step k).1; show atT o a d n k ≤ _ ∧ _; exact ⟨this, fun q => by have : atT o a d n (k + 1) ≠ atT o a d n k := q; show atT o a d n k < _; omega⟩
/-- how far the readings have come when so many alarms have come -/
theorem TmOk.far (h : TmOk o a d n) : ∀ k : Nat, lastT o a d n k * a ≤ ((preT o a d n k).length : Int) * (n * d + a) ∧ xT o d n k ≤ ((preT o a d n k).length : Int) * (n * d + a) + n * d
  | 0 => by
    have ha := (vclk_iff.1 h.v).2.1
    have hd := (vclk_iff.1 h.v).2.2
    have hb := h.base
    unfold preT lastT xT rdT
    simp only [List.length_nil, Int.natCast_zero, Int.zero_mul, Int.add_zero, Int.zero_add]
    refine ⟨by omega, ?_⟩
    exact Int.mul_le_mul_of_nonneg_right (by omega) (by omega)
  | k + 1 => by
    obtain ⟨h1, h2⟩ := h.far k
    have c := h.ceil k
    have ha := (vclk_iff.1 h.v).2.1
    have hd := (vclk_iff.1 h.v).2.2
    have hn := h.n
    have hnd : 0 ≤ n * d := Int.mul_nonneg (by omega) (by omega)
    rw [xT_succ, preT]
    show atT o a d n k * a ≤ _ ∧ _
    split
    · rename_i e
      rw [← e] at h1
      exact ⟨h1, by omega⟩
    · rw [List.length_append, List.length_singleton, show (((preT o a d n k).length + 1 : Nat) : Int) = ((preT o a d n k).length : Int) + 1 by omega, Int.add_mul]
      omega
theorem TmOk.bound (h : TmOk o a d n) {k : Nat} (hl : (preT o a d n k).length ≤ 40) : -1000000 ≤ rdT o n k ∧ rdT o n k ≤ 1450000 := by
  have h2 := (h.far k).2
  obtain ⟨ho, ha, hd⟩ := vclk_iff.1 h.v
  have hn := h.n
  have h0 := h.rd k
  have hnd : 0 ≤ n * d := Int.mul_nonneg (by omega) (by omega)
  have h3 : ((preT o a d n k).length : Int) * (n * d + a) ≤ 40 * (n * d + a) := Int.mul_le_mul_of_nonneg_right (by omega) (by omega)
  have h4 : a ≤ a * d := by have := Int.mul_le_mul_of_nonneg_left hd.1 (show 0 ≤ a by omega); omega
  have h5 : (rdT o n k - o) * d ≤ (41 * n + 40 * a) * d := by
    have e : (41 * n + 40 * a) * d = 41 * (n * d) + 40 * (a * d) := by rw [Int.add_mul, Int.mul_assoc, Int.mul_assoc]
    have : xT o d n k = (rdT o n k - o) * d := rfl
    omega
  have h6 := Int.le_of_mul_le_mul_right h5 (by omega)
  omega
theorem preT_step (k : Nat) : preT o a d n k <+: preT o a d n (k + 1) := by
  rw [preT]
  split
  · exact List.prefix_refl _
  · exact List.prefix_append _ _
theorem preT_mono {j k : Nat} (h : j ≤ k) : preT o a d n j <+: preT o a d n k := by
  induction k with
  | zero => rw [show j = 0 by omega]; exact List.prefix_refl _
  | succ k ih =>
    by_cases e : j = k + 1
    · rw [e]; exact List.prefix_refl _
    · exact (ih (by omega)).trans (preT_step k)
theorem preT_new {k : Nat} (h : atT o a d n k ≠ lastT o a d n k) : preT o a d n (k + 1) = preT o a d n k ++ [atT o a d n k] := by rw [preT, if_neg h]
theorem preT_same {k : Nat} (h : atT o a d n k = lastT o a d n k) : preT o a d n (k + 1) = preT o a d n k := by rw [preT, if_pos h]
/-- what has come: ascending, as far apart as told, the last one at the end -/
structure TmL (g : Int) (last : Int) (l : List Int) : Prop where
  ne : l ≠ [] → l[l.length - 1]? = some last
  ge : ∀ x ∈ l, 1 ≤ x ∧ x ≤ last
  gap : ∀ (i : Nat) (x y : Int), l[i]? = some x → l[i + 1]? = some y → x + g ≤ y
theorem TmL.snoc {g last x : Int} {l : List Int} (h : TmL g last l) (h1 : 1 ≤ x) (hlx : last ≤ x) (hg : l ≠ [] → last + g ≤ x) : TmL g x (l ++ [x]) := by
  refine ⟨fun _ => by simp, fun y hy => ?_, fun i y z hy hz => ?_⟩
  · rcases List.mem_append.1 hy with hy | hy
    · have := h.ge y hy; omega
    · simp at hy; omega
  · by_cases e : i + 1 < l.length
    · rw [List.getElem?_append_left (by omega)] at hy
      rw [List.getElem?_append_left e] at hz
      exact h.gap i y z hy hz
    · have hz2 := (List.getElem?_eq_some_iff.1 hz).1
      simp only [List.length_append, List.length_singleton] at hz2
      have e2 : i + 1 = l.length := by omega
      rw [List.getElem?_append_right (by omega), e2] at hz
      simp at hz
      rw [List.getElem?_append_left (by omega)] at hy
      have hne : l ≠ [] := fun q => by rw [q] at e2; simp at e2
      have := h.ne hne
      rw [show l.length - 1 = i by omega, hy] at this
      simp at this
      have := hg hne
      omega
theorem TmOk.list (h : TmOk o a d n) : ∀ k : Nat, TmL (gapT a d n) (lastT o a d n k) (preT o a d n k) ∧ (preT o a d n k = [] → k = 0)
  | 0 => ⟨⟨fun q => absurd rfl q, fun x hx => (by cases hx), fun i x y hx => (by cases hx)⟩, fun _ => rfl⟩
  | k + 1 => by
    obtain ⟨h1, h2⟩ := h.list k
    by_cases e : atT o a d n k = lastT o a d n k
    · have hne : preT o a d n k ≠ [] := fun q => by
        have := h2 q
        subst this
        have := h.pos 0
        have e' : atT o a d n 0 = -1 := e
        omega
      rw [preT_same e]
      refine ⟨?_, fun q => absurd q hne⟩
      show TmL _ (atT o a d n k) _
      rw [e]; exact h1
    · rw [preT_new e]
      refine ⟨?_, fun q => by simp at q⟩
      show TmL _ (atT o a d n k) _
      refine h1.snoc (h.pos k) (h.lastle k).1 (fun hne => ?_)
      match k, h1, e, hne with
      | 0, _, _, hne => exact absurd rfl hne
      | k + 1, _, e, _ => exact (h.step k).2 e
/-- what Timer gives -/
structure IsTm (o a d n u : Int) (l : List Int) : Prop where
  le : ∀ x ∈ l, x ≤ u
  len : l.length ≤ 40
  at_ : ∃ k : Nat, l = preT o a d n k ∧ (l.length = 40 ∨ u < atT o a d n k)
theorem IsTm.half (h : TmOk o a d n) {u : Int} {j k : Nat} (hjk : j ≤ k) (h1 : ∀ x ∈ preT o a d n k, x ≤ u) (h2 : (preT o a d n k).length ≤ 40) (hj : (preT o a d n j).length = 40 ∨ u < atT o a d n j) : preT o a d n j = preT o a d n k := by
  have hp := preT_mono (o := o) (a := a) (d := d) (n := n) hjk
  rcases hj with hj | hj
  · exact hp.eq_of_length_le (by omega)
  · by_cases e : j = k
    · rw [e]
    · exfalso
      have hp2 := preT_mono (o := o) (a := a) (d := d) (n := n) (show j + 1 ≤ k by omega)
      by_cases q : atT o a d n j = lastT o a d n j
      · match j, hj, q, hp with
        | 0, _, q, _ =>
          have := h.pos 0
          have q' : atT o a d n 0 = -1 := q
          omega
        | j + 1, hj, q, hp =>
          have hl := (h.list (j + 1)).1
          have hne : preT o a d n (j + 1) ≠ [] := fun z => by have := (h.list (j + 1)).2 z; omega
          have hm := List.mem_of_getElem? (hl.ne hne)
          have := h1 _ (hp.subset hm)
          omega
      · rw [preT_new q] at hp2
        have := h1 _ (hp2.subset (List.mem_append_right _ (List.mem_singleton.2 rfl)))
        omega
theorem IsTm.unique (h : TmOk o a d n) {u : Int} {l l' : List Int} (h1 : IsTm o a d n u l) (h2 : IsTm o a d n u l') : l = l' := by
  obtain ⟨j, rfl, hj⟩ := h1.at_
  obtain ⟨k, rfl, hk⟩ := h2.at_
  rcases Nat.le_total j k with q | q
  · exact IsTm.half h q h2.le h2.len hj
  · exact (IsTm.half h q h1.le h1.len hk).symm
/-- a first alarm -/
theorem TmOk.first (h : TmOk o a d n) {k : Nat} (hp : preT o a d n k = []) : atT o a d n k = atT o a d n 0 := by
  rw [(h.list k).2 hp]
end
end Go.Proofs.Ytmahagcghpoekaa
namespace Go.Proofs.Ytmahagcghpoekaa
open Go.RowKit Go.Shelf
set_option linter.unusedSimpArgs false
set_option linter.unusedVariables false
attribute [local go_sem] Oper.semAt_some
/-- the cells that the iterator has captured -/
structure ClkC (o a d n : Int) (p q : Nat) (w : World) : Prop where
  c0 : w.cell? ⟨p, 0, none⟩ = some (.int .i64 o)
  c1 : w.cell? ⟨p, 1, none⟩ = some (.int .i64 a)
  c2 : w.cell? ⟨p, 2, none⟩ = some (.int .i64 d)
  cq : w.cell? ⟨q, 0, none⟩ = some (.int .i64 n)
  hp : p < w.heap.size
  hq : q < w.heap.size
theorem ClkC.kept {o a d n : Int} {p q : Nat} {w w' : World} (h : ClkC o a d n p q w) (k : Kp2 p q w w') : ClkC o a d n p q w' :=
  ⟨(cell_heap k.hp).trans h.c0, (cell_heap k.hp).trans h.c1, (cell_heap k.hp).trans h.c2, (cell_heap k.hq).trans h.cq, Nat.lt_of_lt_of_le h.hp k.z, Nat.lt_of_lt_of_le h.hq k.z⟩
theorem ClkC.ext {o a d n : Int} {p q : Nat} {w w' : World} (h : ClkC o a d n p q w) (k : Below w.heap.size w w') : ClkC o a d n p q w' :=
  h.kept (Kp2.below k h.hp h.hq (Nat.le_refl _))
/-- what the iterator hands over before a round says no more -/
def SpT (o a d n : Int) (pre : List Int) : Prop := ∃ k : Nat, atT o a d n k ≠ lastT o a d n k ∧ pre = preT o a d n k ++ [atT o a d n k]
theorem when_is {o a d n x : Int} {k : Nat} (h : TmOk o a d n) (hl : (preT o a d n k).length ≤ 40) (hx : atT o a d n k = x) (w : World) :
    Calls Try.prog 82 #[patV o a d, .int .i64 (rdT o n k)] w fun e w' => e = .returned (.int .i64 x) ∧ Below w.heap.size w w' := by
  subst hx
  have := h.bound hl
  exact when_any o a d (rdT o n k) w h.v (by omega) (by omega)
theorem abides_below {B : Nat} {α : Type} {J : List α → World → Prop} (h : AbidesFrom B J) {pre : List α} {V V' : World} (hJ : J pre V) (k : Below V.heap.size V V') : J pre V' :=
  h pre V V' none hJ ⟨k.os, k.tape, k.output, k.size, fun j hj _ => k.block j hj⟩ (fun r e => by cases e)
set_option maxRecDepth 100000 in
set_option maxHeartbeats 4000000 in
theorem alarms1_told {o a d n : Int} (h : TmOk o a d n) (p q m : Nat) {w : World} (hc : ClkC o a d n p q w) {I : List Int → World → Prop} (hI : ∀ pre V, I pre V → pre.length ≤ 40) :
    Told Fence.wide m Try.prog 80 #[.pointer (some ⟨p, 0, none⟩), .pointer (some ⟨q, 0, none⟩)] (fun x : Int => #[Value.int .i64 x]) (Kp2 p q) I (SpT o a d n) w := fun l J Jx W hW hJI hJ hY h0 => by
  refine callsIn_wide.2 ?_
  have hcW := hc.ext hW
  have HC := Lib.hid hcW
  have HO := Lib.hid h
  obtain ⟨x0, x1, x2, xq, zp, zq⟩ := hcW
  obtain ⟨vo, va, vd⟩ := vclk_iff.1 h.v
  have hn := h.n
  have hbase := h.base
  have wb1 : IntKind.i64.wrap (o / n + 1) = o / n + 1 := IntWalk.i64_in _ (by have := ediv_bd (a := o) (b := n) (m := 1000000) (by omega) (by omega) (by omega) (by omega); omega)
  have wb2 : IntKind.i64.wrap ((o / n + 1) * n) = rdT o n 0 := by unfold rdT; rw [show baseT o n = (o / n + 1) * n from rfl] at *; rw [IntWalk.i64_in _ (by omega)]; simp
  have HF := Lib.hid (fun w1 => floor_any o n w1 (by omega) (by omega) (by omega))
  have HJ := Lib.hid hJ; have HY := Lib.hid hY; have HJI := Lib.hid hJI; have HJ0 := Lib.hid h0; have HII := Lib.hid hI
  clear hJ hY hJI h0 hc hI hW
  go_enter Try.func80, Try.ntmps80
  go_wp2_with (refine wp_region_later_lit (by kernel_rfl) (by kernel_rfl) ?_; (repeat (go_big_quiet_step ((go_at_call 81; exact later_same (HF.out _))))); refine wpQuiet_nil ?_; intro w1 hb1)
  go_loopw [4, 5] (fun v4 v5 wr => ∃ k : Nat, v4 = .int .i64 (lastT o a d n k) ∧ v5 = .int .i64 (rdT o n k) ∧ J (preT o a d n k) wr ∧ Kp2 p q W wr) (fun _ v _ => (2000000 - intOf v).toNat)
  case atStart => exact ⟨0, rfl, rfl, abides_below HJ.out HJ0.out hb1, Kp2.below hb1 zp zq (Nat.le_refl _)⟩
  case round =>
    obtain ⟨k, rfl, rfl, hJk, hK⟩ := hrel
    have hlen := HII.out _ _ (HJI.out _ _ hJk)
    have hbd := HO.out.bound hlen
    have hcc := HC.out.kept hK
    have HKK := Lib.hid hK
    have HCC := Lib.hid hcc
    clear x0 x1 x2 xq zp zq
    obtain ⟨x0, x1, x2, xq, zp, zq⟩ := hcc
    obtain ⟨L, hL⟩ : ∃ L, lastT o a d n k = L := ⟨_, rfl⟩
    obtain ⟨x, hx⟩ : ∃ x, atT o a d n k = x := ⟨_, rfl⟩
    have HWH := Lib.hid (fun w1 => (when_is HO.out hlen hx w1 : Calls Try.prog 82 #[.agg #[.int .i64 o, .int .i64 a, .int .i64 d], .int .i64 (rdT o n k)] w1 fun e w' => e = .returned (.int .i64 x) ∧ Below w1.heap.size w1 w'))
    have hsc := rdT_succ (o := o) (n := n) k
    obtain ⟨rd, hrd⟩ : ∃ r, rdT o n k = r := ⟨_, rfl⟩
    rw [hL]
    rw [hrd] at HWH hbd hsc ⊢
    have wsc : IntKind.i64.wrap (rd + n) = rd + n := IntWalk.i64_in _ (by omega)
    have HSC := Lib.hid hsc; have HL := Lib.hid hL; have HX := Lib.hid hx; have HRD := Lib.hid hrd; have HJK := Lib.hid hJk
    clear hsc hL hx hrd hJk hK hlen HC HJ0 HF wb1 wb2 hb1
    by_cases hne : x = L
    · have e1 : (x != L) = false := by simpa using hne
      go_wp2_with (go_at_call 82; (with_reducible refine (HWH.out _).mono ?_); rintro e w2 ⟨rfl, hb2⟩; have x3 := (hb2.cell (p := ⟨q, 0, none⟩) zq).trans xq; have z3 := Nat.lt_of_lt_of_le zq hb2.size)
      go_roundw
      case rel => exact ⟨k + 1, by show _ = Value.int .i64 (atT o a d n k); rw [HX.out, hne], by rw [HSC.out], by rw [preT_same (by rw [HX.out, HL.out]; exact hne)]; exact abides_below HJ.out HJK.out hb2, HKK.out.trans (Kp2.below hb2 HCC.out.hp HCC.out.hq (Nat.le_refl _))⟩
      case measure => simp [intOf]; omega
    · have e1 : (x != L) = true := by simpa using hne
      go_upto_region 4 with (go_at_call 82; (with_reducible refine (HWH.out _).mono ?_); rintro e w2 ⟨rfl, hb2⟩)
      have hJ2 := abides_below HJ.out HJK.out hb2
      obtain ⟨fn, tmps, assign, body, hy, hR⟩ := HY.out (preT o a d n k) x w2 hJ2
      refine (wpIn_wide (n := m)).1 ?_
      gi_wp2
      refine ⟨fun hh => (by cases hh), hR.mono ?_⟩
      rintro e W3 (⟨rfl, hJ3, hk3⟩ | ⟨rfl, hx3⟩)
      · have hK3 := HKK.out.trans ((Kp2.below hb2 HCC.out.hp HCC.out.hq (Nat.le_refl _)).trans hk3)
        have hc3 := (HCC.out.ext hb2).kept hk3
        have x3 := hc3.cq
        have z3 := hc3.hq
        have hJ4 : J (preT o a d n (k + 1)) W3 := by rw [preT_new (by rw [HX.out, HL.out]; exact hne), HX.out]; exact hJ3
        have HJ4 := Lib.hid hJ4; have HK3 := Lib.hid hK3
        clear hJ3 hk3 hK3 hc3 hJ4 hR hy hJ2 hb2
        gi_wp2
        go_wp2_with fail
        go_roundw
        case rel => exact ⟨k + 1, by show _ = Value.int .i64 (atT o a d n k); rw [HX.out], by rw [HSC.out], HJ4.out, HK3.out⟩
        case measure => simp [intOf]; omega
      · gi_wp2
        go_wp2_with fail
        refine bodyPost_ret (results_none rfl _ _ _) rfl ?_
        exact ⟨⟨_, rfl⟩, _, ⟨k, by rw [HX.out, HL.out]; exact hne, rfl⟩, by rw [HX.out]; exact hx3⟩
end Go.Proofs.Ytmahagcghpoekaa
namespace Go.Proofs.Ytmahagcghpoekaa
open Go.RowKit Go.Shelf
set_option linter.unusedSimpArgs false
set_option linter.unusedVariables false
attribute [local go_sem] Oper.semAt_some
theorem addr_neT {b b' i j : Nat} (h : b ≠ b' ∨ i ≠ j) : (⟨b, i, none⟩ : Addr) ≠ ⟨b', j, none⟩ := by
  intro q; rcases h with h | h
  · exact h (congrArg Addr.block q)
  · exact h (congrArg Addr.off q)
theorem alarms_any (o a d n : Int) (w : World) : Calls Try.prog 55 #[.agg #[.int .i64 o, .int .i64 a, .int .i64 d], .int .i64 n] w fun e w' => ∃ p q, e = .returned (.func (.func 80) #[] #[.pointer (some ⟨p, 0, none⟩), .pointer (some ⟨q, 0, none⟩)]) ∧ ClkC o a d n p q w' ∧ w.heap.size ≤ p ∧ w.heap.size ≤ q ∧ Below w.heap.size w w' := by
  go_enter Try.func55, Try.ntmps55
  go_wp2
  go_ret
  exact ⟨_, _, rfl, ⟨by simp [go_sem], by simp [go_sem], by simp [go_sem], by simp [go_sem], by simp; omega, by simp⟩, by simp, by simp, by (repeat' (first | (with_reducible exact Below.refl _ _) | (with_reducible assumption) | (with_reducible refine Below.alloc ?_ ?_ _) | (with_reducible refine Below.drew ?_) | (with_reducible refine Below.draws ?_ _) | (with_reducible refine Below.setCell ?_ ?_ _) | (refine Below.then ?_ (by with_reducible assumption)) | go_size))⟩
def timedR (o a d n : Int) : Int × Int × Int := if vclk o a d && inB n 1 10000 then (if vpat (atT o a d n 0) (gapT a d n) 0 then (atT o a d n 0, gapT a d n, 0) else (0, 0, 3)) else (0, 0, 1)
def rTd (x : Int × Int × Int) : Ending := .returned (.tuple #[.agg #[.int .i64 x.1, .int .i64 x.2.1, .int .i64 0], .int .i64 x.2.2])
theorem vclk_is {o a d : Int} {x : Bool} {w : World} (h : vclk o a d = x) : Calls Try.prog 53 #[.agg #[.int .i64 o, .int .i64 a, .int .i64 d]] w fun e w' => e = .returned (.bool x) ∧ Below w.heap.size w w' := by subst h; exact validClock_any o a d w
theorem awithin_is {n a b : Int} {x : Bool} {w : World} (h : inB n a b = x) : Calls Try.prog 54 #[.int .i64 n, .int .i64 a, .int .i64 b] w fun e w' => e = .returned (.bool x) ∧ w = w' := by subst h; exact within_any n a b w
theorem avalid_tm {f g j : Int} {x : Bool} {w : World} (h : vpat f g j = x) : Calls Try.prog 56 #[.agg #[.int .i64 f, .int .i64 g, .int .i64 j]] w fun e w' => e = .returned (.bool x) ∧ Below w.heap.size w w' := by subst h; exact valid_any f g j w
/-- three cells of a block -/
structure Box3 (w : World) (q : Nat) (f g j : Int) : Prop where
  c0 : w.cell? ⟨q, 0, none⟩ = some (.int .i64 f)
  c1 : w.cell? ⟨q, 1, none⟩ = some (.int .i64 g)
  c2 : w.cell? ⟨q, 2, none⟩ = some (.int .i64 j)
  f0 : w.frozen? ⟨q, 0, none⟩ = false
  f1 : w.frozen? ⟨q, 1, none⟩ = false
  f2 : w.frozen? ⟨q, 2, none⟩ = false
  z : q < w.heap.size
theorem Box3.ext {w w' : World} {q : Nat} {f g j : Int} (h : Box3 w q f g j) (hb : Below w.heap.size w w') : Box3 w' q f g j :=
  ⟨(hb.cell (p := ⟨q, 0, none⟩) h.z).trans h.c0, (hb.cell (p := ⟨q, 1, none⟩) h.z).trans h.c1, (hb.cell (p := ⟨q, 2, none⟩) h.z).trans h.c2, (hb.frozen (p := ⟨q, 0, none⟩) h.z).trans h.f0, (hb.frozen (p := ⟨q, 1, none⟩) h.z).trans h.f1, (hb.frozen (p := ⟨q, 2, none⟩) h.z).trans h.f2, Nat.lt_of_lt_of_le h.z hb.size⟩
theorem Box3.kept {W W' : World} {q : Nat} {f g j : Int} {row : Option Nat} (h : Box3 W q f g j) (hg : W.grownBy W' row) (hr : ∀ r, row = some r → ∃ o : Obj, W.heap[r]? = some o ∧ o.isCells = false) : Box3 W' q f g j :=
  ⟨cell_kept h.c0 hg hr, cell_kept h.c1 hg hr, cell_kept h.c2 hg hr, (frozen_kept h.c0 hg hr).trans h.f0, (frozen_kept h.c1 hg hr).trans h.f1, (frozen_kept h.c2 hg hr).trans h.f2, Nat.lt_of_lt_of_le h.z hg.size⟩
theorem Box3.new (w : World) (f g j : Int) (t : TypeId) : Box3 (w.alloc (.cells #[.int .i64 f, .int .i64 g, .int .i64 j] t)) w.heap.size f g j := ⟨by simp, by simp, by simp, by simp, by simp, by simp, by simp⟩
section
variable {F : Fence} {n : Nat} {P : Program} {fn : Func} {R : Ending → World → Prop} {tmps : Array Value} {v : Value} {w : World}
theorem leave0 (hr : (results fn tmps).run P w = .ok v w) (hR : R (.returned v) w) : bodyPostM F n P fn R .ret { tmps := tmps, defers := [] } w := ⟨_, hr, hR⟩
theorem leave1 {D : Nat} (hK : w.heap[D]? = some (.deferred (some []))) (hr : (results fn tmps).run P (w.putObj D (.deferred none)) = .ok v (w.putObj D (.deferred none))) (hR : R (.returned v) (w.putObj D (.deferred none))) :
    bodyPostM F n P fn R .ret { tmps := tmps, defers := [{ target := .collected D, args := #[] }] } w := ⟨by simp, .inl ⟨_, _, rfl, run_takeDeferred hK, _, hr, hR⟩⟩
end
theorem Box3.set0 {w : World} {q : Nat} {f g j : Int} (h : Box3 w q f g j) (x : Int) : Box3 (w.setCell ⟨q, 0, none⟩ (.int .i64 x)) q x g j :=
  ⟨World.cell?_setCell_same _ _ _ h.c0, (World.cell?_setCell_other _ _ _ _ (addr_neT (.inr (by decide)))).trans h.c1, (World.cell?_setCell_other _ _ _ _ (addr_neT (.inr (by decide)))).trans h.c2, by simp only [World.frozen?_setCell]; exact h.f0, by simp only [World.frozen?_setCell]; exact h.f1, by simp only [World.frozen?_setCell]; exact h.f2, by simpa using h.z⟩
theorem Box3.other {w : World} {q q' i : Nat} {f g j : Int} (h : Box3 w q f g j) (hne : q' ≠ q) (v : Value) : Box3 (w.setCell ⟨q', i, none⟩ v) q f g j :=
  ⟨(World.cell?_setCell_other _ _ _ _ (addr_neT (.inl hne))).trans h.c0, (World.cell?_setCell_other _ _ _ _ (addr_neT (.inl hne))).trans h.c1, (World.cell?_setCell_other _ _ _ _ (addr_neT (.inl hne))).trans h.c2, by simp only [World.frozen?_setCell]; exact h.f0, by simp only [World.frozen?_setCell]; exact h.f1, by simp only [World.frozen?_setCell]; exact h.f2, by simpa using h.z⟩
theorem keeps_set3 (w : World) (q : Nat) (a b c : Value) : KeepsOthers w (((w.setCell ⟨q, 0, none⟩ a).setCell ⟨q, 1, none⟩ b).setCell ⟨q, 2, none⟩ c) := ((KeepsOthers.setCell _ _ _).trans (KeepsOthers.setCell _ _ _)).trans (KeepsOthers.setCell _ _ _)
theorem set3 {w : World} {q : Nat} {f g j : Int} (h : Box3 w q f g j) (f' g' j' : Int) : Box3 (((w.setCell ⟨q, 0, none⟩ (.int .i64 f')).setCell ⟨q, 1, none⟩ (.int .i64 g')).setCell ⟨q, 2, none⟩ (.int .i64 j')) q f' g' j' := by
  have ne : ∀ i j : Nat, i ≠ j → (⟨q, i, none⟩ : Addr) ≠ ⟨q, j, none⟩ := fun i j hij => addr_neT (.inr hij)
  have s1 : (w.setCell ⟨q, 0, none⟩ (.int .i64 f')).cell? ⟨q, 1, none⟩ = some (.int .i64 g) := (World.cell?_setCell_other _ _ _ _ (ne 0 1 (by decide))).trans h.c1
  have s2 : ((w.setCell ⟨q, 0, none⟩ (.int .i64 f')).setCell ⟨q, 1, none⟩ (.int .i64 g')).cell? ⟨q, 2, none⟩ = some (.int .i64 j) := (World.cell?_setCell_other _ _ _ _ (ne 1 2 (by decide))).trans ((World.cell?_setCell_other _ _ _ _ (ne 0 2 (by decide))).trans h.c2)
  refine ⟨?_, ?_, World.cell?_setCell_same _ _ _ s2, by simp only [World.frozen?_setCell]; exact h.f0, by simp only [World.frozen?_setCell]; exact h.f1, by simp only [World.frozen?_setCell]; exact h.f2, by simpa using h.z⟩
  · exact (World.cell?_setCell_other _ _ _ _ (ne 2 0 (by decide))).trans ((World.cell?_setCell_other _ _ _ _ (ne 1 0 (by decide))).trans (World.cell?_setCell_same _ _ _ h.c0))
  · exact (World.cell?_setCell_other _ _ _ _ (ne 2 1 (by decide))).trans (World.cell?_setCell_same _ _ _ s1)
set_option maxRecDepth 100000 in
set_option maxHeartbeats 4000000 in
theorem Timed_any (o a d n : Int) (w : World) : Calls Try.prog 25 #[.agg #[.int .i64 o, .int .i64 a, .int .i64 d], .int .i64 n] w fun e w' => e = rTd (timedR o a d n) ∧ Below w.heap.size w w' := by
  obtain ⟨V, hV⟩ : ∃ V, vclk o a d = V := ⟨_, rfl⟩
  have HV := Lib.hid hV
  obtain ⟨N, hN⟩ : ∃ N, inB n 1 10000 = N := ⟨_, rfl⟩
  have HN := Lib.hid hN
  obtain ⟨R, hR⟩ : ∃ R, timedR o a d n = R := ⟨_, rfl⟩
  rw [hR]
  unfold timedR at hR
  rw [hV, hN] at hR
  refine (callsIn_wide (n := 3)).1 ?_
  refine callsIn_of_wp_marks Try.func25 rfl trivial ?_ rfl
  simp only [Try.ntmps25, List.size_toArray, List.length_cons, List.length_nil, Nat.reduceAdd, Nat.reduceSub, Array.replicate_succ, Array.replicate_zero, List.push_toArray, List.append_toArray, List.nil_append, List.cons_append]
  refine wpIn_wide.2 ?_
  cases V
  · have HR : Hid (R = (0, 0, 1)) := Lib.hid hR.symm
    clear hV hN hR
    go_wp2_with (go_at_call 53; (with_reducible refine (vclk_is HV.out).mono ?_); rintro e w1 ⟨rfl, hb1⟩; have HB1 := Lib.hid (((Box3.new w o a d 64).ext (Below.alloc (Below.refl _ _) (Nat.le_refl _) _)).ext hb1); have HB2 := Lib.hid ((Box3.new (w.alloc (.cells #[.int .i64 o, .int .i64 a, .int .i64 d] 64)) 0 0 0 66).ext hb1); rw [World.size_alloc] at HB2; have B1 : Hid (Below w.heap.size w w1) := Lib.hid (Below.trans (by (repeat' (first | (with_reducible exact Below.refl _ _) | (with_reducible assumption) | (with_reducible refine Below.alloc ?_ ?_ _) | (with_reducible refine Below.drew ?_) | (with_reducible refine Below.draws ?_ _) | (with_reducible refine Below.setCell ?_ ?_ _) | (refine Below.then ?_ (by with_reducible assumption)) | go_size))) (hb1.mono (by simp; omega))); clear hb1; obtain ⟨x0, x1, x2, _, _, _, xz⟩ := HB1.out; obtain ⟨y0, y1, y2, yf0, yf1, yf2, yz⟩ := HB2.out)
    (have H3 := Lib.hid (set3 HB2.out 0 0 0); obtain ⟨W, hW⟩ : ∃ x, x = (((w1.setCell ⟨w.heap.size + 1, 0, none⟩ (.int .i64 0)).setCell ⟨w.heap.size + 1, 1, none⟩ (.int .i64 0)).setCell ⟨w.heap.size + 1, 2, none⟩ (.int .i64 0)) := ⟨_, rfl⟩; have hBW : Below w.heap.size w W := (by rw [hW]; exact ((B1.out.setCell (p := ⟨w.heap.size + 1, 0, none⟩) (by simp) _).setCell (p := ⟨w.heap.size + 1, 1, none⟩) (by simp) _).setCell (p := ⟨w.heap.size + 1, 2, none⟩) (by simp) _); rw [← hW] at H3 ⊢; obtain ⟨z0, z1, z2, _, _, _, zz⟩ := H3.out; refine leave0 (v := .tuple #[.agg #[.int .i64 0, .int .i64 0, .int .i64 0], .int .i64 1]) (by simp [results, Try.results25, go_sem, z0, z1, z2]) ⟨by rw [HR.out]; rfl, hBW⟩)
  · cases N
    · have HR : Hid (R = (0, 0, 1)) := Lib.hid hR.symm
      clear hV hN hR
      go_wp2_with (first | (go_at_call 53; (with_reducible refine (vclk_is HV.out).mono ?_); rintro e w1 ⟨rfl, hb1⟩; have HB1 := Lib.hid (((Box3.new w o a d 64).ext (Below.alloc (Below.refl _ _) (Nat.le_refl _) _)).ext hb1); have HB2 := Lib.hid ((Box3.new (w.alloc (.cells #[.int .i64 o, .int .i64 a, .int .i64 d] 64)) 0 0 0 66).ext hb1); rw [World.size_alloc] at HB2; have B1 : Hid (Below w.heap.size w w1) := Lib.hid (Below.trans (by (repeat' (first | (with_reducible exact Below.refl _ _) | (with_reducible assumption) | (with_reducible refine Below.alloc ?_ ?_ _) | (with_reducible refine Below.drew ?_) | (with_reducible refine Below.draws ?_ _) | (with_reducible refine Below.setCell ?_ ?_ _) | (refine Below.then ?_ (by with_reducible assumption)) | go_size))) (hb1.mono (by simp; omega))); clear hb1; obtain ⟨x0, x1, x2, _, _, _, xz⟩ := HB1.out; obtain ⟨y0, y1, y2, yf0, yf1, yf2, yz⟩ := HB2.out) | (go_at_call 54; (with_reducible refine (awithin_is HN.out).mono ?_); rintro e w2 ⟨rfl, rfl⟩))
      (have H3 := Lib.hid (set3 HB2.out 0 0 0); obtain ⟨W, hW⟩ : ∃ x, x = (((w1.setCell ⟨w.heap.size + 1, 0, none⟩ (.int .i64 0)).setCell ⟨w.heap.size + 1, 1, none⟩ (.int .i64 0)).setCell ⟨w.heap.size + 1, 2, none⟩ (.int .i64 0)) := ⟨_, rfl⟩; have hBW : Below w.heap.size w W := (by rw [hW]; exact ((B1.out.setCell (p := ⟨w.heap.size + 1, 0, none⟩) (by simp) _).setCell (p := ⟨w.heap.size + 1, 1, none⟩) (by simp) _).setCell (p := ⟨w.heap.size + 1, 2, none⟩) (by simp) _); rw [← hW] at H3 ⊢; obtain ⟨z0, z1, z2, _, _, _, zz⟩ := H3.out; refine leave0 (v := .tuple #[.agg #[.int .i64 0, .int .i64 0, .int .i64 0], .int .i64 1]) (by simp [results, Try.results25, go_sem, z0, z1, z2]) ⟨by rw [HR.out]; rfl, hBW⟩)
    · have hok : TmOk o a d n := ⟨hV, inB_iff.1 hN⟩
      have HOK := Lib.hid hok
      obtain ⟨vo, va, vd⟩ := vclk_iff.1 hV
      have hn := hok.n
      rw [Bool.and_self, if_pos rfl] at hR
      have HR := Lib.hid hR
      have ha0 : (a == 0) = false := by simp; omega
      have hnd := Int.mul_le_mul hn.2 vd.2 (by omega) (by omega)
      have hnd0 := Int.mul_nonneg (show 0 ≤ n by omega) (show 0 ≤ d by omega)
      have hqd := ediv_bd (a := n * d) (b := a) (m := 10000000) va.1 (by omega) (by omega) (by omega)
      clear hV hN hR
      go_upto_region 4 with (first | (go_at_call 53; (with_reducible refine (vclk_is HV.out).mono ?_); rintro e w1 ⟨rfl, hb1⟩; have HB1 := Lib.hid (((Box3.new w o a d 64).ext (Below.alloc (Below.refl _ _) (Nat.le_refl _) _)).ext hb1); have HB2 := Lib.hid ((Box3.new (w.alloc (.cells #[.int .i64 o, .int .i64 a, .int .i64 d] 64)) 0 0 0 66).ext hb1); rw [World.size_alloc] at HB2; have B1 : Hid (Below w.heap.size w w1) := Lib.hid (Below.trans (by (repeat' (first | (with_reducible exact Below.refl _ _) | (with_reducible assumption) | (with_reducible refine Below.alloc ?_ ?_ _) | (with_reducible refine Below.drew ?_) | (with_reducible refine Below.draws ?_ _) | (with_reducible refine Below.setCell ?_ ?_ _) | (refine Below.then ?_ (by with_reducible assumption)) | go_size))) (hb1.mono (by simp; omega))); clear hb1; obtain ⟨x0, x1, x2, _, _, _, xz⟩ := HB1.out; obtain ⟨y0, y1, y2, yf0, yf1, yf2, yz⟩ := HB2.out) | (go_at_call 54; (with_reducible refine (awithin_is HN.out).mono ?_); rintro e w2 ⟨rfl, rfl⟩))
      have hG : (if n * d / a < 1 then (1 : Int) else n * d / a) = gapT a d n := by unfold gapT; split <;> omega
      first
        | rw [hG]
        | rw [show max (n * d / a) 1 = gapT a d n by unfold gapT; omega]
      have hgb : 1 ≤ gapT a d n ∧ gapT a d n ≤ 10000000 := by unfold gapT; omega
      obtain ⟨G, hGG⟩ : ∃ G, gapT a d n = G := ⟨_, rfl⟩
      obtain ⟨A, hA⟩ : ∃ A, atT o a d n 0 = A := ⟨_, rfl⟩
      rw [hGG] at hgb HR ⊢
      rw [hA] at HR
      have HA := Lib.hid hA
      obtain ⟨w3, hw3⟩ : ∃ x, x = w1.alloc (.cells #[.int .i64 0, .int .i64 G, .int .i64 0] 66) := ⟨_, rfl⟩
      have hb13 : Below w1.heap.size w1 w3 := by rw [hw3]; (repeat' (first | (with_reducible exact Below.refl _ _) | (with_reducible assumption) | (with_reducible refine Below.alloc ?_ ?_ _) | (with_reducible refine Below.drew ?_) | (with_reducible refine Below.draws ?_ _) | (with_reducible refine Below.setCell ?_ ?_ _) | (refine Below.then ?_ (by with_reducible assumption)) | go_size))
      have HB3 : Hid (Box3 w3 w1.heap.size 0 G 0) := Lib.hid (by rw [hw3]; exact Box3.new _ _ _ _ _)
      have HB1 := Lib.hid (HB1.out.ext hb13); have HB2 := Lib.hid (HB2.out.ext hb13)
      have B3 := Lib.hid (Below.then B1.out hb13)
      have hz13 : w.heap.size + 1 < w1.heap.size := yz
      have Z13 := Lib.hid hz13
      rw [← hw3]
      clear hG hGG hA hw3 hb13 x0 x1 x2 xz y0 y1 y2 yf0 yf1 yf2 yz hnd hnd0 hqd ha0 hz13
      obtain ⟨x0, x1, x2, _, _, _, xz⟩ := HB1.out
      go_wp2_with (go_at_call 55; (refine (alarms_any o a d n _).mono ?_); rintro e w4 ⟨p, q, rfl, hck, hp4, hq4, hb4⟩)
      have HB1 := Lib.hid (HB1.out.ext hb4); have HB2 := Lib.hid (HB2.out.ext hb4); have HB3 := Lib.hid (HB3.out.ext hb4)
      have B4 := Lib.hid (Below.then B3.out hb4)
      have hz34 := hb4.size
      have hz0 := B4.out.size
      have hQR : ¬ w1.heap.size = w.heap.size + 1 := by have := Z13.out; omega
      have hQz := HB3.out.z
      clear x0 x1 x2 xz hb4
      refine (wpIn_wide (n := 3)).1 ?_
      refine wpIn_told rfl (by omega) (gf := 80) (lb := #[.pointer (some ⟨p, 0, none⟩), .pointer (some ⟨q, 0, none⟩)]) rfl trivial (enters_of Try.func80 (by kernel_rfl) rfl) (encs := fun x : Int => #[Value.int .i64 x]) (fun _ => rfl) (Kp := Kp2 p q) (fun h k => h.trans k)
        (fun W l o o' hl ho hc => Kp2.put W l o' (by have := hck.hp; omega) (by have := hck.hq; omega))
        (fun pre W => pre = [] ∧ Box3 W w1.heap.size 0 G 0 ∧ Box3 W (w.heap.size + 1) 0 0 0 ∧ Below w.heap.size w W)
        (fun c pre W => c = .exit 0 ∧ ∃ x, pre = [x] ∧ Box3 W w1.heap.size x G 0 ∧ Box3 W (w.heap.size + 1) 0 0 0 ∧ Below w.heap.size w W)
        (fun pre W W' row hs hg hr => ⟨hs.1, hs.2.1.kept hg (fun r e => (hr r e).2), hs.2.2.1.kept hg (fun r e => (hr r e).2), ownFrom_below (β := Unit) (Nat.le_refl _) hz0 () W W' row hs.2.2.2 hg hr⟩)
        (fun c pre W W' row hs hg hr => by
          obtain ⟨hc, x, h1, h2, h3, h4⟩ := hs
          exact ⟨hc, x, h1, h2.kept hg (fun r e => (hr r e).2), h3.kept hg (fun r e => (hr r e).2), ownFrom_below (β := Unit) (Nat.le_refl _) hz0 () W W' row h4 hg hr⟩)
        ⟨rfl, HB3.out, HB2.out, B4.out⟩
        (alarms1_told HOK.out p q (3 - 1) hck (fun pre V h => by rw [h.1]; simp))
        (fun x => { tmps := #[.agg #[.int .i64 o, .int .i64 a, .int .i64 d], .int .i64 n, .pointer (some ⟨w.heap.size, 0, none⟩), undef, .pointer (some ⟨w.heap.size + 1, 0, none⟩), .int .i64 0, .pointer (some ⟨w1.heap.size, 0, none⟩), .int .i64 x, .agg #[.int .i64 o, .int .i64 a, .int .i64 d], .bool true, .bool false, .bool false, .int .i64 n, .bool true, .bool false, .bool false, undef, .int .i64 n, .pointer (some ⟨w.heap.size, 2, none⟩), .int .i64 d, .int .i64 (n * d), .pointer (some ⟨w.heap.size, 1, none⟩), .int .i64 a, .int .i64 (n * d / a), .int .i64 G, .agg #[.int .i64 0, .int .i64 G, .int .i64 0], .agg #[.int .i64 o, .int .i64 a, .int .i64 d], .int .i64 n, .func (.func 80) #[] #[.pointer (some ⟨p, 0, none⟩), .pointer (some ⟨q, 0, none⟩)], .int .i64 x, undef, undef, undef, undef, undef, undef, undef], defers := [] }) ?assign ?body ?stop
      case assign =>
        intro l x W K hK
        gi_wp2
        exact hK
      case body =>
        rintro l pre x W ⟨rfl, h3, h2, hB⟩
        obtain ⟨z0, z1, z2, zf0, zf1, zf2, zz⟩ := h3
        gi_wp2
        have hz := hB.size
        exact ⟨(KeepsOthers.setCell _ _ _).from _, rfl, x, rfl, (⟨z0, z1, z2, zf0, zf1, zf2, zz⟩ : Box3 W w1.heap.size 0 G 0).set0 x, h2.other hQR _, hB.setCell (p := ⟨w1.heap.size, 0, none⟩) (by have := Z13.out; simp only []; omega) _⟩
      case stop =>
        rintro D c pre W hD ⟨k, hk1, hk2⟩ ⟨rfl, x, rfl, h3, h2, hB⟩ hK
        have hpn : preT o a d n k = [] := by
          have := congrArg List.length hk2
          simp at this
          exact this
        have hxA : x = A := by
          rw [hpn] at hk2
          simp at hk2
          rw [hk2, ← HA.out]; exact HOK.out.first hpn
        subst hxA
        have hDz : D < W.heap.size := (Array.getElem?_eq_some_iff.1 hK).1
        obtain ⟨V2, hV2⟩ : ∃ v, vpat x G 0 = v := ⟨_, rfl⟩
        have HV2 := Lib.hid hV2
        have HK := Lib.hid hK; have H2 := Lib.hid h2; have HB := Lib.hid hB; have H3 := Lib.hid h3
        have hR2 := HR.out
        rw [hV2] at hR2
        have HR2 := Lib.hid hR2
        obtain ⟨x0, x1, x2, _, _, _, xz⟩ := h3
        clear hpn hk1 hk2 hK h2 hB hV2 hR2 HR
        refine wpIn_wide.2 ?_
        simp only []
        cases V2
        · go_wp2_with (go_at_call 56; (with_reducible refine (avalid_tm HV2.out).mono ?_); rintro e w5 ⟨rfl, hb5⟩; have HK5 := Lib.hid ((hb5.block D hDz).trans HK.out); have H25 := Lib.hid (H2.out.ext hb5); have B5 := Lib.hid (Below.then HB.out hb5); clear hb5; obtain ⟨y0, y1, y2, yf0, yf1, yf2, yz⟩ := H25.out)
          have H6 := Lib.hid (set3 H25.out 0 0 0)
          obtain ⟨W6, hW6⟩ : ∃ y, y = (((w5.setCell ⟨w.heap.size + 1, 0, none⟩ (.int .i64 0)).setCell ⟨w.heap.size + 1, 1, none⟩ (.int .i64 0)).setCell ⟨w.heap.size + 1, 2, none⟩ (.int .i64 0)) := ⟨_, rfl⟩
          have hK6 : W6.heap[D]? = some (.deferred (some [])) := by rw [hW6]; exact (keeps_set3 _ _ _ _ _).same D _ HK5.out rfl
          have hB6 : Below w.heap.size w W6 := by rw [hW6]; exact ((B5.out.setCell (p := ⟨w.heap.size + 1, 0, none⟩) (by simp) _).setCell (p := ⟨w.heap.size + 1, 1, none⟩) (by simp) _).setCell (p := ⟨w.heap.size + 1, 2, none⟩) (by simp) _
          rw [← hW6] at H6 ⊢
          have H7 := H6.out.kept (grownBy_putObj' W6 D (.deferred none)) (fun r e => by cases e; exact ⟨_, hK6, rfl⟩)
          obtain ⟨z0, z1, z2, _, _, _, zz⟩ := H7
          have hB7 : Below w.heap.size w (W6.putObj D (.deferred none)) := hB6.trans (belowK_b (w := w) (Nat.le_refl _) W6 D _ _ (by omega) hK6 rfl rfl)
          exact leave1 (v := .tuple #[.agg #[.int .i64 0, .int .i64 0, .int .i64 0], .int .i64 3]) hK6 (by simp [results, Try.results25, go_sem, z0, z1, z2]) ⟨by rw [← HR2.out]; rfl, hB7⟩
        · go_wp2_with (go_at_call 56; (with_reducible refine (avalid_tm HV2.out).mono ?_); rintro e w5 ⟨rfl, hb5⟩; have HK5 := Lib.hid ((hb5.block D hDz).trans HK.out); have H25 := Lib.hid (H2.out.ext hb5); have H35 := Lib.hid (H3.out.ext hb5); have B5 := Lib.hid (Below.then HB.out hb5); clear hb5 x0 x1 x2 xz; obtain ⟨x0, x1, x2, _, _, _, xz⟩ := H35.out; obtain ⟨y0, y1, y2, yf0, yf1, yf2, yz⟩ := H25.out)
          have H6 := Lib.hid (set3 H25.out x G 0)
          obtain ⟨W6, hW6⟩ : ∃ y, y = (((w5.setCell ⟨w.heap.size + 1, 0, none⟩ (.int .i64 x)).setCell ⟨w.heap.size + 1, 1, none⟩ (.int .i64 G)).setCell ⟨w.heap.size + 1, 2, none⟩ (.int .i64 0)) := ⟨_, rfl⟩
          have hK6 : W6.heap[D]? = some (.deferred (some [])) := by rw [hW6]; exact (keeps_set3 _ _ _ _ _).same D _ HK5.out rfl
          have hB6 : Below w.heap.size w W6 := by rw [hW6]; exact ((B5.out.setCell (p := ⟨w.heap.size + 1, 0, none⟩) (by simp) _).setCell (p := ⟨w.heap.size + 1, 1, none⟩) (by simp) _).setCell (p := ⟨w.heap.size + 1, 2, none⟩) (by simp) _
          rw [← hW6] at H6 ⊢
          have H7 := H6.out.kept (grownBy_putObj' W6 D (.deferred none)) (fun r e => by cases e; exact ⟨_, hK6, rfl⟩)
          obtain ⟨z0, z1, z2, _, _, _, zz⟩ := H7
          have hB7 : Below w.heap.size w (W6.putObj D (.deferred none)) := hB6.trans (belowK_b (w := w) (Nat.le_refl _) W6 D _ _ (by omega) hK6 rfl rfl)
          exact leave1 (v := .tuple #[.agg #[.int .i64 x, .int .i64 G, .int .i64 0], .int .i64 0]) hK6 (by simp [results, Try.results25, go_sem, z0, z1, z2]) ⟨by rw [← HR2.out]; rfl, hB7⟩
end Go.Proofs.Ytmahagcghpoekaa
namespace Go.Proofs.Ytmahagcghpoekaa
open Go.RowKit Go.Shelf
set_option linter.unusedSimpArgs false
set_option linter.unusedVariables false
attribute [local go_sem] Oper.semAt_some
theorem infoI : (Try.prog.info? 3).map (fun i => (i.zero, i.size, i.bytes)) = some (some (.int .i64 0), 1, 8) := by kernel_rfl
open Classical in
/-- the moments that Timer gives -/
noncomputable def tmR (o a d n u : Int) : List Int := if h : ∃ l, IsTm o a d n u l then Classical.choose h else []
theorem tmR_is {o a d n u : Int} (h : TmOk o a d n) {l : List Int} (hl : IsTm o a d n u l) : tmR o a d n u = l := by
  have hex : ∃ l, IsTm o a d n u l := ⟨l, hl⟩
  unfold tmR
  rw [dif_pos hex]
  exact IsTm.unique h (Classical.choose_spec hex) hl
def tmC (o a d n u : Int) : Bool := vclk o a d && (inB n 1 10000 && inB u 0 1000000)
def OutTm (B : Nat) (w : World) (l : List Int) (er : Int) (e : Ending) (w' : World) : Prop :=
  ∃ a n c, e = .returned (.tuple #[.slice a n c, .int .i64 er]) ∧ w'.ownsRow B 3 1 (.slice a n c) n (l.flatMap enc1) ∧ Below B w w'
theorem row_slice {W : World} {B e k n : Nat} {v : Value} {xs : List Value} (h : W.ownsRow B e k v n xs) : ∃ a c, v = .slice a n c := by
  rcases h.2 with ⟨rfl, h8⟩ | ⟨g, cap, cur, rfl, _⟩
  · exact ⟨none, 0, by rw [h8]⟩
  · exact ⟨_, _, rfl⟩
theorem row_high {W : World} {B e k n p : Nat} {v : Value} {xs : List Value} (h : W.ownsRow B e k v n xs) (hp : p < B) : some p ≠ v.ownBlock := by
  rcases h.2 with ⟨rfl, _⟩ | ⟨g, cap, cur, rfl, hB, _⟩
  · simp [Value.ownBlock]
  · intro q
    obtain rfl : p = g := by simpa [Value.ownBlock] using q
    omega
theorem boxed_ext {W W' : World} {B : Nat} {t : TypeId} {v : Value} (h : Boxed W B t v) (hb : Below W.heap.size W W') : Boxed W' B t v := (hb.block B h.lt).trans h
/-- between two rounds -/
structure ITm (w : World) (Q N0 : Nat) (u : Int) (pre : List Int) (W : World) : Prop where
  row : ∃ v, Boxed W Q 29 v ∧ W.ownsRow N0 3 1 v pre.length (pre.flatMap enc1) ∧ True
  hu : W.cell? ⟨w.heap.size + 1, 0, none⟩ = some (.int .i64 u)
  uz : w.heap.size + 1 < W.heap.size
  le : ∀ x ∈ pre, x ≤ u
  len : pre.length ≤ 40
  lb : Below w.heap.size w W
  z : N0 ≤ W.heap.size
theorem ITm.own {w : World} {Q N0 : Nat} {u : Int} (hN : w.heap.size ≤ N0) : OwnFrom N0 (ITm w Q N0 u) := fun pre W W' row hs hg hr =>
  ⟨holdsRow_own (β := List Int) N0 Q 29 3 1 (fun p => p.length) (fun p => p.flatMap enc1) (fun _ _ => True) pre W W' row hs.row hg (fun r e => (hr r e).2), cell_kept hs.hu hg (fun r e => (hr r e).2), Nat.lt_of_lt_of_le hs.uz hg.size, hs.le, hs.len, ownFrom_below (β := Unit) (Nat.le_refl _) hN () W W' row hs.lb hg hr, Nat.le_trans hs.z hg.size⟩
theorem ITm.put {w : World} {Q N0 : Nat} {u : Int} {pre : List Int} {W : World} (h : ITm w Q N0 u pre W) (hN : w.heap.size ≤ N0) {D : Nat} {o : Obj} (o' : Obj) (hD : N0 ≤ D) (hK : W.heap[D]? = some o) (ho : o.isCells = false) : ITm w Q N0 u pre (W.putObj D o') :=
  (ITm.own hN).putObj o' h hD hK ho
set_option maxRecDepth 100000 in
set_option maxHeartbeats 4000000 in
theorem Timer_any (o a d n u : Int) (w : World) : Calls Try.prog 26 #[.agg #[.int .i64 o, .int .i64 a, .int .i64 d], .int .i64 n, .int .i64 u] w (OutTm w.heap.size w (if tmC o a d n u = true then tmR o a d n u else []) (if tmC o a d n u = true then 0 else 1)) := by
  obtain ⟨V, hV⟩ : ∃ V, vclk o a d = V := ⟨_, rfl⟩
  have HV := Lib.hid hV
  obtain ⟨N, hN⟩ : ∃ N, inB n 1 10000 = N := ⟨_, rfl⟩
  have HN := Lib.hid hN
  obtain ⟨U, hU⟩ : ∃ U, inB u 0 1000000 = U := ⟨_, rfl⟩
  have HU := Lib.hid hU
  have hC : tmC o a d n u = (V && (N && U)) := by unfold tmC; rw [hV, hN, hU]
  rw [hC]
  clear hC
  refine (callsIn_wide (n := 3)).1 ?_
  refine callsIn_of_wp_marks Try.func26 rfl trivial ?_ rfl
  simp only [Try.ntmps26, List.size_toArray, List.length_cons, List.length_nil, Nat.reduceAdd, Nat.reduceSub, Array.replicate_succ, Array.replicate_zero, List.push_toArray, List.append_toArray, List.nil_append, List.cons_append]
  refine wpIn_wide.2 ?_
  cases V
  · rw [Bool.false_and, if_neg (by simp), if_neg (by simp)]
    clear hV hN hU
    go_wp2_with (go_at_call 53; (with_reducible refine (vclk_is HV.out).mono ?_); rintro e w1 ⟨rfl, hb1⟩; have HB1 := Lib.hid (((Box3.new w o a d 64).ext (Below.alloc (Below.refl _ _) (Nat.le_refl _) _)).ext hb1); have hu1 := (hb1.cell (p := ⟨w.heap.size + 1, 0, none⟩) (by simp)).trans (show _ = some (.int .i64 u) by simp [go_sem]); have huz : w.heap.size + 1 < w1.heap.size := Nat.lt_of_lt_of_le (by simp) hb1.size; have B1 : Hid (Below w.heap.size w w1) := Lib.hid (Below.trans (by (repeat' (first | (with_reducible exact Below.refl _ _) | (with_reducible assumption) | (with_reducible refine Below.alloc ?_ ?_ _) | (with_reducible refine Below.drew ?_) | (with_reducible refine Below.draws ?_ _) | (with_reducible refine Below.setCell ?_ ?_ _) | (refine Below.then ?_ (by with_reducible assumption)) | go_size))) (hb1.mono (by simp; omega))); clear hb1; obtain ⟨x0, x1, x2, _, _, _, xz⟩ := HB1.out)
    (refine leave0 (v := .tuple #[.slice none 0 0, .int .i64 1]) (by simp [results, Try.results26, go_sem]) ⟨none, 0, 0, rfl, World.ownsRow_nil _ _ _ _, B1.out⟩)
  · cases N
    · rw [Bool.false_and, Bool.and_false, if_neg (by simp), if_neg (by simp)]
      clear hV hN hU
      go_wp2_with (first | (go_at_call 53; (with_reducible refine (vclk_is HV.out).mono ?_); rintro e w1 ⟨rfl, hb1⟩; have HB1 := Lib.hid (((Box3.new w o a d 64).ext (Below.alloc (Below.refl _ _) (Nat.le_refl _) _)).ext hb1); have hu1 := (hb1.cell (p := ⟨w.heap.size + 1, 0, none⟩) (by simp)).trans (show _ = some (.int .i64 u) by simp [go_sem]); have huz : w.heap.size + 1 < w1.heap.size := Nat.lt_of_lt_of_le (by simp) hb1.size; have B1 : Hid (Below w.heap.size w w1) := Lib.hid (Below.trans (by (repeat' (first | (with_reducible exact Below.refl _ _) | (with_reducible assumption) | (with_reducible refine Below.alloc ?_ ?_ _) | (with_reducible refine Below.drew ?_) | (with_reducible refine Below.draws ?_ _) | (with_reducible refine Below.setCell ?_ ?_ _) | (refine Below.then ?_ (by with_reducible assumption)) | go_size))) (hb1.mono (by simp; omega))); clear hb1; obtain ⟨x0, x1, x2, _, _, _, xz⟩ := HB1.out) | (go_at_call 54; (with_reducible refine (awithin_is HN.out).mono ?_); rintro e w2 ⟨rfl, rfl⟩))
      (refine leave0 (v := .tuple #[.slice none 0 0, .int .i64 1]) (by simp [results, Try.results26, go_sem]) ⟨none, 0, 0, rfl, World.ownsRow_nil _ _ _ _, B1.out⟩)
    · cases U
      · rw [Bool.and_false, Bool.and_false, if_neg (by simp), if_neg (by simp)]
        clear hV hN hU
        go_wp2_with (first | (go_at_call 53; (with_reducible refine (vclk_is HV.out).mono ?_); rintro e w1 ⟨rfl, hb1⟩; have HB1 := Lib.hid (((Box3.new w o a d 64).ext (Below.alloc (Below.refl _ _) (Nat.le_refl _) _)).ext hb1); have hu1 := (hb1.cell (p := ⟨w.heap.size + 1, 0, none⟩) (by simp)).trans (show _ = some (.int .i64 u) by simp [go_sem]); have huz : w.heap.size + 1 < w1.heap.size := Nat.lt_of_lt_of_le (by simp) hb1.size; have B1 : Hid (Below w.heap.size w w1) := Lib.hid (Below.trans (by (repeat' (first | (with_reducible exact Below.refl _ _) | (with_reducible assumption) | (with_reducible refine Below.alloc ?_ ?_ _) | (with_reducible refine Below.drew ?_) | (with_reducible refine Below.draws ?_ _) | (with_reducible refine Below.setCell ?_ ?_ _) | (refine Below.then ?_ (by with_reducible assumption)) | go_size))) (hb1.mono (by simp; omega))); clear hb1; obtain ⟨x0, x1, x2, _, _, _, xz⟩ := HB1.out) | (go_at_call 54; (with_reducible refine (awithin_is HN.out).mono ?_); rintro e w2 ⟨rfl, rfl⟩) | (go_at_call 54; (with_reducible refine (awithin_is HU.out).mono ?_); rintro e w2 ⟨rfl, rfl⟩))
        (refine leave0 (v := .tuple #[.slice none 0 0, .int .i64 1]) (by simp [results, Try.results26, go_sem]) ⟨none, 0, 0, rfl, World.ownsRow_nil _ _ _ _, B1.out⟩)
      · have hok : TmOk o a d n := ⟨hV, inB_iff.1 hN⟩
        have HOK := Lib.hid hok
        rw [Bool.true_and, Bool.true_and, if_pos rfl, if_pos rfl]
        clear hV hN hU hok
        go_upto_region 4 with (first | (go_at_call 53; (with_reducible refine (vclk_is HV.out).mono ?_); rintro e w1 ⟨rfl, hb1⟩; have HB1 := Lib.hid (((Box3.new w o a d 64).ext (Below.alloc (Below.refl _ _) (Nat.le_refl _) _)).ext hb1); have hu1 := (hb1.cell (p := ⟨w.heap.size + 1, 0, none⟩) (by simp)).trans (show _ = some (.int .i64 u) by simp [go_sem]); have huz : w.heap.size + 1 < w1.heap.size := Nat.lt_of_lt_of_le (by simp) hb1.size; have B1 : Hid (Below w.heap.size w w1) := Lib.hid (Below.trans (by (repeat' (first | (with_reducible exact Below.refl _ _) | (with_reducible assumption) | (with_reducible refine Below.alloc ?_ ?_ _) | (with_reducible refine Below.drew ?_) | (with_reducible refine Below.draws ?_ _) | (with_reducible refine Below.setCell ?_ ?_ _) | (refine Below.then ?_ (by with_reducible assumption)) | go_size))) (hb1.mono (by simp; omega))); clear hb1; obtain ⟨x0, x1, x2, _, _, _, xz⟩ := HB1.out) | (go_at_call 54; (with_reducible refine (awithin_is HN.out).mono ?_); rintro e w2 ⟨rfl, rfl⟩) | (go_at_call 54; (with_reducible refine (awithin_is HU.out).mono ?_); rintro e w2 ⟨rfl, rfl⟩))
        obtain ⟨w3, hw3⟩ : ∃ x, x = w1.alloc (.cells #[.slice none 0 0] 29) := ⟨_, rfl⟩
        have hb13 : Below w1.heap.size w1 w3 := by rw [hw3]; (repeat' (first | (with_reducible exact Below.refl _ _) | (with_reducible assumption) | (with_reducible refine Below.alloc ?_ ?_ _) | (with_reducible refine Below.drew ?_) | (with_reducible refine Below.draws ?_ _) | (with_reducible refine Below.setCell ?_ ?_ _) | (refine Below.then ?_ (by with_reducible assumption)) | go_size))
        have HX3 : Hid (Boxed w3 w1.heap.size 29 (.slice none 0 0)) := Lib.hid (by rw [hw3]; exact Boxed.new _ _ _)
        have HB1 := Lib.hid (HB1.out.ext hb13)
        have B3 := Lib.hid (Below.then B1.out hb13)
        have hu3 := (hb13.cell (p := ⟨w.heap.size + 1, 0, none⟩) huz).trans hu1
        have hu3z := Nat.lt_of_lt_of_le huz hb13.size
        have HQ1 := Lib.hid (show w.heap.size + 1 < w1.heap.size from huz)
        have HU3 := Lib.hid hu3
        rw [← hw3]
        clear hw3 hb13 x0 x1 x2 xz hu1 huz hu3
        obtain ⟨x0, x1, x2, _, _, _, xz⟩ := HB1.out
        go_wp2_with (go_at_call 55; (refine (alarms_any o a d n _).mono ?_); rintro e w4 ⟨p, q, rfl, hck, hp4, hq4, hb4⟩)
        have HX4 := Lib.hid (boxed_ext HX3.out hb4)
        have B4 := Lib.hid (Below.then B3.out hb4)
        have HU4 := Lib.hid ((hb4.cell (p := ⟨w.heap.size + 1, 0, none⟩) hu3z).trans HU3.out)
        have hz34 := hb4.size
        have HN4 := Lib.hid B4.out.size
        have HQw := Lib.hid (show w.heap.size ≤ w1.heap.size by have := HQ1.out; omega)
        have hu4z : w.heap.size + 1 < w4.heap.size := by omega
        have hQ4 := HX4.out.lt
        obtain ⟨i0, hi, hz0, hz1, hz2⟩ := info_parts infoI
        have hpz := hck.hp; have hqz := hck.hq
        have hpQ : ¬ p = w1.heap.size := by have := HX3.out.lt; omega
        have hqQ : ¬ q = w1.heap.size := by have := HX3.out.lt; omega
        clear x0 x1 x2 xz hb4 hu3z
        refine (wpIn_wide (n := 3)).1 ?_
        refine wpIn_told rfl (by omega) (gf := 80) (lb := #[.pointer (some ⟨p, 0, none⟩), .pointer (some ⟨q, 0, none⟩)]) rfl trivial (enters_of Try.func80 (by kernel_rfl) rfl) (encs := fun x : Int => #[Value.int .i64 x]) (fun _ => rfl) (Kp := Kp2 p q) (fun h k => h.trans k)
          (fun W l o o' hl ho hc => Kp2.put W l o' (by omega) (by omega))
          (ITm w w1.heap.size w4.heap.size u)
          (fun c pre W => c = .exit 0 ∧ ∃ r x, pre = r ++ [x] ∧ (u < x ∨ r.length = 40) ∧ ITm w w1.heap.size w4.heap.size u r W)
          (ITm.own HN4.out)
          (fun c pre W W' row hs hg hr => by
            obtain ⟨hc, r, x, h1, h2, h3⟩ := hs
            exact ⟨hc, r, x, h1, h2, ITm.own HN4.out r W W' row h3 hg hr⟩)
          ⟨⟨_, HX4.out, World.ownsRow_nil _ _ _ _, trivial⟩, HU4.out, hu4z, fun x hx => (by cases hx), by simp, B4.out, Nat.le_refl _⟩
          (alarms1_told HOK.out p q (3 - 1) hck (fun pre V h => h.len))
          (fun x => { tmps := #[.agg #[.int .i64 o, .int .i64 a, .int .i64 d], .int .i64 n, .int .i64 u, .pointer (some ⟨w.heap.size, 0, none⟩), undef, .pointer (some ⟨w.heap.size + 1, 0, none⟩), .slice none 0 0, .int .i64 0, .pointer (some ⟨w1.heap.size, 0, none⟩), .int .i64 x, .agg #[.int .i64 o, .int .i64 a, .int .i64 d], .bool true, .bool false, .bool false, .int .i64 n, .bool true, .bool false, .bool false, .bool false, .int .i64 u, .bool true, .bool false, .bool false, .agg #[.int .i64 o, .int .i64 a, .int .i64 d], .int .i64 n, .func (.func 80) #[] #[.pointer (some ⟨p, 0, none⟩), .pointer (some ⟨q, 0, none⟩)], .int .i64 x, undef, undef, undef, undef, undef, undef, undef, undef, undef, undef, undef, undef, undef], defers := [] }) ?assign ?body ?stop
        case assign =>
          intro l x W K hK
          gi_wp2
          exact hK
        case body =>
          intro l pre x W hI
          obtain ⟨v, hv, hrow, _⟩ := hI.row
          obtain ⟨va, vc, rfl⟩ := row_slice hrow
          have hc0 := hv.cell
          have hlt := hv.lt
          have hu0 := hI.hu
          have huz := hI.uz
          have hl40 := hI.len
          have hWz := hI.z
          have HWz := Lib.hid (show w.heap.size ≤ W.heap.size by have := HN4.out; omega)
          have HI := Lib.hid hI
          clear hI
          by_cases h1 : u < x
          · have d1 : decide (u < x) = true := by simpa using h1
            gi_wp2
            exact ⟨KeepsFrom.refl _ _, rfl, pre, x, rfl, .inl h1, HI.out⟩
          · have d1 : decide (u < x) = false := by simpa using h1
            by_cases h2 : pre.length = 40
            · have d2 : ((pre.length : Int) == 40) = true := by simp; omega
              gi_wp2
              exact ⟨KeepsFrom.refl _ _, rfl, pre, x, rfl, .inr h2, HI.out⟩
            · have d2 : ((pre.length : Int) == 40) = false := by simp; omega
              gi_wp2_with (gi_at_builtin; refine wpListIn_append_own _ rfl _ _ 29 rfl w4.heap.size 3 i0 (.int .i64 0) 1 8 Try.underlying29 hi hz0 hz1 hz2 rfl (by decide) _ _ _ rfl (hrow.alloc _) ⟨W.heap.size, 0, none⟩ 1 1 [.int .i64 x] rfl rfl (cell_one_new _ _ _) (by simp [Value.oneCell']) (by unfold maxLen; omega) (by omega) (by simp; omega) ?_; intro v' w5 hown' hgrow _; obtain ⟨g', cap', rfl⟩ := ownsRow_succ hown'; obtain ⟨hv1, hv2, hr2, hk2, hb2⟩ := hv.appended (by decide) (owns_mono hrow HN4.out) HWz.out HQw.out (owns_mono hown' HN4.out) hgrow; have hc1 := hv1.cell; have hf1 := hv1.frozen; have hvz := hv1.lt)
              have hgz := hgrow.size
              simp at hgz
              have hne := hv1.not_row (by decide) hown'
              have keepb : ∀ b, b < w4.heap.size → b ≠ w1.heap.size → (w5.setCell ⟨w1.heap.size, 0, none⟩ (.slice (some ⟨g', 0, none⟩) (pre.length + 1) cap')).heap[b]? = W.heap[b]? := fun b hb hbQ => by
                rw [Below.heap_setCell _ _ _ b hbQ, hgrow.block b (by simp; omega) (row_high hrow hb)]
                exact Below.heap_alloc _ _ _ (by omega)
              refine ⟨hk2.from _, ⟨by simp; omega, keepb p hpz hpQ, keepb q hqz hqQ⟩, ⟨_, hv2, by simpa [enc1] using hown'.kept (grownBy_setCell' w5 w1.heap.size _) (.inr hne.symm), trivial⟩, (cell_heap (keepb (w.heap.size + 1) hu4z (by have := HQ1.out; omega))).trans hu0, by simp; omega, fun y hy => ?_, by simp; omega, ?_, by simp; omega⟩
              · rcases List.mem_append.1 hy with hy | hy
                · exact HI.out.le y hy
                · simp at hy; omega
              · exact HI.out.lb.trans hb2
        case stop =>
          rintro D c pre W hD ⟨k, hk1, hk2⟩ ⟨rfl, r, x, hp, hux, hI⟩ hK
          obtain ⟨hr, hx⟩ := List.append_inj' (hp.symm.trans hk2) rfl
          simp at hx
          have hIs : IsTm o a d n u r := ⟨hI.le, hI.len, k, hr, by rw [hx] at hux; exact hux.symm⟩
          have HTM := Lib.hid (tmR_is HOK.out hIs)
          obtain ⟨v, hv, hrow, _⟩ := hI.row
          obtain ⟨va, vc, rfl⟩ := row_slice hrow
          have hc0 := hv.cell
          have hlt := hv.lt
          have HI := Lib.hid hI; have HK := Lib.hid hK; have HROW := Lib.hid hrow
          clear hI hk1 hk2 hp hux hr hx hIs hv hrow hK
          refine wpIn_wide.2 ?_
          simp only []
          go_wp2
          refine leave1 (v := .tuple #[.slice va r.length vc, .int .i64 0]) HK.out (by simp [results, Try.results26, go_sem]) ⟨_, _, _, rfl, by rw [HTM.out]; exact ownsRow_putObj (owns_mono HROW.out HN4.out) _ HK.out rfl, HI.out.lb.trans (belowK_b (w := w) (Nat.le_refl _) W D _ _ (by have := HN4.out; omega) HK.out rfl rfl)⟩
end Go.Proofs.Ytmahagcghpoekaa
namespace Go.Proofs.Ytmahagcghpoekaa
open Go.RowKit
set_option linter.unusedSimpArgs false
set_option linter.unusedVariables false
section
variable {o a d n u : Int}
theorem TmOk.grow (h : TmOk o a d n) (k : Nat) : (k : Int) + 1 ≤ xT o d n k := by
  induction k with
  | zero => have := h.x0 0; omega
  | succ k ih =>
    have hd := (vclk_iff.1 h.v).2.2
    have hn := h.n
    have := Int.mul_le_mul (a := 1) (b := 1) (c := n) (d := d) (by omega) (by omega) (by omega) (by omega)
    rw [xT_succ]; omega
theorem tm_ex (h : TmOk o a d n) (hu : 0 ≤ u) : ∃ l, IsTm o a d n u l := by
  have key : ∀ k : Nat, (∃ l, IsTm o a d n u l) ∨ ((∀ x ∈ preT o a d n k, x ≤ u) ∧ (preT o a d n k).length ≤ 40) := by
    intro k
    induction k with
    | zero => right; exact ⟨fun x hx => (by cases hx), by simp [preT]⟩
    | succ k ih =>
      rcases ih with ih | ⟨h1, h2⟩
      · exact .inl ih
      · by_cases hl : (preT o a d n k).length = 40
        · exact .inl ⟨_, h1, h2, k, rfl, .inl hl⟩
        · by_cases hx : u < atT o a d n k
          · exact .inl ⟨_, h1, h2, k, rfl, .inr hx⟩
          · right
            by_cases e : atT o a d n k = lastT o a d n k
            · rw [preT_same e]; exact ⟨h1, h2⟩
            · rw [preT_new e]
              refine ⟨fun x hx => ?_, by simp; omega⟩
              rcases List.mem_append.1 hx with hx | hx
              · exact h1 x hx
              · simp at hx; omega
  have ha := (vclk_iff.1 h.v).2.1
  rcases key (u * a).toNat with hk | ⟨h1, h2⟩
  · exact hk
  · refine ⟨_, h1, h2, _, rfl, .inr ?_⟩
    have g1 := h.grow (u * a).toNat
    have g2 := (h.ceil (u * a).toNat).1
    have hua := Int.mul_nonneg hu (show 0 ≤ a by omega)
    rcases Int.lt_or_le u (atT o a d n (u * a).toNat) with q | q
    · exact q
    · have := Int.mul_le_mul_of_nonneg_right q (show 0 ≤ a by omega)
      omega
theorem tmR_spec (h : TmOk o a d n) (hu : 0 ≤ u) : IsTm o a d n u (tmR o a d n u) := by
  obtain ⟨l, hl⟩ := tm_ex h hu
  rw [tmR_is h hl]; exact hl
theorem TmOk.first_le (h : TmOk o a d n) : ∀ k : Nat, atT o a d n 0 ≤ atT o a d n k ∧ ∀ x ∈ preT o a d n k, atT o a d n 0 ≤ x
  | 0 => ⟨Int.le_refl _, fun x hx => (by cases hx)⟩
  | k + 1 => by
    obtain ⟨h1, h2⟩ := h.first_le k
    refine ⟨Int.le_trans h1 (h.step k).1, fun x hx => ?_⟩
    by_cases e : atT o a d n k = lastT o a d n k
    · rw [preT_same e] at hx; exact h2 x hx
    · rw [preT_new e] at hx
      rcases List.mem_append.1 hx with hx | hx
      · exact h2 x hx
      · simp at hx; omega
/-- pairs without lateness -/
def zl (l : List Int) : List P2 := l.map fun x => (x, 0)
theorem allow_zl {g : Int} : ∀ (l : List Int) (least : Int), (∀ x, l[0]? = some x → least ≤ x) → (∀ (i : Nat) (x y : Int), l[i]? = some x → l[i + 1]? = some y → x + g ≤ y) → allowGo g 0 least (zl l) = true
  | [], _, _, _ => rfl
  | x :: l, least, h1, h2 => by
    have hx := h1 x rfl
    show (if x < least ∨ (0 : Int) < 0 then false else allowGo g 0 (x + g) (zl l)) = true
    rw [if_neg (by omega)]
    exact allow_zl l _ (fun y hy => h2 0 x y rfl (by simpa using hy)) (fun i y z hy hz => h2 (i + 1) y z (by simpa using hy) (by simpa using hz))
theorem tm_allow (h : TmOk o a d n) (hu : 0 ≤ u ∧ u ≤ 1000000) {l : List Int} (hl : IsTm o a d n u l) (hp : vpat (atT o a d n 0) (gapT a d n) 0 = true) : allowR (atT o a d n 0) (gapT a d n) 0 (zl l) = (true, 0) := by
  obtain ⟨k, rfl, _⟩ := hl.at_
  have hL := (h.list k).1
  have hle : listE (zl (preT o a d n k)) = 0 := by
    unfold listE
    have hany : (zl (preT o a d n k)).any farB = false := by
      rw [List.any_eq_false]
      intro x hx
      obtain ⟨y, hy, rfl⟩ := List.mem_map.1 hx
      have := hL.ge y hy; have := hl.le y hy
      unfold farB
      simp [inB]; omega
    rw [hany, if_neg (by simp), if_neg (by have := hl.len; unfold zl; simp; omega)]
  unfold allowR
  rw [if_pos hp, if_pos hle, allow_zl _ _ (fun x hx => (h.first_le k).2 x (List.mem_of_getElem? hx)) hL.gap]
end
end Go.Proofs.Ytmahagcghpoekaa
namespace Go.Proofs.Ytmahagcghpoekaa
open Go.RowKit
set_option linter.unusedSimpArgs false
set_option linter.unusedVariables false
theorem ok_of_allow {g j : Int} (hg : 0 ≤ g) : ∀ (xs : List P2) (l : Int) (p : Option Int), (∀ x ∈ xs, (0 ≤ x.1 ∧ x.1 ≤ 1000000) ∧ (0 ≤ x.2 ∧ x.2 ≤ 1000000)) → allowGo g j l xs = true → (∀ q, p = some q → q ≤ l) → okFrom p xs = true
  | [], _, _, _, _, _ => by simp [okFrom]
  | x :: xs, l, p, hb, ha, hp => by
    rw [allowGo] at ha
    split at ha
    · cases ha
    · rename_i hn
      have hx := hb x (by simp)
      rw [okFrom]
      have hgt : gtP p x.1 = true := by
        cases p with
        | none => rfl
        | some q =>
          have := hp q rfl
          unfold gtP
          simp; omega
      rw [hgt, Bool.and_true, Bool.and_eq_true, Bool.and_eq_true, inB_iff, inB_iff]
      exact ⟨hx, ok_of_allow hg xs _ _ (fun y hy => hb y (by simp [hy])) ha (fun q hq => by simp at hq; omega)⟩
theorem allow_parts {f g j : Int} {xs : List P2} (h : allowR f g j xs = (true, 0)) : vpat f g j = true ∧ listE xs = 0 ∧ allowGo g j f xs = true := by
  unfold allowR at h
  split at h
  · rename_i h1
    split at h
    · rename_i h2
      exact ⟨h1, h2, congrArg Prod.fst h⟩
    · exact absurd (congrArg Prod.fst h) (by simp)
  · exact absurd (congrArg Prod.fst h) (by simp)
theorem ev_of_allow {f g j : Int} {xs : List P2} (h : allowR f g j xs = (true, 0)) : evB xs = true := by
  obtain ⟨h1, h2, h3⟩ := allow_parts h
  obtain ⟨hf, hl⟩ := listE_zero h2
  have hv := vpat_iff.1 h1
  unfold evB
  rw [Bool.and_eq_true, decide_eq_true_eq]
  refine ⟨ok_of_allow (by omega) xs f none (fun x hx => ?_) h3 (by simp), hl⟩
  rw [List.any_eq_false] at hf
  exact farB_false (by simpa using hf x hx)
section
variable {K : List Ta} {F S : Int} {ev : List (List P2)}
def tcR (K : List Ta) (F S : Int) (ev : List (List P2)) : Rn := ⟨K, F, S, ev, List.replicate K.length 0, []⟩
theorem tc_run (hK : validL K = true) (hs : supB F S = true) (hl : ev.length = K.length) (he : ∀ i : Nat, i < K.length → allowR (taAt K i).first (taAt K i).gap (taAt K i).jit ((ev[i]?).getD []) = (true, 0)) : Go.Proofs.Ytmahagcghpoekaa.runB (tcR K F S ev) = true := by
  unfold Go.Proofs.Ytmahagcghpoekaa.runB tcR
  simp only [hK, hs, hl, List.length_replicate, decide_true, Bool.true_and, List.length_nil, List.all_nil, Bool.and_true]
  rw [Bool.and_eq_true, Bool.and_eq_true, List.all_eq_true, List.all_eq_true]
  refine ⟨by simp, fun l hm => ?_, fun b hb => ?_⟩
  · obtain ⟨i, hi⟩ := List.getElem?_of_mem hm
    have hlt := (List.getElem?_eq_some_iff.1 hi).1
    have := he i (by omega)
    rw [hi] at this
    exact ev_of_allow this
  · have := (List.mem_replicate.1 hb).2
    subst this
    exact inB_iff.2 (by omega)
theorem tc_alw (hK : validL K = true) (hs : supB F S = true) (hl : ev.length = K.length) (he : ∀ i : Nat, i < K.length → allowR (taAt K i).first (taAt K i).gap (taAt K i).jit ((ev[i]?).getD []) = (true, 0)) : alwR (tcR K F S ev) = (true, 0) := by
  unfold alwR
  rw [tc_run hK hs hl he, if_pos rfl]
  have key : ∀ f i, i + f = K.length → alwF (tcR K F S ev) f i = true := by
    intro f
    induction f with
    | zero => intro i _; rfl
    | succ f ih =>
      intro i h
      rw [alwF, if_pos]
      · exact ih (i + 1) (by omega)
      · have hi : i < K.length := by omega
        refine ⟨?_, ?_⟩
        · unfold mayB evA
          exact (allow_parts (he i hi)).2.2
        · unfold lowB buA
          show (decide (0 < ((List.replicate K.length (0 : Int))[i]?).getD 0) && _) = false
          rw [List.getElem?_replicate, if_pos hi]
          rfl
  have := key K.length 0 (by omega)
  show (alwF (tcR K F S ev) K.length 0, (0 : Int)) = (true, 0)
  rw [this]
theorem tc_meets (hK : validL K = true) (hs : supB F S = true) (ha : accB K F S = true) (hl : ev.length = K.length) (he : ∀ i : Nat, i < K.length → allowR (taAt K i).first (taAt K i).gap (taAt K i).jit ((ev[i]?).getD []) = (true, 0)) {t : Int} (ht : 0 ≤ t ∧ t ≤ 2000) : meetsR (tcR K F S ev) t = (true, 0) :=
  meets_all (tc_run hK hs hl he) ht (tc_alw hK hs hl he) ha
end
end Go.Proofs.Ytmahagcghpoekaa
namespace Go.Proofs.Ytmahagcghpoekaa
open Go.RowKit
set_option linter.unusedSimpArgs false
set_option linter.unusedVariables false
/-- what a function that makes a list of events leaves -/
def OutP (B : Nat) (w : World) (xs : List P2) (err : Int) (e : Ending) (w' : World) : Prop :=
  ∃ a n c, e = .returned (.tuple #[.slice a n c, .int .i64 err]) ∧ w'.ownsRow B 26 2 (.slice a n c) n (xs.flatMap enc2) ∧ Below B w w'
def denseL (first g : Int) (n : Nat) : List P2 := (List.range n).map fun (i : Nat) => ((first + i * g, 0) : P2)
theorem dense_step {w : World} {B n : Nat} {v : Value} {first g : Int} (h : w.ownsRow B 26 2 v (n + 1) ((denseL first g n).flatMap enc2 ++ [.int .i64 (first + n * g), .int .i64 0])) :
    w.ownsRow B 26 2 v (n + 1) ((denseL first g (n + 1)).flatMap enc2) := by
  have : denseL first g (n + 1) = denseL first g n ++ [(first + n * g, 0)] := by simp [denseL, List.range_succ]
  rw [this, List.flatMap_append]; exact h
def denseC (f g j n : Int) : Bool := vpat f g j && inB n 0 40
theorem densest_any (f g j n : Int) (w : World) : Calls Try.prog 27 #[patV f g j, .int .i64 n] w (OutP w.heap.size w (if denseC f g j n then denseL f g n.toNat else []) (if denseC f g j n then 0 else 1)) := by
  by_cases h : denseC f g j n = true
  · rw [if_pos h, if_pos h]
    simp only [denseC, Bool.and_eq_true, inB_iff] at h
    obtain ⟨h1, h2, h3⟩ := h
    obtain ⟨m, rfl⟩ := Int.eq_ofNat_of_zero_le h2
    rw [Int.toNat_natCast]
    obtain ⟨k1, k2, k3⟩ := vpat_iff.1 h1
    have hin : inB (m : Int) 0 40 = true := inB_iff.2 (by omega)
    have e2 := EB
    go_enter Try.func27, Try.ntmps27
    go_wp2_with (first | (go_at_call 54; refine (within_any _ _ _ _).mono ?_; rintro e w1 ⟨rfl, rfl⟩) | (go_at_call 56; refine (valid_any _ _ _ _).mono ?_; rintro e w1 ⟨rfl, hb1⟩; obtain ⟨hc1, hf1, hz1, hr1⟩ := bfacts hb1; (try simp only [World.size_alloc, World.size_setCell, World.size_drew, World.size_drewN] at hz1 hr1); (try have hw0 : w.heap.size < w1.heap.size := by omega); (try have hw1 : w.heap.size + 1 < w1.heap.size := by omega); (try have hw2 : w.heap.size + 1 + 1 < w1.heap.size := by omega)))
    go_loopw [6, 17] (fun v i wr => ∃ (n : Nat) (a : Option Addr) (c : Nat), n ≤ m ∧ i = .int .i64 n ∧ v = .slice a n c ∧ wr.ownsRow (w.heap.size + 1) 26 2 (.slice a n c) n ((denseL f g n).flatMap enc2) ∧ wr.cell? ⟨w.heap.size, 0, none⟩ = some (.int .i64 f) ∧ wr.cell? ⟨w.heap.size, 1, none⟩ = some (.int .i64 g) ∧ w.heap.size + 1 ≤ wr.heap.size ∧ Below w.heap.size w wr) (fun _ i _ => m - (intOf i).toNat)
    case atStart => exact ⟨0, none, 0, Nat.zero_le _, rfl, rfl, World.ownsRow_nil _ _ _ _, by rw [hc1 _ _ (by simp)]; simp [go_sem], by rw [hc1 _ _ (by simp)]; simp [go_sem], hw0, by (repeat' (first | (with_reducible exact Below.refl _ _) | (with_reducible assumption) | (with_reducible refine Below.alloc ?_ ?_ _) | (with_reducible refine Below.drew ?_) | (with_reducible refine Below.draws ?_ _) | (with_reducible refine Below.setCell ?_ ?_ _) | (refine Below.then ?_ (by with_reducible assumption)) | go_size))⟩
    case round =>
      obtain ⟨n, a, c, hn, rfl, rfl, hown, hg0, hg, hz, hB⟩ := hrel
      have HO := Lib.hid hown; clear hown
      have HB := Lib.hid hB; clear hB
      by_cases hlt : n < m
      · obtain ⟨q1, q2⟩ := mul_bd (a := (n : Int)) (m := 40) (by omega) (by omega) (b := g) (k := 10000) (by omega) (by omega)
        go_wp2_with (at_builtin; refine wpList_push rfl _ _ _ rfl e2 rfl HO.out rfl rfl (by intro u hu; simp at hu; rcases hu with rfl | rfl <;> rfl) (by omega) (by decide) (by omega) ?_; intro a' c' w2 hown' hb1; have HO' := Lib.hid hown'; have HB' := Lib.hid hb1; have hg3 := (hb1.cell (p := ⟨w.heap.size, 0, none⟩) (by simp)).trans hg0; have hg2 := (hb1.cell (p := ⟨w.heap.size, 1, none⟩) (by simp)).trans hg; have hz2 := hb1.size; clear hown' hb1)
        go_roundw
        case rel => exact ⟨n + 1, a', c', by omega, by go_num, rfl, dense_step HO'.out, hg3, hg2, by omega, HB.out.trans (HB'.out.mono (by omega))⟩
        case measure => simp [intOf]; omega
      · obtain rfl : n = m := by omega
        go_wp2
        go_ret2
        exact ⟨a, n, c, rfl, owns_mono HO.out (Nat.le_succ _), HB.out⟩
  · rw [if_neg h, if_neg h]
    have H := Lib.hid h; clear h
    go_enter Try.func27, Try.ntmps27
    go_wp2_with (first | (go_at_call 54; refine (within_any _ _ _ _).mono ?_; rintro e w1 ⟨rfl, rfl⟩) | (go_at_call 56; refine (valid_any _ _ _ _).mono ?_; rintro e w1 ⟨rfl, hb1⟩; obtain ⟨hc1, hf1, hz1, hr1⟩ := bfacts hb1; (try simp only [World.size_alloc, World.size_setCell, World.size_drew, World.size_drewN] at hz1 hr1); (try have hw0 : w.heap.size < w1.heap.size := by omega); (try have hw1 : w.heap.size + 1 < w1.heap.size := by omega); (try have hw2 : w.heap.size + 1 + 1 < w1.heap.size := by omega)) | (go_prune; fail))
    all_goals first | (exfalso; apply H.out; simp only [denseC, Bool.and_eq_true]; simp_all; done) | (go_ret2; exact ⟨none, 0, 0, rfl, World.ownsRow_nil _ _ _ _, by (repeat' (first | (with_reducible exact Below.refl _ _) | (with_reducible assumption) | (with_reducible refine Below.alloc ?_ ?_ _) | (with_reducible refine Below.drew ?_) | (with_reducible refine Below.draws ?_ _) | (with_reducible refine Below.setCell ?_ ?_ _) | (refine Below.then ?_ (by with_reducible assumption)) | go_size))⟩)
theorem allowGo_range (g j : Int) (hj : 0 ≤ j) (F : Nat → Int) (hF : ∀ i : Nat, F i ≤ j) : ∀ (m : Nat) (k : Nat) (first l : Int), l ≤ first + k * g →
    allowGo g j l ((List.range' k m).map fun (i : Nat) => ((first + i * g, F i) : P2)) = true
  | 0, _, _, _, _ => rfl
  | m + 1, k, first, l, hl => by
    rw [List.range'_succ, List.map_cons, allowGo, if_neg (by have := hF k; omega)]
    refine allowGo_range g j hj F hF m (k + 1) first _ ?_
    rw [Int.natCast_add, Int.add_mul]; omega
theorem listE_of {xs : List P2} (h : ∀ x ∈ xs, (0 ≤ x.1 ∧ x.1 ≤ 1000000) ∧ (0 ≤ x.2 ∧ x.2 ≤ 1000000)) (hl : xs.length ≤ 40) : listE xs = 0 := by
  have h1 : xs.any farB = false := by
    rw [List.any_eq_false]
    intro x hx
    obtain ⟨q1, q2⟩ := h x hx
    simp [farB, inB_iff.2 q1, inB_iff.2 q2]
  rw [listE, h1, if_neg (by simp), if_neg (by omega)]
theorem dense_ok {f g j : Int} {m : Nat} (hv : vpat f g j = true) (hm : m ≤ 40) : allowR f g j (denseL f g m) = (true, 0) := by
  obtain ⟨k1, k2, k3⟩ := vpat_iff.1 hv
  have h1 : listE (denseL f g m) = 0 := by
    refine listE_of (fun x hx => ?_) (by simp [denseL]; omega)
    simp only [denseL, List.mem_map, List.mem_range] at hx
    obtain ⟨i, hi, rfl⟩ := hx
    obtain ⟨q1, q2⟩ := mul_bd (a := (i : Int)) (m := 40) (by omega) (by omega) (b := g) (k := 10000) (by omega) (by omega)
    exact ⟨⟨by simp only []; omega, by simp only []; omega⟩, by simp⟩
  rw [allowR, if_pos hv, if_pos h1]
  have := allowGo_range g j (by omega) (fun _ => 0) (fun _ => by omega) m 0 f f (by simp)
  rw [denseL, List.range_eq_range']
  exact congrArg (fun b => (b, (0 : Int))) this
end Go.Proofs.Ytmahagcghpoekaa
namespace Go.Proofs.Ytmahagcghpoekaa
open Go.RowKit
set_option linter.unusedSimpArgs false
set_option linter.unusedVariables false
theorem owns_heap {w w' : World} {B e k n c q : Nat} {xs : List Value} (h : w.ownsRow B e k (.slice (some ⟨q, 0, none⟩) n c) n xs) (hq : w'.heap[q]? = w.heap[q]?) : w'.ownsRow B e k (.slice (some ⟨q, 0, none⟩) n c) n xs := by
  obtain ⟨hl, h7⟩ := h
  refine ⟨hl, ?_⟩
  rcases h7 with h8 | ⟨g, cap, cur, hv, hB, hg, rest⟩
  · exact .inl h8
  · have e : q = g := by simp at hv; exact hv.1
    subst e
    exact .inr ⟨q, cap, cur, hv, hB, hq.trans hg, rest⟩
theorem tasks_pat {w : World} {B q n c : Nat} {g : List TaV} (h : w.ownsRow B 72 6 (.slice (some ⟨q, 0, none⟩) n c) n (g.flatMap encTa)) {t : TaV} (ht : g[0]? = some t) (f ga ji : Int) :
    (((w.setCell ⟨q, 2, none⟩ (.int .i64 f)).setCell ⟨q, 3, none⟩ (.int .i64 ga)).setCell ⟨q, 4, none⟩ (.int .i64 ji)).ownsRow B 72 6 (.slice (some ⟨q, 0, none⟩) n c) n ((g.set 0 { t with first := f, gap := ga, jit := ji }).flatMap encTa) := by
  have h1 := (h.stored (0 * 6 + 2) (.int .i64 f)).1
  rw [flat_set encTa_len g 0 2 t { t with first := f } _ ht (by omega) rfl] at h1
  have t1 : (g.set 0 { t with first := f })[0]? = some { t with first := f } := by rw [List.getElem?_set_self (List.getElem?_eq_some_iff.1 ht).1]
  have h2 := (h1.stored (0 * 6 + 3) (.int .i64 ga)).1
  rw [flat_set encTa_len _ 0 3 _ { t with first := f, gap := ga } _ t1 (by omega) rfl, List.set_set] at h2
  have t2 : (g.set 0 { t with first := f, gap := ga })[0]? = some { t with first := f, gap := ga } := by rw [List.getElem?_set_self (List.getElem?_eq_some_iff.1 ht).1]
  have h3 := (h2.stored (0 * 6 + 4) (.int .i64 ji)).1
  rw [flat_set encTa_len _ 0 4 _ { t with first := f, gap := ga, jit := ji } _ t2 (by omega) rfl, List.set_set] at h3
  exact h3
/-- what is fixed: where the boxes lie -/
structure TcP where
  w4 : World
  B1 : Nat
  p : Nat
  E : Nat
  Bb : Nat
  tq : Nat
  m : Nat
  tc : Nat
  F : Int
  S : Int
  g : List TaV
structure TcL (P : TcP) : Prop where
  p : P.w4.heap.size ≤ P.p ∧ P.p < P.B1
  E : P.w4.heap.size ≤ P.E ∧ P.E < P.B1
  b : P.w4.heap.size ≤ P.Bb ∧ P.Bb < P.B1
  q : P.w4.heap.size ≤ P.tq ∧ P.tq < P.B1
  ne : P.p ≠ P.E ∧ P.Bb ≠ P.E ∧ P.tq ≠ P.E
structure TcM (P : TcP) (wr : World) (vs : Nat → Value) : Prop where
  bp : Blk wr P.p #[.slice (some ⟨P.tq, 0, none⟩) P.m P.tc, .int .i64 P.F, .int .i64 P.S, .slice (some ⟨P.E, 0, none⟩) P.m P.m, .slice (some ⟨P.Bb, 0, none⟩) P.m P.m, .slice none 0 0]
  bb : Blk wr P.Bb (madeCells #[.int .i64 0] P.m)
  be : ∀ i, i < P.m → wr.cell? ⟨P.E, i, none⟩ = some (vs i)
  fe : ∀ j, wr.frozen? ⟨P.E, j, none⟩ = false
  ez : P.E < wr.heap.size
  tk : wr.ownsRow P.w4.heap.size 72 6 (.slice (some ⟨P.tq, 0, none⟩) P.m P.tc) P.m (P.g.flatMap encTa)
  lb : Below P.w4.heap.size P.w4 wr
  z : P.B1 ≤ wr.heap.size
theorem Blk.at_heap {w w' : World} {b : Nat} {cs : Array Value} (h : Blk w b cs) (hq : w'.heap[b]? = w.heap[b]?) (hz : w.heap.size ≤ w'.heap.size) : Blk w' b cs :=
  ⟨fun i => (World.cell?_of_block hq).trans (h.c i), fun i => (World.frozen?_of_block hq).trans (h.f i), Nat.lt_of_lt_of_le h.l hz⟩
theorem TcM.ext {P : TcP} (hl : TcL P) {w w' : World} {vs : Nat → Value} (h : TcM P w vs) (hb : Below P.B1 w w') : TcM P w' vs := by
  have hz := hb.size
  have hk : ∀ b, b < P.B1 → w'.heap[b]? = w.heap[b]? := fun b hlt => hb.block b hlt
  exact ⟨h.bp.at_heap (hk _ hl.p.2) hz, h.bb.at_heap (hk _ hl.b.2) hz, fun i hi => (World.cell?_of_block (hk _ hl.E.2)).trans (h.be i hi), fun j => (World.frozen?_of_block (hk _ hl.E.2)).trans (h.fe j), Nat.lt_of_lt_of_le h.ez hz, owns_heap h.tk (hk _ hl.q.2), h.lb.trans (hb.mono (by have := hl.p; omega)), Nat.le_trans h.z hz⟩
/-- a row of events is laid -/
theorem TcM.set {P : TcP} (hl : TcL P) {w : World} {vs : Nat → Value} (h : TcM P w vs) {i : Nat} (hi : i < P.m) (v : Value) : TcM P (w.setCell ⟨P.E, i, none⟩ v) (fun j => if j = i then v else vs j) := by
  have hk : ∀ b, b ≠ P.E → (w.setCell ⟨P.E, i, none⟩ v).heap[b]? = w.heap[b]? := fun b hb => Below.heap_setCell _ _ _ b hb
  have hz : w.heap.size ≤ (w.setCell ⟨P.E, i, none⟩ v).heap.size := by simp
  refine ⟨h.bp.at_heap (hk _ hl.ne.1) hz, h.bb.at_heap (hk _ hl.ne.2.1) hz, fun j hj => ?_, fun j => by rw [World.frozen?_setCell]; exact h.fe j, by simpa using h.ez, owns_heap h.tk (hk _ hl.ne.2.2), h.lb.setCell (p := ⟨P.E, i, none⟩) hl.E.1 _, by simpa using h.z⟩
  by_cases e : j = i
  · subst e
    rw [if_pos rfl]; exact World.cell?_setCell_same _ _ _ (h.be j hj)
  · rw [if_neg e]
    exact (World.cell?_setCell_other _ _ _ _ (addr_neT (.inr (fun q => e q.symm)))).trans (h.be j hj)
end Go.Proofs.Ytmahagcghpoekaa
namespace Go.Proofs.Ytmahagcghpoekaa
open Go.RowKit
set_option linter.unusedSimpArgs false
set_option linter.unusedVariables false
theorem TcM.start {w4 wc w8 : World} {p E Bb tq m c8 : Nat} {F S A G : Int} {g : List TaV} {t0 : TaV}
    (kp : Blk wc p #[.slice none 0 0, .int .i64 F, .int .i64 S, .slice (some ⟨E, 0, none⟩) m m, .slice (some ⟨Bb, 0, none⟩) m m, .slice none 0 0]) (kE : Blk wc E (madeCells #[.slice none 0 0] m)) (kB : Blk wc Bb (madeCells #[.int .i64 0] m))
    (p1 : w4.heap.size ≤ p) (p2 : w4.heap.size ≤ E) (p3 : w4.heap.size ≤ Bb) (p4 : p ≠ E ∧ p ≠ Bb ∧ E ≠ Bb) (hb : Below w4.heap.size w4 wc) (h8 : Below wc.heap.size wc w8)
    (ho : w8.ownsRow wc.heap.size 72 6 (.slice (some ⟨tq, 0, none⟩) m c8) m (g.flatMap encTa)) (hq1 : wc.heap.size ≤ tq) (hq2 : tq < w8.heap.size) (ht : g[0]? = some t0) :
    TcL ⟨w4, w8.heap.size, p, E, Bb, tq, m, c8, F, S, g.set 0 { t0 with first := A, gap := G, jit := 0 }⟩ ∧
    TcM ⟨w4, w8.heap.size, p, E, Bb, tq, m, c8, F, S, g.set 0 { t0 with first := A, gap := G, jit := 0 }⟩ ((((w8.setCell ⟨p, 0, none⟩ (.slice (some ⟨tq, 0, none⟩) m c8)).setCell ⟨tq, 2, none⟩ (.int .i64 A)).setCell ⟨tq, 3, none⟩ (.int .i64 G)).setCell ⟨tq, 4, none⟩ (.int .i64 0)) (fun _ => .slice none 0 0) := by
  have z1 := kp.l; have z2 := kE.l; have z3 := kB.l; have z8 := h8.size; have z4 := hb.size
  have hset : ∀ b, b ≠ p → b ≠ tq → ((((w8.setCell ⟨p, 0, none⟩ (.slice (some ⟨tq, 0, none⟩) m c8)).setCell ⟨tq, 2, none⟩ (.int .i64 A)).setCell ⟨tq, 3, none⟩ (.int .i64 G)).setCell ⟨tq, 4, none⟩ (.int .i64 0)).heap[b]? = w8.heap[b]? := fun b h1 h2 => by
    rw [Below.heap_setCell _ _ _ b h2, Below.heap_setCell _ _ _ b h2, Below.heap_setCell _ _ _ b h2, Below.heap_setCell _ _ _ b h1]
  have hz : ((((w8.setCell ⟨p, 0, none⟩ (.slice (some ⟨tq, 0, none⟩) m c8)).setCell ⟨tq, 2, none⟩ (.int .i64 A)).setCell ⟨tq, 3, none⟩ (.int .i64 G)).setCell ⟨tq, 4, none⟩ (.int .i64 0)).heap.size = w8.heap.size := by simp
  have hp8 : Blk w8 p _ := kp.at_heap (h8.block p z1) z8
  have hE8 : Blk w8 E _ := kE.at_heap (h8.block E z2) z8
  have hB8 : Blk w8 Bb _ := kB.at_heap (h8.block Bb z3) z8
  have hp9 : Blk (w8.setCell ⟨p, 0, none⟩ (.slice (some ⟨tq, 0, none⟩) m c8)) p #[.slice (some ⟨tq, 0, none⟩) m c8, .int .i64 F, .int .i64 S, .slice (some ⟨E, 0, none⟩) m m, .slice (some ⟨Bb, 0, none⟩) m m, .slice none 0 0] := by
    refine ⟨fun i => ?_, fun i => by rw [World.frozen?_setCell]; exact hp8.f i, by simpa using hp8.l⟩
    cases i with
    | zero => exact World.cell?_setCell_same _ _ _ (hp8.c 0)
    | succ i =>
      refine (World.cell?_setCell_other _ _ _ _ (addr_neT (.inr (by omega)))).trans ((hp8.c (i + 1)).trans ?_)
      cases i with
      | zero => rfl
      | succ i => cases i with
        | zero => rfl
        | succ i => cases i with
          | zero => rfl
          | succ i => cases i with
            | zero => rfl
            | succ i => cases i with
              | zero => rfl
              | succ i => simp
  have hL : w4.heap.size ≤ tq := by omega
  refine ⟨⟨⟨p1, by show p < w8.heap.size; omega⟩, ⟨p2, by show E < w8.heap.size; omega⟩, ⟨p3, by show Bb < w8.heap.size; omega⟩, ⟨hL, hq2⟩, p4.1, fun q => p4.2.2 q.symm, fun (q : tq = E) => by omega⟩, ?_⟩
  have hE9 : Blk _ E _ := hE8.at_heap (hset E (fun q => p4.1 q.symm) (by omega)) (Nat.le_of_eq hz.symm)
  refine ⟨?_, hB8.at_heap (hset Bb (fun q => p4.2.1 q.symm) (by omega)) (Nat.le_of_eq hz.symm), fun i hi => (hE9.c i).trans (made_one _ m i hi), hE9.f, hE9.l, ?_, ?_, Nat.le_of_eq hz.symm⟩
  · refine hp9.at_heap ?_ (by simp)
    have hn : p ≠ tq := by omega
    show ((((w8.setCell ⟨p, 0, none⟩ (.slice (some ⟨tq, 0, none⟩) m c8)).setCell ⟨tq, 2, none⟩ (.int .i64 A)).setCell ⟨tq, 3, none⟩ (.int .i64 G)).setCell ⟨tq, 4, none⟩ (.int .i64 0)).heap[p]? = _
    rw [Below.heap_setCell _ _ _ p hn, Below.heap_setCell _ _ _ p hn, Below.heap_setCell _ _ _ p hn]
  · exact tasks_pat (owns_mono (owns_far ho z1 _) z4) ht A G 0
  · exact ((((hb.trans (h8.mono z4)).setCell (p := ⟨p, 0, none⟩) p1 _).setCell (p := ⟨tq, 2, none⟩) hL _).setCell (p := ⟨tq, 3, none⟩) hL _).setCell (p := ⟨tq, 4, none⟩) hL _
/-- the events that are laid for a later task -/
def evI (t : Ta) : List P2 := if denseC t.first t.gap t.jit 10 = true then denseL t.first t.gap 10 else []
theorem TcM.congr {P : TcP} {w : World} {vs vs' : Nat → Value} (h : TcM P w vs) (e : ∀ i, i < P.m → vs i = vs' i) : TcM P w vs' :=
  ⟨h.bp, h.bb, fun i hi => (h.be i hi).trans (by rw [e i hi]), h.fe, h.ez, h.tk, h.lb, h.z⟩
/-- the rows of events -/
structure TcE (P : TcP) (w : World) (r : Nat → EvV) : Prop where
  m : TcM P w (fun i => .slice (r i).a (r i).n (r i).c)
  o : ∀ i, i < P.m → w.ownsRow P.B1 26 2 (.slice (r i).a (r i).n (r i).c) (r i).n ((r i).es.flatMap enc2)
theorem TcE.ext {P : TcP} (hl : TcL P) {w w' : World} {r : Nat → EvV} (h : TcE P w r) (hb : Below w.heap.size w w') : TcE P w' r :=
  ⟨h.m.ext hl (hb.mono h.m.z), fun i hi => owns_ext (h.o i hi) hb⟩
theorem TcE.set {P : TcP} (hl : TcL P) {w : World} {r : Nat → EvV} (h : TcE P w r) {i : Nat} (hi : i < P.m) (v : EvV) (hv : w.ownsRow P.B1 26 2 (.slice v.a v.n v.c) v.n (v.es.flatMap enc2)) : TcE P (w.setCell ⟨P.E, i, none⟩ (.slice v.a v.n v.c)) (fun j => if j = i then v else r j) := by
  refine ⟨(h.m.set hl hi _).congr fun j _ => ?_, fun j hj => ?_⟩
  · by_cases e : j = i
    · simp only [if_pos e]
    · simp only [if_neg e]
  · by_cases e : j = i
    · simp only [if_pos e]; exact owns_far hv hl.E.2 _
    · simp only [if_neg e]; exact owns_far (h.o j hj) hl.E.2 _
/-- a row is appended to, in place or not; the others are empty -/
theorem TcE.app {P : TcP} (hl : TcL P) {w w' : World} {r : Nat → EvV} (h : TcE P w r) {i : Nat} (hi : i < P.m) (hn : ∀ j, j ≠ i → r j = ⟨none, 0, 0, []⟩) (hb : Below P.B1 w w') (v : EvV) (hv : w'.ownsRow P.B1 26 2 (.slice v.a v.n v.c) v.n (v.es.flatMap enc2)) : TcE P (w'.setCell ⟨P.E, i, none⟩ (.slice v.a v.n v.c)) (fun j => if j = i then v else r j) := by
  refine ⟨((h.m.ext hl hb).set hl hi _).congr fun j _ => ?_, fun j hj => ?_⟩
  · by_cases e : j = i
    · simp only [if_pos e]
    · simp only [if_neg e]
  · by_cases e : j = i
    · simp only [if_pos e]; exact owns_far hv hl.E.2 _
    · simp only [if_neg e]; rw [hn j e]; exact World.ownsRow_nil _ _ _ _
/-- the moment's row: what append needs -/
theorem TcE.below {P : TcP} {w wx w' : World} {r : Nat → EvV} (h : TcE P w r) {i : Nat} (hi : i < P.m) (hx : Below w.heap.size w wx) (hg : wx.grownBy w' (Value.slice (r i).a (r i).n (r i).c).ownBlock) : Below P.B1 w w' :=
  (hx.mono h.m.z).grown hg (Nat.le_trans h.m.z hx.size) (fun j hj => ((h.o i hi).lt j hj).1)
/-- it reads as a run -/
theorem TcE.run {P : TcP} (hl : TcL P) {w : World} {r : Nat → EvV} (h : TcE P w r) (hm : P.m ≤ 1000) (hg : ∀ t ∈ P.g, t.ok P.w4) :
    ReadRun w ⟨some ⟨P.tq, 0, none⟩, P.m, P.tc, some ⟨P.E, 0, none⟩, P.m, P.m, some ⟨P.Bb, 0, none⟩, P.m, P.m, none, 0, 0⟩ (tcR (P.g.map TaV.ta) P.F P.S ((List.range P.m).map fun i => (r i).es)) := by
  have hk : RdT w (some ⟨P.tq, 0, none⟩) P.m P.g := ⟨Rd.of_owns encTa_len (by decide) h.m.tk, fun t ht => (hg t ht).ext h.m.lb⟩
  have hln := hk.length
  refine ⟨hk.rdL, ⟨(List.range P.m).map r, ⟨by simp, by show P.m ≤ _; omega, fun _ => ⟨P.E, 0, rfl, h.m.ez, fun i hi j hj => ?_⟩⟩, fun v hv => ?_, ?_⟩, ⟨?_, by show P.m ≤ _; omega, fun _ => ⟨P.Bb, 0, rfl, h.m.bb.l, fun i hi j hj => ?_⟩⟩, Rd.nil _ _ _⟩
  · obtain rfl : j = 0 := by omega
    have hi2 : i < P.m := by simpa using hi
    have := h.m.be i hi2
    simpa [encV] using this
  · obtain ⟨i, hi, rfl⟩ := List.mem_map.1 hv
    exact Rd.of_owns enc2_len (by decide) (h.o i (List.mem_range.1 hi))
  · show _ = (List.range P.m).map fun i => (r i).es
    rw [List.map_map]; rfl
  · show ((List.replicate (P.g.map TaV.ta).length (0 : Int)).map enc1).length = P.m
    simp [hln]
  · obtain rfl : j = 0 := by omega
    have hi2 : i < P.m := by simpa [tcR, hln] using hi
    have := (h.m.bb.c i).trans (made_one _ P.m i hi2)
    simpa [tcR, enc1] using this
theorem zl_take (ms : List Int) (k : Nat) (hk : k < ms.length) : zl (ms.take (k + 1)) = zl (ms.take k) ++ [(ms[k], 0)] := by
  unfold zl
  rw [List.take_succ_eq_append_getElem hk, List.map_append]; rfl
/-- every list of events is allowed -/
theorem tc_ok {g : List TaV} {t0 : TaV} {A G : Int} {ms : List Int} {m : Nat} {r : Nat → EvV} (hm : g.length = m) (h0 : g[0]? = some t0) (hal : allowR A G 0 (zl ms) = (true, 0)) (hr0 : (r 0).es = zl ms)
    (hr : ∀ x, 1 ≤ x → x < m → (r x).es = evI (taAt (g.map TaV.ta) x)) (hv : validL ((g.set 0 { t0 with first := A, gap := G, jit := 0 }).map TaV.ta) = true) :
    ∀ i : Nat, i < ((g.set 0 { t0 with first := A, gap := G, jit := 0 }).map TaV.ta).length → allowR (taAt ((g.set 0 { t0 with first := A, gap := G, jit := 0 }).map TaV.ta) i).first (taAt ((g.set 0 { t0 with first := A, gap := G, jit := 0 }).map TaV.ta) i).gap (taAt ((g.set 0 { t0 with first := A, gap := G, jit := 0 }).map TaV.ta) i).jit ((((List.range m).map fun i => (r i).es)[i]?).getD []) = (true, 0) := by
  intro i hi
  have him : i < m := by simpa [hm] using hi
  have e1 : ((((List.range m).map fun i => (r i).es)[i]?).getD []) = (r i).es := by rw [List.getElem?_map, List.getElem?_range him]; rfl
  rw [e1]
  by_cases e : i = 0
  · subst e
    have : taAt ((g.set 0 { t0 with first := A, gap := G, jit := 0 }).map TaV.ta) ((0 : Nat) : Int) = TaV.ta { t0 with first := A, gap := G, jit := 0 } := taAt_of (by rw [List.getElem?_map, List.getElem?_set_self (by omega)]; rfl)
    rw [this, hr0]; exact hal
  · have hmem := taAt_mem hi
    have e2 : taAt ((g.set 0 { t0 with first := A, gap := G, jit := 0 }).map TaV.ta) (i : Int) = taAt (g.map TaV.ta) i := by
      unfold taAt
      rw [List.getElem?_map, List.getElem?_map, List.getElem?_set_ne (by simpa using Ne.symm e)]
    unfold validL at hv
    rw [Bool.and_eq_true, List.all_eq_true] at hv
    have hp := hv.2 _ hmem
    rw [e2] at hp ⊢
    unfold patB at hp
    rw [Bool.and_eq_true] at hp
    rw [hr i (by omega) him]
    unfold evI denseC
    rw [hp.1, if_pos (by decide)]
    exact dense_ok hp.1 (by decide)
end Go.Proofs.Ytmahagcghpoekaa
