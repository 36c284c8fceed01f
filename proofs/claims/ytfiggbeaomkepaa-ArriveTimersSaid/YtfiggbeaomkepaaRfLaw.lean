/- A range over an iterator that never ends by itself: the iterator is told of the loop's invariant. No condition beyond those named. -/
import Derived.RangeFuncNested
import Derived.RangeFuncBound
import Derived.RangeFuncCalls
import Derived.RangeFuncLeaves
import Derived.Test.YtfiggbeaomkepaaBase
namespace Go.Proofs.Ytfiggbeaomkepaa
open Go.RowKit
set_option linter.unusedSimpArgs false
set_option linter.unusedVariables false
/-- how a round may be left: it goes on, or it breaks off -/
def toldPost {α : Type} (B : Nat) (Kp : World → World → Prop) (I : List α → World → Prop) (X : Code → List α → World → Prop) (xs : List α) (W : World) : Exit → Act → World → Prop
  | .normal, _, W' => KeepsFrom B W W' ∧ Kp W W' ∧ I xs W'
  | .exit id, _, W' => KeepsFrom B W W' ∧ X (.exit id) xs W'
  | _, _, _ => False
/-- what the iterator owes, told that J implies I -/
def Told {α : Type} (F : Fence) (n : Nat) (P : Program) (gf : Nat) (lb : Array Value) (encs : α → Array Value) (Kp : World → World → Prop) (I : List α → World → Prop) (Sp : List α → Prop) (w : World) : Prop :=
  ∀ (l : Nat) (J Jx : List α → World → Prop) (W : World), Below w.heap.size w W → (∀ pre V, J pre V → I pre V) → AbidesFrom W.heap.size J →
    (∀ pre x V, J pre V → YieldAt F (n - 1) P l (encs x) V fun e V' => (e = .returned (.bool true) ∧ J (pre ++ [x]) V' ∧ Kp V V') ∨ (e = .returned (.bool false) ∧ Jx (pre ++ [x]) V')) →
    J [] W → CallsIn F n P gf (#[.func (.yield l) #[] #[]] ++ lb) W fun e V => (∃ v, e = .returned v) ∧ ∃ pre, Sp pre ∧ Jx pre V
/-- the two blocks that the statement lays: the rounds' deferred calls, and the loop's record -/
structure Laid2 (b : Nat) (r : Loop) (W : World) : Prop where
  d : W.heap[b]? = some (.deferred (some []))
  l : W.heap[b + 1]? = some (.loop r)
theorem Laid2.lt {b : Nat} {r : Loop} {W : World} (h : Laid2 b r W) : b + 1 < W.heap.size := (Array.getElem?_eq_some_iff.1 h.l).1
theorem Laid2.put {b : Nat} {r r' : Loop} {W : World} (h : Laid2 b r W) : Laid2 b r' (W.putObj (b + 1) (.loop r')) :=
  ⟨(World.putObj_heap_other (by omega)).trans h.d, World.putObj_heap_same h.lt⟩
theorem Laid2.kept {b : Nat} {r : Loop} {W W' : World} (h : Laid2 b r W) (k : KeepsFrom b W W') : Laid2 b r W' :=
  ⟨k.same b _ (Nat.le_refl _) h.d rfl, k.same (b + 1) _ (by omega) h.l rfl⟩
theorem Laid2.walked {b : Nat} {r : Loop} {W W' : World} {row : Option Nat} (h : Laid2 b r W) (hg : W.grownBy W' row) (hr : ∀ x, row = some x → ∃ o : Obj, W.heap[x]? = some o ∧ o.isWalk = true) : Laid2 b r W' :=
  ⟨(grownBy_keeps hg hr h.d rfl).trans h.d, (grownBy_keeps hg hr h.l rfl).trans h.l⟩
section
variable {F : Fence} {n : Nat} {P : Program}
theorem wpIn_told {α : Type} {g : Operand} {ps : Array Tmp} {assign body : Code} {Q : Exit → Act → World → Prop} {a : Act} {w : World}
    (hro : F.round = none) (h1 : 1 ≤ n) {gf : Nat} {lb : Array Value} (hg : a.eval g = .func (.func gf) #[] lb) (hFg : F.fn gf) (eg : ∀ args w, (callFunc gf args).run P w = .ok (.enter gf args) w)
    {encs : α → Array Value} (hps : ∀ x, (encs x).size = ps.size) {Kp : World → World → Prop} (hKt : ∀ {A B C : World}, Kp A B → Kp B C → Kp A C) (hKb : ∀ (W : World) (l : Nat) (o o' : Obj), w.heap.size ≤ l → W.heap[l]? = some o → o.isCells = false → Kp W (W.putObj l o'))
    (I : List α → World → Prop) (X : Code → List α → World → Prop) (hI : OwnFrom w.heap.size I) (hX : ∀ c, OwnFrom w.heap.size (X c)) (h0 : I [] w)
    {Sp : List α → Prop} (hit : Told F (n - 1) P gf lb encs Kp I Sp w) (a₁ : α → Act)
    (hassign : ∀ (l : Nat) (x : α) (W : World) (K : Act → World → Prop), K (a₁ x) W →
      assign.wpIn (F.inRound l) (n - 1 - 1) P (Exit.then K (fun _ _ _ => False)) { tmps := (ps.zip (encs x)).foldl (fun t (p, v) => t.setIfInBounds p v) a.tmps, defers := [] } W)
    (hbody : ∀ (l : Nat) (pre : List α) (x : α) (W : World), I pre W → body.wpIn (F.inRound l) (n - 1 - 1) P (toldPost w.heap.size Kp I X (pre ++ [x]) W) (a₁ x) W)
    (hstop : ∀ (D : Nat) (c : Code) (pre : List α) (W : World), w.heap.size ≤ D → Sp pre → X c pre W → W.heap[D]? = some (.deferred (some [])) → c.wpIn F n P Q { a with defers := { target := .collected D, args := #[] } :: a.defers } W) :
    (Code.rangeFunc g ps assign body).wpIn F n P Q a w := by
  refine wpIn_rangeFunc (fun fn hfn => ?_)
  rw [hro]
  obtain ⟨R, hR⟩ : ∃ R : LoopState → Option Code → Loop, R = fun s j => { state := s, pending := j, fn, tmps := a.tmps, params := ps, assign, body, defers := w.heap.size } := ⟨_, rfl⟩
  have hput : ∀ (s s' : LoopState) (j j' : Option Code), ({ R s j with state := s', pending := j' } : Loop) = R s' j' := fun s s' j j' => by rw [hR]
  have hput2 : ∀ (s s' : LoopState) (j : Option Code), ({ R s j with state := s' } : Loop) = R s' j := fun s s' j => by rw [hR]
  obtain ⟨V, hV⟩ : ∃ V, (w.alloc (.deferred (some []))).alloc (.loop (R .ready none)) = V := ⟨_, rfl⟩
  have hbV : Below w.heap.size w V := by rw [← hV]; exact ((Below.refl _ w).alloc (Nat.le_refl _) _).alloc (by simp) _
  have hLV : Laid2 w.heap.size (R .ready none) V := by
    rw [← hV]
    refine ⟨(Below.heap_alloc _ _ _ (by simp)).trans (World.alloc_heap_new w _), ?_⟩
    have := World.alloc_heap_new (w.alloc (.deferred (some []))) (.loop (R .ready none))
    rwa [World.size_alloc] at this
  have hIV : I [] V := by rw [← hV]; exact hI.alloc _ (hI.alloc _ h0)
  have hzV : w.heap.size ≤ V.heap.size := hbV.size
  refine ⟨w.heap.size + 1, [{ target := .collected w.heap.size, args := #[] }], V, { target := .fn (.func gf) lb, args := #[.func (.yield (w.heap.size + 1)) #[] #[]] }, V, gf, #[.func (.yield (w.heap.size + 1)) #[] #[]] ++ lb, V,
    by rw [← hV, hR]; exact run_enterLoop_outer _ _ _ _ _, by simp only [resolve, hg]; simp [go_sem], fun f' hf' => by simp [Target.leads] at hf'; subst hf'; exact hFg, by simp [invoke, go_sem, eg], fun _ => h1, ?_⟩
  -- a turn of a walk's block above V is a turn of a block above w that is no cells
  have low : ∀ {A : World} {row : Option Nat}, (∀ r, row = some r → V.heap.size ≤ r ∧ ∃ o : Obj, A.heap[r]? = some o ∧ o.isWalk = true) → ∀ r, row = some r → w.heap.size ≤ r ∧ ∃ o : Obj, A.heap[r]? = some o ∧ o.isCells = false := fun h r e => by
    obtain ⟨h1, o, h2, h3⟩ := h r e
    exact ⟨by omega, o, h2, Obj.not_cells_of_walk h3⟩
  have wlk : ∀ {A : World} {row : Option Nat}, (∀ r, row = some r → V.heap.size ≤ r ∧ ∃ o : Obj, A.heap[r]? = some o ∧ o.isWalk = true) → ∀ r, row = some r → ∃ o : Obj, A.heap[r]? = some o ∧ o.isWalk = true := fun h r e => (h r e).2
  refine (hit (w.heap.size + 1) (fun pre W => I pre W ∧ Laid2 w.heap.size (R .ready none) W) (fun pre W => ∃ c, X c pre W ∧ Laid2 w.heap.size (R .done (some c)) W) V hbV (fun _ _ h => h.1)
    (fun s A B row hs hgr hr => ⟨hI s A B row hs.1 hgr (low hr), hs.2.walked hgr (wlk hr)⟩) (fun pre x W hJ => ?_) ⟨hIV, hLV⟩).mono ?_
  · -- a round
    obtain ⟨hi, hL⟩ := hJ
    have hy := run_yield (P := P) (args := encs x) hL.l (by rw [hR]; exact hps x)
    rw [hR] at hy
    refine ⟨fn, _, assign, body, hy, roundIn_of_wpIn hfn (hassign _ x W _ ⟨_, run_beginRound hL.l (by rw [hR]), ?_⟩)⟩
    rw [hput2]
    have hL2 := hL.put (r' := R .busy none)
    have hi2 : I pre (W.putObj (w.heap.size + 1) (.loop (R .busy none))) := hI.putObj _ hi (by omega) hL.l rfl
    have hb2 : Kp W (W.putObj (w.heap.size + 1) (.loop (R .busy none))) := hKb _ _ _ _ (by omega) hL.l rfl
    obtain ⟨W2, hW2⟩ : ∃ W2, W.putObj (w.heap.size + 1) (.loop (R .busy none)) = W2 := ⟨_, rfl⟩
    rw [hW2] at hL2 hi2 hb2 ⊢
    refine wpIn_mono (hbody _ pre x W2 hi2) (fun e a3 W3 hp => ?_)
    match e, hp with
    | .normal, ⟨hk, hb, hi3⟩ =>
      have hL3 := hL2.kept hk
      have hr := run_endRound (P := P) none hL3.l
      rw [hput] at hr
      exact ⟨_, _, hr, .inl ⟨rfl, ⟨hI.putObj _ hi3 (by omega) hL3.l rfl, hL3.put⟩, hKt (hKt hb2 hb) (hKb _ _ _ _ (by omega) hL3.l rfl)⟩⟩
    | .exit id, ⟨hk, hx3⟩ =>
      have hL3 := hL2.kept hk
      have hr := run_endRound (P := P) (some (.exit id)) hL3.l
      rw [hput] at hr
      exact ⟨_, _, hr, .inr ⟨rfl, .exit id, (hX _).putObj _ hx3 (by omega) hL3.l rfl, hL3.put⟩⟩
  · rintro e W2 ⟨⟨v, rfl⟩, pre, hSp, c, hx, hL⟩
    have hr := run_endLoop (P := P) hL.l (by rw [hR]; simp)
    rw [hput2, show (R .done (some c)).pending = some c by rw [hR]] at hr
    refine ⟨some c, _, hr, hstop _ c pre _ (Nat.le_refl _) hSp ((hX c).putObj _ hx (by omega) hL.l rfl) hL.put.d⟩
end
/-- two blocks lie as they lay -/
structure Kp2 (p q : Nat) (V V' : World) : Prop where
  z : V.heap.size ≤ V'.heap.size
  hp : V'.heap[p]? = V.heap[p]?
  hq : V'.heap[q]? = V.heap[q]?
theorem Kp2.trans {p q : Nat} {A B C : World} (h : Kp2 p q A B) (k : Kp2 p q B C) : Kp2 p q A C := ⟨Nat.le_trans h.z k.z, k.hp.trans h.hp, k.hq.trans h.hq⟩
theorem Kp2.put {p q : Nat} (W : World) (l : Nat) (o' : Obj) (h1 : l ≠ p) (h2 : l ≠ q) : Kp2 p q W (W.putObj l o') :=
  ⟨by simp, World.putObj_heap_other (fun e => h1 e.symm), World.putObj_heap_other (fun e => h2 e.symm)⟩
theorem Kp2.below {p q n : Nat} {V V' : World} (h : Below n V V') (h1 : p < n) (h2 : q < n) (hn : n ≤ V.heap.size) : Kp2 p q V V' := ⟨h.size, h.block p h1, h.block q h2⟩
theorem cell_heap {V V' : World} {b o : Nat} (h : V'.heap[b]? = V.heap[b]?) : V'.cell? ⟨b, o, none⟩ = V.cell? ⟨b, o, none⟩ := by simp [World.cell?, h]
end Go.Proofs.Ytfiggbeaomkepaa
