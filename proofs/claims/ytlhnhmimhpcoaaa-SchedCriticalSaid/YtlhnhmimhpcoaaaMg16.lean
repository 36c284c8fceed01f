/- The critical run: where its bunches lie, and that its events are allowed. No condition: plain lemmas. Rows of events in a block that is written (seat 26). No condition: plain lemmas. Tasks that the call made and may write (seat 26). The conditions: the tasks read as named and are few. Printed by mkcrown.py. clone: tasks that share nothing with others. The conditions: the tasks read as named and are few. Out of AsOrd. The place of an element; a row's capacity. The conditions: the slice reads as named. What Critical gives, and where it lies. No condition: plain lemmas. The critical run in memory, while it is laid out. No condition: plain lemmas. The reference's critical run in memory, while its tasks are copied. No condition: plain lemmas. -/
import Derived.Test.YtlhnhmimhpcoaaaMg15
import Derived.Test.YtlhnhmimhpcoaaaMg14
import Derived.Test.YtlhnhmimhpcoaaaMg8
import Derived.Test.YtlhnhmimhpcoaaaMg9
import Derived.Test.YtlhnhmimhpcoaaaMg4
import Derived.Test.YtlhnhmimhpcoaaaMg3
import Derived.Test.YtlhnhmimhpcoaaaMg2
import Derived.Test.YtlhnhmimhpcoaaaMg6
import Derived.OneCell
import Derived.Laws.OwnMore
import Derived.Lib.SliceRun
import Derived.BigRegion
import Derived.Test.YtlhnhmimhpcoaaaMg12
namespace Go.Proofs.Ytlhnhmimhpcoaaa
open Go.RowKit
set_option linter.unusedSimpArgs false
set_option linter.unusedVariables false
/-- the least multiple of F that is no less -/
def ceilF (F x : Int) : Int := (x + F - 1) / F * F
theorem ceilF_ge {F x : Int} (hF : 1 ≤ F) : x ≤ ceilF F x := by
  unfold ceilF
  have h := Int.emod_add_mul_ediv (x + F - 1) F
  have h2 := Int.emod_lt_of_pos (x + F - 1) (show 0 < F by omega)
  rw [Int.mul_comm] at h; omega
theorem ceilF_le {F x : Int} (hF : 1 ≤ F) : ceilF F x ≤ x + F - 1 := by
  unfold ceilF
  have h := Int.emod_add_mul_ediv (x + F - 1) F
  have h2 := Int.emod_nonneg (x + F - 1) (show F ≠ 0 by omega)
  rw [Int.mul_comm] at h; omega
theorem ceilF_least {F x c : Int} (hF : 1 ≤ F) (h : x ≤ c * F) : ceilF F x ≤ c * F := by
  unfold ceilF
  refine Int.mul_le_mul_of_nonneg_right ?_ (by omega)
  have : (x + F - 1) / F < c + 1 := Int.ediv_lt_of_lt_mul (by omega) (by rw [Int.add_mul]; omega)
  omega
theorem ceilF_nonneg {F x : Int} (hF : 1 ≤ F) (hx : 0 ≤ x) : 0 ≤ ceilF F x := Int.le_trans hx (ceilF_ge hF)
/-- a step of the reference's climb -/
theorem climb_step {F x c : Int} (hF : 1 ≤ F) (h : c * F < x) : max ((c + 1) * F) (ceilF F x) = max (c * F) (ceilF F x) := by
  have h1 := ceilF_ge (x := x) hF
  have h2 : (c + 1) * F ≤ ceilF F x := by
    unfold ceilF at h1 ⊢
    refine Int.mul_le_mul_of_nonneg_right ?_ (by omega)
    have h3 : c * F < (x + F - 1) / F * F := by omega
    have := Int.lt_of_mul_lt_mul_right h3 (by omega)
    omega
  have h4 : (c + 1) * F = c * F + F := by rw [Int.add_mul]; omega
  omega
theorem climb_end {F x c : Int} (hF : 1 ≤ F) (h : x ≤ c * F) : max (c * F) (ceilF F x) = c * F := by have := ceilF_least hF h; omega
/-- where the bunches meet -/
def critGo (F : Int) : List Ta → Int → Int
  | [], a => a
  | t :: L, a => critGo F L (max a (ceilF F (t.first + t.jit)))
theorem critGo_ge (F : Int) : ∀ (L : List Ta) (a : Int), a ≤ critGo F L a
  | [], a => Int.le_refl a
  | t :: L, a => Int.le_trans (by omega) (critGo_ge F L (max a (ceilF F (t.first + t.jit))))
theorem critGo_mem {F : Int} (hF : 1 ≤ F) : ∀ (L : List Ta) (a : Int) (t : Ta), t ∈ L → t.first + t.jit ≤ critGo F L a
  | [], _, t, h => by simp at h
  | u :: L, a, t, h => by
    rcases List.mem_cons.1 h with h | h
    · subst h
      have := critGo_ge F L (max a (ceilF F (t.first + t.jit)))
      have := ceilF_ge (x := t.first + t.jit) hF
      show _ ≤ critGo F L _; omega
    · exact critGo_mem hF L _ t h
theorem critGo_le {F b : Int} (hF : 1 ≤ F) : ∀ (L : List Ta) (a : Int), a ≤ b → (∀ t ∈ L, t.first + t.jit + F - 1 ≤ b) → critGo F L a ≤ b
  | [], a, h, _ => h
  | t :: L, a, h, ht => critGo_le hF L _ (by have := ht t List.mem_cons_self; have := ceilF_le (x := t.first + t.jit) hF; omega) (fun u hu => ht u (List.mem_cons_of_mem _ hu))
/-- the climb keeps to multiples -/
theorem critGo_mul {F : Int} : ∀ (L : List Ta) (a : Int), (∃ c, a = c * F) → ∃ c, critGo F L a = c * F
  | [], a, h => h
  | t :: L, a, ⟨c, h⟩ => critGo_mul L _ (by
      rcases Int.le_total a (ceilF F (t.first + t.jit)) with h1 | h1
      · exact ⟨(t.first + t.jit + F - 1) / F, by rw [Int.max_eq_right h1]; rfl⟩
      · exact ⟨c, by rw [Int.max_eq_left h1]; exact h⟩)
/-- events of the critical run: those ahead (ah: the ranks ahead of the task) in bunches, the task itself late -/
def critEv (ah : List Int) (L : List Ta) (at_ : Int) (task : Nat) (i : Nat) : List P2 :=
  if i = task then [(at_ - (taAt L task).jit, (taAt L task).jit)]
  else if (i : Int) ∈ ah then bunchL (max (taAt L i).first (at_ - (taAt L i).jit)) (taAt L i).gap at_ 6 else []
theorem allowGo_rng (g j : Int) (hj : 0 ≤ j) (F : Nat → Int) (hF : ∀ i : Nat, F i ≤ j) : ∀ (m : Nat) (k : Nat) (first l : Int), l ≤ first + k * g →
    allowGo g j l ((List.range' k m).map fun (i : Nat) => ((first + i * g, F i) : P2)) = true
  | 0, _, _, _, _ => rfl
  | m + 1, k, first, l, hl => by
    rw [List.range'_succ, List.map_cons, allowGo, if_neg (by have := hF k; omega)]
    refine allowGo_rng g j hj F hF m (k + 1) first _ ?_
    rw [Int.natCast_add, Int.add_mul]; omega
theorem listE_small {xs : List P2} (h : ∀ x ∈ xs, (0 ≤ x.1 ∧ x.1 ≤ 1000000) ∧ (0 ≤ x.2 ∧ x.2 ≤ 1000000)) (hl : xs.length ≤ 40) : listE xs = 0 := by
  have h1 : xs.any farB = false := by
    rw [List.any_eq_false]
    intro x hx
    obtain ⟨q1, q2⟩ := h x hx
    simp [farB, inB_iff.2 q1, inB_iff.2 q2]
  rw [listE, h1, if_neg (by simp), if_neg (by omega)]
theorem bunch_alw {f g j at_ : Int} {m : Nat} (hv : vpat f g j = true) (hm : m ≤ 40) (h1 : f ≤ at_) (h2 : at_ ≤ 500000) : allowR f g j (bunchL (max f (at_ - j)) g at_ m) = (true, 0) := by
  obtain ⟨k1, k2, k3⟩ := vpat_iff.1 hv
  have hf : listE (bunchL (max f (at_ - j)) g at_ m) = 0 := by
    refine listE_small (fun x hx => ?_) (by simp [bunchL]; omega)
    simp only [bunchL, List.mem_map, List.mem_range] at hx
    obtain ⟨i, hi, rfl⟩ := hx
    have q0 := Int.mul_nonneg (show (0 : Int) ≤ i by omega) (show 0 ≤ g by omega)
    have q1 : (i : Int) * g ≤ 40 * 10000 := Int.mul_le_mul (by omega) (by omega) (by omega) (by omega)
    exact ⟨⟨by simp only []; omega, by simp only []; omega⟩, by simp only []; omega⟩
  rw [allowR, if_pos hv, if_pos hf]
  have := allowGo_rng g j (by omega) (fun i => max (at_ - (max f (at_ - j) + i * g)) 0) (fun i => by
    have := Int.mul_nonneg (show (0 : Int) ≤ i by omega) (show 0 ≤ g by omega)
    omega) m 0 (max f (at_ - j)) f (by simp; omega)
  rw [bunchL, List.range_eq_range']
  exact congrArg (fun b => (b, (0 : Int))) this
theorem one_alw {f g j at_ : Int} (hv : vpat f g j = true) (h1 : f + j ≤ at_) (h2 : at_ ≤ 500000) : allowR f g j [(at_ - j, j)] = (true, 0) := by
  obtain ⟨k1, k2, k3⟩ := vpat_iff.1 hv
  have hf : listE [(at_ - j, j)] = 0 := listE_small (fun x hx => by
    have e : x = (at_ - j, j) := by simpa using hx
    subst e
    exact ⟨⟨by simp only []; omega, by simp only []; omega⟩, ⟨by simp only []; omega, by simp only []; omega⟩⟩) (by simp)
  rw [allowR, if_pos hv, if_pos hf]
  show ((if at_ - j < f ∨ j < j then false else allowGo g j (at_ - j + g) []), (0 : Int)) = (true, 0)
  rw [if_neg (by omega)]; rfl
theorem nil_alw {f g j : Int} (hv : vpat f g j = true) : allowR f g j [] = (true, 0) := by
  rw [allowR, if_pos hv, if_pos (listE_small (fun x hx => by simp at hx) (by simp))]; rfl
/-- every list of the critical run is allowed -/
theorem crit_ok {ah : List Int} {L : List Ta} {F S : Int} {task : Nat} (hv : validL L = true) (hs : supB F S = true) (ht : task < L.length) :
    ∀ i : Nat, i < L.length → allowR (taAt L i).first (taAt L i).gap (taAt L i).jit ((((List.range L.length).map (critEv ah L (critGo F L 0) task))[i]?).getD []) = (true, 0) := by
  intro i hi
  unfold supB at hs
  rw [Bool.and_eq_true] at hs
  obtain ⟨f1, f2⟩ := inB_iff.1 hs.1
  unfold validL at hv
  rw [Bool.and_eq_true, List.all_eq_true] at hv
  have hp : ∀ t ∈ L, vpat t.first t.gap t.jit = true := fun t h => by
    have := hv.2 t h
    unfold patB at this
    rw [Bool.and_eq_true] at this; exact this.1
  have hb : critGo F L 0 ≤ 500000 := critGo_le f1 L 0 (by omega) (fun t h => by
    obtain ⟨k1, k2, k3⟩ := vpat_iff.1 (hp t h); omega)
  have hget : ∀ k : Nat, k < L.length → taAt L k ∈ L := fun k hk => by
    unfold taAt
    rw [Int.toNat_natCast, List.getElem?_eq_getElem hk]; exact List.getElem_mem hk
  rw [List.getElem?_map, List.getElem?_range hi]
  show allowR _ _ _ (critEv ah L (critGo F L 0) task i) = (true, 0)
  have hvi := hp _ (hget i hi)
  have hge := critGo_mem f1 L 0 _ (hget i hi)
  unfold critEv
  by_cases e : i = task
  · subst e
    rw [if_pos rfl]; exact one_alw hvi hge hb
  · rw [if_neg e]
    by_cases e2 : (i : Int) ∈ ah
    · rw [if_pos e2]
      obtain ⟨k1, k2, k3⟩ := vpat_iff.1 hvi
      exact bunch_alw hvi (by decide) (by omega) hb
    · rw [if_neg e2]; exact nil_alw hvi
end Go.Proofs.Ytlhnhmimhpcoaaa
namespace Go.Proofs.Ytlhnhmimhpcoaaa
open Go.RowKit
set_option linter.unusedSimpArgs false
set_option linter.unusedVariables false
theorem addr_neC {a b i j : Nat} (h : a ≠ b ∨ i ≠ j) : (⟨a, i, none⟩ : Addr) ≠ ⟨b, j, none⟩ := by
  intro e
  simp at e
  omega
structure EvB (B E m : Nat) (w : World) (r : Nat → EvV) : Prop where
  be : ∀ i, i < m → w.cell? ⟨E, i, none⟩ = some (.slice (r i).a (r i).n (r i).c)
  fe : ∀ j, w.frozen? ⟨E, j, none⟩ = false
  lt : E < B
  z : B ≤ w.heap.size
  o : ∀ i, i < m → w.ownsRow B 44 2 (.slice (r i).a (r i).n (r i).c) (r i).n ((r i).es.flatMap enc2)
theorem EvB.start {E m : Nat} {w : World} (h : Blk w E (madeCells #[.slice none 0 0] m)) : EvB w.heap.size E m w (fun _ => ⟨none, 0, 0, []⟩) :=
  ⟨fun i hi => (h.c i).trans (made_one _ m i hi), h.f, h.l, Nat.le_refl _, fun _ _ => World.ownsRow_nil _ _ _ _⟩
theorem EvB.ext {B E m : Nat} {w w' : World} {r : Nat → EvV} (h : EvB B E m w r) (hb : Below w.heap.size w w') : EvB B E m w' r := by
  have hE : E < w.heap.size := Nat.lt_of_lt_of_le h.lt h.z
  exact ⟨fun i hi => (hb.cell (p := ⟨E, i, none⟩) hE).trans (h.be i hi), fun j => (hb.frozen (p := ⟨E, j, none⟩) hE).trans (h.fe j), h.lt, Nat.le_trans h.z hb.size, fun i hi => owns_ext (h.o i hi) hb⟩
theorem EvB.set {B E m : Nat} {w : World} {r : Nat → EvV} (h : EvB B E m w r) {i : Nat} (hi : i < m) (v : EvV) (hv : w.ownsRow B 44 2 (.slice v.a v.n v.c) v.n (v.es.flatMap enc2)) : EvB B E m (w.setCell ⟨E, i, none⟩ (.slice v.a v.n v.c)) (fun j => if j = i then v else r j) := by
  refine ⟨fun j hj => ?_, fun j => by rw [World.frozen?_setCell]; exact h.fe j, h.lt, by simpa using h.z, fun j hj => ?_⟩
  · by_cases e : j = i
    · subst e
      simp only [if_pos rfl]; exact World.cell?_setCell_same _ _ _ (h.be j hj)
    · simp only [if_neg e]
      exact (World.cell?_setCell_other _ _ _ _ (addr_neC (.inr (fun q => e q.symm)))).trans (h.be j hj)
  · by_cases e : j = i
    · simp only [if_pos e]; exact owns_far hv h.lt _
    · simp only [if_neg e]; exact owns_far (h.o j hj) h.lt _
theorem EvB.evl {B E m : Nat} {w : World} {r : Nat → EvV} (h : EvB B E m w r) (hm : m ≤ 1000) : EvL w (some ⟨E, 0, none⟩) m ((List.range m).map fun i => (r i).es) := by
  refine ⟨(List.range m).map r, ⟨by simp, by omega, fun _ => ⟨E, 0, rfl, Nat.lt_of_lt_of_le h.lt h.z, fun i hi j hj => ?_⟩⟩, fun v hv => ?_, ?_⟩
  · obtain rfl : j = 0 := by omega
    have hi2 : i < m := by simpa using hi
    have := h.be i hi2
    simpa [encV] using this
  · obtain ⟨i, hi, rfl⟩ := List.mem_map.1 hv
    exact Rd.of_owns enc2_len (by decide) (h.o i (List.mem_range.1 hi))
  · rw [List.map_map]; rfl
/-- budgets of nothing -/
theorem made_bu {Bb m : Nat} {w : World} (h : Blk w Bb (madeCells #[.int .i64 0] m)) (hm : m ≤ 1000) : Rd w (some ⟨Bb, 0, none⟩) m 1 ((List.replicate m (0 : Int)).map enc1) :=
  ⟨by simp, by omega, fun _ => ⟨Bb, 0, rfl, h.l, fun i hi j hj => by
    obtain rfl : j = 0 := by omega
    have hi2 : i < m := by simpa using hi
    have := (h.c i).trans (made_one _ m i hi2)
    simpa [enc1] using this⟩⟩
end Go.Proofs.Ytlhnhmimhpcoaaa
namespace Go.Proofs.Ytlhnhmimhpcoaaa
open Go.RowKit
set_option linter.unusedSimpArgs false
set_option linter.unusedVariables false
theorem EPc : Elt Try.prog 48 52 2 16 := Elt.mk' (z := .agg #[.int .i64 0, .int .i64 0]) Try.underlying48 (by kernel_rfl) rfl (by decide)
theorem ETk : Elt Try.prog 22 50 6 64 := Elt.mk' (z := .agg #[.int .i64 0, .int .i64 0, .int .i64 0, .int .i64 0, .int .i64 0, .slice none 0 0]) Try.underlying22 (by kernel_rfl) rfl (by decide)
def PcO (B : Nat) (w : World) (t : TaV) : Prop := w.ownsRow B 52 2 (.slice t.a t.n t.c) t.n (t.pcs.flatMap enc2)
/-- tasks that the call made -/
structure OwnT (B : Nat) (w : World) (a : Option Addr) (n c : Nat) (g : List TaV) : Prop where
  own : w.ownsRow B 50 6 (.slice a n c) n (g.flatMap encTa)
  ok : ∀ t ∈ g, PcO B w t
theorem owns_nilT {w : World} {B e k n c : Nat} {a : Option Addr} {xs : List Value} (h : w.ownsRow B e k (.slice a n c) n xs) : NilOk a n c := by
  intro _
  rcases h.2 with ⟨hv, _⟩ | ⟨g, cap, cur, hv, _⟩
  · simp at hv; exact .inl ⟨hv.1, hv.2.2⟩
  · simp at hv; exact .inr ⟨_, hv.1⟩
theorem OwnT.rd {B : Nat} {w : World} {a n c g} (h : OwnT B w a n c g) : RdT w a n g :=
  ⟨Rd.of_owns encTa_len (by decide) h.own, fun t ht => ⟨ownsP_rd (h.ok t ht), owns_nilT (h.ok t ht)⟩⟩
def OutT (w : World) (n : Nat) (L : List Ta) (e : Ending) (w' : World) : Prop :=
  ∃ a c, e = .returned (.slice a n c) ∧ RdL w' a n L ∧ Below w.heap.size w w'
def TaV.blk (t : TaV) : Option Nat := (Value.slice t.a t.n t.c).ownBlock
/-- no two tasks' pieces lie in one block -/
def PcAp (g : List TaV) : Prop := g.Pairwise (fun t u => ∀ x, t.blk = some x → u.blk ≠ some x)
structure MutT (B : Nat) (w : World) (a : Option Addr) (n c : Nat) (g : List TaV) : Prop where
  own : OwnT B w a n c g
  ap : PcAp g
theorem PcO.low {B : Nat} {w : World} {t : TaV} (h : PcO B w t) : ∀ x, t.blk = some x → B ≤ x ∧ x < w.heap.size := by
  intro x hx
  rcases h.2 with ⟨hv, _⟩ | ⟨g, cap, cur, hv, hB, hg, _⟩
  · unfold TaV.blk at hx; rw [hv] at hx; simp [Value.ownBlock] at hx
  · unfold TaV.blk at hx; rw [hv] at hx; simp [Value.ownBlock] at hx; subst hx; exact ⟨hB, (Array.getElem?_eq_some_iff.1 hg).1⟩
theorem MutT.rd {B w a n c g} (h : MutT B w a n c g) : RdT w a n g := h.own.rd
theorem MutT.rdL {B w a n c g} (h : MutT B w a n c g) : RdL w a n (g.map TaV.ta) := ⟨g, h.own.rd, rfl⟩
theorem MutT.ext {B w w' a n c g} (h : MutT B w a n c g) (hb : Below w.heap.size w w') : MutT B w' a n c g :=
  ⟨⟨owns_ext h.own.own hb, fun t ht => owns_ext (h.own.ok t ht) hb⟩, h.ap⟩
theorem MutT.addr {B w a n c g} (h : MutT B w a n c g) (hn : 0 < n) : ∃ q, a = some ⟨q, 0, none⟩ ∧ B ≤ q ∧ q < w.heap.size := by
  rcases h.own.own.2 with ⟨_, h8⟩ | ⟨g, cap, cur, hv, hB, hg, _⟩
  · omega
  · simp at hv; exact ⟨g, hv.1, hB, (Array.getElem?_eq_some_iff.1 hg).1⟩
theorem PcO.addr {B w} {t : TaV} (h : PcO B w t) (hn : 0 < t.n) : ∃ q, t.a = some ⟨q, 0, none⟩ ∧ B ≤ q ∧ q < w.heap.size ∧ t.blk = some q := by
  rcases h.2 with ⟨_, h8⟩ | ⟨g, cap, cur, hv, hB, hg, _⟩
  · omega
  · simp at hv; exact ⟨g, hv.1, hB, (Array.getElem?_eq_some_iff.1 hg).1, by unfold TaV.blk; rw [hv.1]; rfl⟩
/-- rows of tasks and of pieces share no block -/
theorem owns_diff {w : World} {B B' e e' k k' n n' q c : Nat} {v : Value} {xs xs' : List Value} (h : w.ownsRow B e k (.slice (some ⟨q, 0, none⟩) n c) n xs) (h' : w.ownsRow B' e' k' v n' xs') (hne : e ≠ e') : v.ownBlock ≠ some q := by
  rcases h'.2 with ⟨rfl, _⟩ | ⟨g', cap', cur', rfl, _, hh', _⟩
  · simp [Value.ownBlock]
  · simp only [Value.ownBlock, ne_eq, Option.some.injEq]
    rintro rfl
    rcases h.2 with ⟨hv, _⟩ | ⟨g, cap, cur, hv, _, hh, _⟩
    · simp at hv
    · simp at hv
      obtain ⟨rfl, _⟩ := hv
      rw [hh] at hh'
      simp at hh'
      exact hne hh'.2
theorem flat_set {α : Type} {enc : α → List Value} {k : Nat} (he : ∀ x, (enc x).length = k) : ∀ (xs : List α) (i j : Nat) (x y : α) (u : Value), xs[i]? = some x → j < k → enc y = (enc x).set j u → (xs.flatMap enc).set (i * k + j) u = (xs.set i y).flatMap enc
  | [], i, j, x, y, u, h, _, _ => by simp at h
  | z :: xs, 0, j, x, y, u, h, hj, e => by
    simp at h; subst h
    simp only [List.flatMap_cons, List.set_cons_zero, Nat.zero_mul, Nat.zero_add]
    rw [List.set_append_left _ _ (by rw [he]; exact hj), e]
  | z :: xs, i + 1, j, x, y, u, h, hj, e => by
    have := flat_set he xs i j x y u (by simpa using h) hj e
    simp only [List.flatMap_cons, List.set_cons_succ]
    rw [List.set_append_right _ _ (by rw [he, Nat.add_mul]; omega), he, ← this]
    congr 2
    rw [Nat.add_mul]; omega
theorem pairwise_set {α β : Type} {R : α → α → Prop} (f : α → β) (hR : ∀ a b a' b', f a = f a' → f b = f b' → R a b → R a' b') : ∀ (g : List α) (k : Nat) (x y : α), g[k]? = some x → f x = f y → g.Pairwise R → (g.set k y).Pairwise R
  | [], _, _, _, h, _, _ => by simp at h
  | z :: g, 0, x, y, h, e, hp => by
    simp at h; subst h
    rw [List.pairwise_cons] at hp
    rw [List.set_cons_zero, List.pairwise_cons]
    exact ⟨fun b hb => hR z b y b e rfl (hp.1 b hb), hp.2⟩
  | z :: g, k + 1, x, y, h, e, hp => by
    rw [List.pairwise_cons] at hp
    rw [List.set_cons_succ, List.pairwise_cons]
    have hk : g[k]? = some x := by simpa using h
    refine ⟨fun b hb => ?_, pairwise_set f hR g k x y hk e hp.2⟩
    rcases List.mem_or_eq_of_mem_set hb with hb | rfl
    · exact hp.1 b hb
    · exact hR z x z b rfl e (hp.1 x (List.mem_of_getElem? hk))
theorem PcAp.set {g : List TaV} (h : PcAp g) {k : Nat} {t t' : TaV} (hk : g[k]? = some t) (e : t.blk = t'.blk) : PcAp (g.set k t') :=
  pairwise_set TaV.blk (fun a b a' b' e1 e2 r x hx => by rw [← e2]; exact r x (by rw [e1]; exact hx)) g k t t' hk e h
theorem mem_set {α : Type} {g : List α} {k : Nat} {x y : α} (h : y ∈ g.set k x) : y ∈ g ∨ y = x := List.mem_or_eq_of_mem_set h
theorem MutT.at_ {B w q n c g} (h : MutT B w (some ⟨q, 0, none⟩) n c g) {k : Nat} {t : TaV} (hk : g[k]? = some t) (j : Nat) (hj : j < 6) : w.cell? ⟨q, k * 6 + j, none⟩ = (encTa t)[j]? ∧ w.frozen? ⟨q, k * 6 + j, none⟩ = false := by
  obtain ⟨hi, rfl⟩ := List.getElem?_eq_some_iff.1 hk
  have hl := (Rd.of_owns encTa_len (by decide) h.own.own).length
  have : (k + 1) * 6 ≤ n * 6 := Nat.mul_le_mul_right 6 (by omega)
  rw [h.own.own.cellAt (k * 6 + j) (by omega), flat_get encTa_len g k j hi hj]
  exact ⟨rfl, h.own.own.frozenAt _⟩
theorem MutT.piece {B w a n c g} (h : MutT B w a n c g) {k : Nat} {t : TaV} (hk : g[k]? = some t) {q i : Nat} {p : P2} (ha : t.a = some ⟨q, 0, none⟩) (hi : t.pcs[i]? = some p) (j : Nat) (hj : j < 2) : w.cell? ⟨q, i * 2 + j, none⟩ = (enc2 p)[j]? ∧ w.frozen? ⟨q, i * 2 + j, none⟩ = false := by
  have hO := h.own.ok t (List.mem_of_getElem? hk)
  obtain ⟨ta, tn, tc, pcs, e⟩ : ∃ a n c ps, t.a = a ∧ t.n = n ∧ t.c = c ∧ t.pcs = ps := ⟨_, _, _, _, rfl, rfl, rfl, rfl⟩
  obtain ⟨hi', rfl⟩ := List.getElem?_eq_some_iff.1 hi
  have hO' : w.ownsRow B 52 2 (.slice (some ⟨q, 0, none⟩) t.n t.c) t.n (t.pcs.flatMap enc2) := by have := hO; unfold PcO at this; rw [ha] at this; exact this
  have hl := (Rd.of_owns enc2_len (by decide) hO').length
  have : (i + 1) * 2 ≤ t.n * 2 := Nat.mul_le_mul_right 2 (by omega)
  rw [hO'.cellAt (i * 2 + j) (by omega), flat_get enc2_len t.pcs i j hi' hj]
  exact ⟨rfl, hO'.frozenAt _⟩
/-- a cell of a task is written -/
theorem MutT.set {B w q n c g} (h : MutT B w (some ⟨q, 0, none⟩) n c g) {k : Nat} {t t' : TaV} (hk : g[k]? = some t) (j : Nat) (hj : j < 6) (u : Value) (he : encTa t' = (encTa t).set j u) (ha : t'.a = t.a) (hn : t'.n = t.n) (hc : t'.c = t.c) (hp : t'.pcs = t.pcs) :
    MutT B (w.setCell ⟨q, k * 6 + j, none⟩ u) (some ⟨q, 0, none⟩) n c (g.set k t') := by
  have hs := (h.own.own.stored (k * 6 + j) u).1
  rw [flat_set encTa_len g k j t t' u hk hj he] at hs
  have hkeep : ∀ x ∈ g, PcO B (w.setCell ⟨q, k * 6 + j, none⟩ u) x := fun x hx => ownsRow_setCell_other (h.own.ok x hx) (owns_diff h.own.own (h.own.ok x hx) (by decide)) u
  refine ⟨⟨hs, fun x hx => ?_⟩, h.ap.set hk (by unfold TaV.blk; rw [ha, hn, hc])⟩
  rcases mem_set hx with hx | rfl
  · exact hkeep x hx
  · have := hkeep t (List.mem_of_getElem? hk)
    unfold PcO at this ⊢
    rw [ha, hn, hc, hp]; exact this
theorem PcAp.ne {g : List TaV} (h : PcAp g) {i k : Nat} {t u : TaV} (hi : g[i]? = some t) (hk : g[k]? = some u) (hne : i ≠ k) {q : Nat} (hq : t.blk = some q) : u.blk ≠ some q := by
  obtain ⟨h1, rfl⟩ := List.getElem?_eq_some_iff.1 hi
  obtain ⟨h2, rfl⟩ := List.getElem?_eq_some_iff.1 hk
  unfold PcAp at h
  rw [List.pairwise_iff_getElem] at h
  rcases Nat.lt_or_gt_of_ne hne with h3 | h3
  · exact h i k h1 h2 h3 q hq
  · exact fun e => h k i h2 h1 h3 q e hq
/-- a cell of a piece is written -/
theorem MutT.setP {B w a n c g} (h : MutT B w a n c g) {k : Nat} {t t' : TaV} (hk : g[k]? = some t) {q i : Nat} {p p' : P2} (ha : t.a = some ⟨q, 0, none⟩) (hi : t.pcs[i]? = some p) (j : Nat) (hj : j < 2) (u : Value) (he : enc2 p' = (enc2 p).set j u) (ht : t' = { t with pcs := t.pcs.set i p' }) :
    MutT B (w.setCell ⟨q, i * 2 + j, none⟩ u) a n c (g.set k t') := by
  have hO := h.own.ok t (List.mem_of_getElem? hk)
  have hO' : w.ownsRow B 52 2 (.slice (some ⟨q, 0, none⟩) t.n t.c) t.n (t.pcs.flatMap enc2) := by have := hO; unfold PcO at this; rw [ha] at this; exact this
  have hs := (hO'.stored (i * 2 + j) u).1
  rw [flat_set enc2_len t.pcs i j p p' u hi hj he] at hs
  have hq : t.blk = some q := by unfold TaV.blk; rw [ha]; rfl
  have hm := ownsRow_setCell_other (a := ⟨q, i * 2 + j, none⟩) h.own.own (owns_diff hO' h.own.own (by decide)) u
  have hfl : (g.set k t').flatMap encTa = g.flatMap encTa := by
    have e1 : encTa t' = encTa t := by rw [ht]; rfl
    have : (g.set k t').map encTa = g.map encTa := by
      rw [List.map_set, e1]
      apply List.ext_getElem?
      intro m
      rw [List.getElem?_set]
      split
      · rename_i h1
        subst h1
        have hlt := (List.getElem?_eq_some_iff.1 hk).1
        rw [if_pos (by simpa using hlt), List.getElem?_map, hk]; rfl
      · rfl
    rw [List.flatMap_def, List.flatMap_def, this]
  refine ⟨⟨by rw [hfl]; exact hm, fun x hx => ?_⟩, h.ap.set hk (by rw [ht]; rfl)⟩
  obtain ⟨m, hm⟩ := List.getElem?_of_mem hx
  rw [List.getElem?_set] at hm
  split at hm
  · split at hm
    · simp at hm; subst hm; rw [ht]; unfold PcO; simp only []; rw [ha]; exact hs
    · simp at hm
  · rename_i hne
    exact ownsRow_setCell_other (h.own.ok x (List.mem_of_getElem? hm)) (h.ap.ne hk hm hne hq) u
theorem set_map {α β : Type} (f : α → β) (g : List α) (k : Nat) (x : α) : (g.set k x).map f = (g.map f).set k (f x) := List.map_set
/-- a copy that may be written -/
def OutM (w : World) (n : Nat) (L : List Ta) (e : Ending) (w' : World) : Prop :=
  ∃ a c g, e = .returned (.slice a n c) ∧ MutT w.heap.size w' a n c g ∧ g.map TaV.ta = L ∧ Below w.heap.size w w'
theorem PcAp.app {g : List TaV} {t : TaV} {K : Nat} (h : PcAp g) (h1 : ∀ u ∈ g, ∀ x, u.blk = some x → x < K) (h2 : ∀ x, t.blk = some x → K + 1 ≤ x) : PcAp (g ++ [t]) := by
  refine List.pairwise_append.2 ⟨h, List.pairwise_singleton _ _, fun u hu v hv x hx e => ?_⟩
  simp at hv; subst hv
  have := h1 u hu x hx
  have := h2 x e
  omega
end Go.Proofs.Ytlhnhmimhpcoaaa
namespace Go.Proofs.Ytlhnhmimhpcoaaa
open Go.RowKit
set_option linter.unusedSimpArgs false
set_option linter.unusedVariables false
theorem cloneTk_any (a : Option Addr) (n c : Nat) (xs : List TaV) (w : World) (hn : n ≤ 1000) (hR : Rd w a n 6 (xs.map encTa)) (h0 : n = 0 → (a = none ∧ c = 0) ∨ ∃ ad, a = some ad) :
    Calls Try.prog 102 #[.slice a n c] w (OutN w.heap.size n 50 6 w (xs.flatMap encTa)) := by
  have hl := hR.length
  rcases a with _ | ad
  · obtain rfl : n = 0 := by
      rcases Nat.eq_zero_or_pos n with q | q
      · exact q
      · obtain ⟨b, off, q2, _⟩ := hR.at_ q; simp at q2
    rcases h0 rfl with ⟨_, rfl⟩ | ⟨ad, q⟩
    · obtain rfl : xs = [] := List.length_eq_zero_iff.1 hl
      have heq := Lib.run_eql_slice_nil (P := Try.prog) w 22 50 none 0 0 0 0 Try.underlying22
      go_enter Try.func102, Try.ntmps102
      go_wp2
      go_ret
      exact ⟨_, _, rfl, World.ownsRow_nil _ _ _ _, Below.refl _ _⟩
    · simp at q
  · have HR := Lib.hid hR
    have e1 := ETk
    have HOW : Hid ((w.alloc (.cells #[] 50)).ownsRow w.heap.size 50 6 (.slice (some ⟨w.heap.size, 0, none⟩) 0 0) 0 []) := Lib.hid (World.ownsRow_lit w #[] 0 (Nat.le_refl _) (by decide) rfl)
    have heq := Lib.run_eql_slice_nil (P := Try.prog) w 22 50 (some ad) n c 0 0 Try.underlying22
    clear hR hl h0
    go_enter Try.func102, Try.ntmps102
    go_wp2_with (at_builtin; refine wpList_pushAll (B := w.heap.size) (n := 0) (xs := []) rfl _ _ _ rfl e1 encTa_len encTa_one rfl HOW.out rfl (HR.out.ext (by (repeat' (first | (with_reducible exact Below.refl _ _) | (with_reducible assumption) | (with_reducible refine Below.alloc ?_ ?_ _) | (with_reducible refine Below.drew ?_) | (with_reducible refine Below.draws ?_ _) | (with_reducible refine Below.setCell ?_ ?_ _) | (refine Below.then ?_ (by with_reducible assumption)) | go_size)))) (fun _ => .inr ⟨_, rfl⟩) (by omega) (by decide) (by simp) ?_; intro v2 w2 hown2 hv2 hb2)
    rw [Nat.zero_add, List.nil_append] at hown2
    obtain ⟨a', c', rfl⟩ := hv2
    rw [Nat.zero_add] at hown2 ⊢
    go_ret
    exact ⟨_, _, rfl, hown2, Below.trans (by (repeat' (first | (with_reducible exact Below.refl _ _) | (with_reducible assumption) | (with_reducible refine Below.alloc ?_ ?_ _) | (with_reducible refine Below.drew ?_) | (with_reducible refine Below.draws ?_ _) | (with_reducible refine Below.setCell ?_ ?_ _) | (refine Below.then ?_ (by with_reducible assumption)) | go_size))) hb2⟩
theorem clonePc_any (a : Option Addr) (n c : Nat) (xs : List P2) (w : World) (hn : n ≤ 1000) (hR : Rd w a n 2 (xs.map enc2)) (h0 : n = 0 → (a = none ∧ c = 0) ∨ ∃ ad, a = some ad) :
    Calls Try.prog 103 #[.slice a n c] w (OutN w.heap.size n 52 2 w (xs.flatMap enc2)) := by
  have hl := hR.length
  rcases a with _ | ad
  · obtain rfl : n = 0 := by
      rcases Nat.eq_zero_or_pos n with q | q
      · exact q
      · obtain ⟨b, off, q2, _⟩ := hR.at_ q; simp at q2
    rcases h0 rfl with ⟨_, rfl⟩ | ⟨ad, q⟩
    · obtain rfl : xs = [] := List.length_eq_zero_iff.1 hl
      have heq := Lib.run_eql_slice_nil (P := Try.prog) w 48 52 none 0 0 0 0 Try.underlying48
      go_enter Try.func103, Try.ntmps103
      go_wp2
      go_ret
      exact ⟨_, _, rfl, World.ownsRow_nil _ _ _ _, Below.refl _ _⟩
    · simp at q
  · have HR := Lib.hid hR
    have e1 := EPc
    have HOW : Hid ((w.alloc (.cells #[] 52)).ownsRow w.heap.size 52 2 (.slice (some ⟨w.heap.size, 0, none⟩) 0 0) 0 []) := Lib.hid (World.ownsRow_lit w #[] 0 (Nat.le_refl _) (by decide) rfl)
    have heq := Lib.run_eql_slice_nil (P := Try.prog) w 48 52 (some ad) n c 0 0 Try.underlying48
    clear hR hl h0
    go_enter Try.func103, Try.ntmps103
    go_wp2_with (at_builtin; refine wpList_pushAll (B := w.heap.size) (n := 0) (xs := []) rfl _ _ _ rfl e1 enc2_len enc2_one rfl HOW.out rfl (HR.out.ext (by (repeat' (first | (with_reducible exact Below.refl _ _) | (with_reducible assumption) | (with_reducible refine Below.alloc ?_ ?_ _) | (with_reducible refine Below.drew ?_) | (with_reducible refine Below.draws ?_ _) | (with_reducible refine Below.setCell ?_ ?_ _) | (refine Below.then ?_ (by with_reducible assumption)) | go_size)))) (fun _ => .inr ⟨_, rfl⟩) (by omega) (by decide) (by simp) ?_; intro v2 w2 hown2 hv2 hb2)
    rw [Nat.zero_add, List.nil_append] at hown2
    obtain ⟨a', c', rfl⟩ := hv2
    rw [Nat.zero_add] at hown2 ⊢
    go_ret
    exact ⟨_, _, rfl, hown2, Below.trans (by (repeat' (first | (with_reducible exact Below.refl _ _) | (with_reducible assumption) | (with_reducible refine Below.alloc ?_ ?_ _) | (with_reducible refine Below.drew ?_) | (with_reducible refine Below.draws ?_ _) | (with_reducible refine Below.setCell ?_ ?_ _) | (refine Below.then ?_ (by with_reducible assumption)) | go_size))) hb2⟩
theorem ownsT_at {w : World} {B q n c : Nat} {g : List TaV} (h : w.ownsRow B 50 6 (.slice (some ⟨q, 0, none⟩) n c) n (g.flatMap encTa)) {k : Nat} {t : TaV} (hk : g[k]? = some t) (j : Nat) (hj : j < 6) : w.cell? ⟨q, k * 6 + j, none⟩ = (encTa t)[j]? := by
  obtain ⟨hi, rfl⟩ := List.getElem?_eq_some_iff.1 hk
  have hl := (Rd.of_owns encTa_len (by decide) h).length
  have : (k + 1) * 6 ≤ n * 6 := Nat.mul_le_mul_right 6 (by omega)
  rw [h.cellAt (k * 6 + j) (by omega), flat_get encTa_len g k j hi hj]
set_option maxRecDepth 100000 in
set_option maxHeartbeats 4000000 in
theorem sclone_M (a : Option Addr) (n c : Nat) (L : List Ta) (hn : n ≤ 1000) (hP : ∀ t ∈ L, t.pcs.length ≤ 1000) (w : World) (hL : RdL w a n L) (hN : NilOk a n c) :
    Calls Try.prog 71 #[.slice a n c] w (OutM w n L) := by
  obtain ⟨g, hG, rfl⟩ := hL
  have HR := Lib.hid hG
  have HG0 := Lib.hid hG.length
  have hN' : n = 0 → (a = none ∧ c = 0) ∨ ∃ ad, a = some ad := hN
  have HNN := Lib.hid hN'
  have HH : Hid (∀ t ∈ g, t.n ≤ 1000) := Lib.hid (fun t ht => by
    have h1 := hP t.ta (List.mem_map_of_mem ht)
    have h2 := (hG.ok t ht).1.length
    have h3 : t.ta.pcs.length = t.pcs.length := rfl
    omega)
  clear hG hP hN hN'
  go_enter Try.func71, Try.ntmps71
  go_wp2_with (go_at_call 102; (with_reducible refine (cloneTk_any _ _ _ g _ hn HR.out.rd HNN.out).mono ?_); rintro e w1 ⟨a1, c1, rfl, hown1, hb1⟩; have HO1 := Lib.hid hown1; have HB1 := Lib.hid hb1; clear hown1 hb1)
  go_loopw [8] (fun i wr => ∃ (k : Nat) (g' : List TaV), k ≤ n ∧ i = .int .i64 k ∧ g'.length = k ∧ wr.ownsRow w.heap.size 50 6 (.slice a1 n c1) n ((g' ++ g.drop k).flatMap encTa) ∧ (∀ t ∈ g', PcO w.heap.size wr t) ∧ PcAp g' ∧ g'.map TaV.ta = (g.take k).map TaV.ta ∧ Below w.heap.size w wr) (fun i _ => n - (intOf i).toNat)
  case atStart => exact ⟨0, [], Nat.zero_le _, rfl, rfl, HO1.out, by simp, List.Pairwise.nil, rfl, HB1.out⟩
  case round =>
    obtain ⟨k, g', hk, rfl, hl, hO, hok, hap, hg', hB⟩ := hrel
    have HO := Lib.hid hO; have HB := Lib.hid hB; have HG' := Lib.hid hg'; have HOK := Lib.hid hok; have HAP := Lib.hid hap; have HL := Lib.hid hl
    have hz := hB.size
    clear hO hB hg' hok hap hl HO1
    by_cases hlt : k < n
    · obtain ⟨q, rfl, hq1, hq⟩ := owns_addr HO.out (by omega)
      have hkl : k < g.length := by rw [HG0.out]; exact hlt
      have hgd : g.drop k = g[k] :: g.drop (k + 1) := List.drop_eq_getElem_cons hkl
      have hgm : g[k] ∈ g := List.getElem_mem hkl
      obtain ⟨b, off, rfl, hb0, hc⟩ := HR.out.rd.at_ (by omega)
      have x5 := hc k (by simpa using hkl) 5 (by omega)
      obtain ⟨t, ht⟩ : ∃ t, g[k] = t := ⟨_, rfl⟩
      rw [ht] at hgd hgm
      have hgk : (g.map encTa)[k]'(by simpa using hkl) = encTa t := by rw [List.getElem_map, ht]
      rw [hgk] at x5
      have htn : t.n ≤ 1000 := HH.out _ hgm
      have hok := (HR.out.ok t hgm).ext HB.out
      obtain ⟨pri, dl, fi, ga, ji, ta, tn, tc, ps⟩ := t
      simp [encTa] at x5
      simp only [] at htn
      have h5 := (HB.out.cell (p := ⟨b, off + k * 6 + 5, none⟩) hb0).trans x5
      have hbr : b < wr.heap.size := by omega
      have HT1 : Hid (Rd wr ta tn 2 (ps.map enc2)) := Lib.hid hok.1
      have HT2 : Hid (tn = 0 → (ta = none ∧ tc = 0) ∨ ∃ ad, ta = some ad) := Lib.hid hok.2
      have HTK := Lib.hid (take_of_drop hgd)
      have hpl : (g' ++ g.drop k)[k]? = some (⟨pri, dl, fi, ga, ji, ta, tn, tc, ps⟩ : TaV) := by
        rw [List.getElem?_append_right (by rw [HL.out]; exact Nat.le_refl _), HL.out, Nat.sub_self, hgd]; rfl
      have HPL := Lib.hid hpl
      have HGD := Lib.hid hgd
      have hcq := ownsT_at HO.out hpl 5 (by omega)
      have hfq := HO.out.frozenAt (k * 6 + 5)
      simp [encTa] at hcq
      clear ht hgd hgm hpl hok x5 hc hgk
      go_wp2_with (go_at_call 103; (with_reducible refine (clonePc_any _ _ _ ps _ htn HT1.out HT2.out).mono ?_); rintro e w2 ⟨a2, c2, rfl, hown2, hb2⟩; have HO2 := Lib.hid hown2; have HB2 := Lib.hid hb2; (have hc2 := (hb2.cell (p := ⟨q, k * 6 + 5, none⟩) hq).trans hcq); (have hf2 := (hb2.frozen (p := ⟨q, k * 6 + 5, none⟩) hq).trans hfq); have hz2 := hb2.size; clear hown2 hb2)
      go_roundw
      case rel =>
        have hs := (owns_ext HO.out HB2.out).stored (k * 6 + 5) (.slice a2 tn c2)
        rw [flat_set encTa_len _ k 5 _ ⟨pri, dl, fi, ga, ji, a2, tn, c2, ps⟩ _ HPL.out (by omega) rfl] at hs
        have hst : ∀ {t : TaV} {B : Nat}, PcO B w2 t → PcO B (w2.setCell ⟨q, k * 6 + 5, none⟩ (.slice a2 tn c2)) t := fun h => owns_kept h (owns_ext HO.out HB2.out) (by decide) hs.2
        refine ⟨k + 1, g' ++ [⟨pri, dl, fi, ga, ji, a2, tn, c2, ps⟩], by omega, by go_num, by simp [HL.out], ?_, ?_, ?_, ?_, ?_⟩
        · have e : (g' ++ g.drop k).set k (⟨pri, dl, fi, ga, ji, a2, tn, c2, ps⟩ : TaV) = g' ++ [⟨pri, dl, fi, ga, ji, a2, tn, c2, ps⟩] ++ g.drop (k + 1) := by
            rw [List.set_append_right _ _ (by rw [HL.out]; exact Nat.le_refl _), HL.out, Nat.sub_self, HGD.out, List.append_assoc]; rfl
          rw [← e]; exact hs.1
        · intro t ht
          rcases List.mem_append.1 ht with ht | ht
          · exact hst (owns_ext (HOK.out t ht) HB2.out)
          · simp at ht; subst ht; exact hst (owns_mono HO2.out hz)
        · refine List.pairwise_append.2 ⟨HAP.out, List.pairwise_singleton _ _, ?_⟩
          intro t ht u hu x hx hy
          simp at hu
          subst hu
          have h1 := (PcO.low (HOK.out t ht) x hx).2
          have h2 := (PcO.low (B := wr.heap.size) (t := ⟨pri, dl, fi, ga, ji, a2, tn, c2, ps⟩) HO2.out x hy).1
          omega
        · rw [HTK.out, List.map_append, List.map_append, HG'.out]; rfl
        · exact (Below.then HB.out HB2.out).setCell (p := ⟨q, k * 6 + 5, none⟩) hq1 _
      case measure => simp [intOf]; omega
    · have hkn : k = n := by omega
      subst hkn
      have e1 : g.drop k = [] := List.drop_of_length_le (by rw [HG0.out]; exact Nat.le_refl _)
      have e2 : g.take k = g := List.take_of_length_le (by rw [HG0.out]; exact Nat.le_refl _)
      have hO := HO.out
      rw [e1, List.append_nil] at hO
      have hg := HG'.out
      rw [e2] at hg
      have HO9 := Lib.hid hO; have HG9 := Lib.hid hg
      clear hO hg e1 e2
      go_wp2
      go_ret
      exact ⟨_, _, _, rfl, ⟨⟨HO9.out, HOK.out⟩, HAP.out⟩, HG9.out, HB.out⟩
end Go.Proofs.Ytlhnhmimhpcoaaa
namespace Go.Proofs.Ytlhnhmimhpcoaaa
open Go.RowKit
set_option linter.unusedSimpArgs false
set_option linter.unusedVariables false
/-- the place of x -/
theorem indexC_any (a : Option Addr) (n c p : Nat) (xs : List Int) (x : Int) (w : World) (hR : Rd w a n 1 (xs.map enc1)) (hx : xs[p]? = some x) (hn : xs.Nodup) :
    Calls Try.prog 72 #[.slice a n c, .int .i64 x] w fun e w' => e = .returned (.int .i64 (p : Nat)) ∧ w = w' := by
  have hs := hR.small
  have hpl := (List.getElem?_eq_some_iff.1 hx).1
  rw [hR.length] at hpl
  have HR := Lib.hid hR
  have HU : Hid (∀ k y, xs[k]? = some y → y = x → k = p) := Lib.hid (fun k y hk e => by
    obtain ⟨h1, e1⟩ := List.getElem?_eq_some_iff.1 hk
    obtain ⟨h2, e2⟩ := List.getElem?_eq_some_iff.1 hx
    exact (List.getElem_inj hn).1 (by rw [e1, e2, e]))
  have HX := Lib.hid hx
  clear hR hn hx
  go_enter Try.func72, Try.ntmps72
  go_wp2
  go_loop [8] (fun i => ∃ k : Nat, k ≤ p ∧ i = .int .i64 k) (fun i => n - (intOf i).toNat)
  case atStart => exact ⟨0, Nat.zero_le _, rfl⟩
  case round =>
    obtain ⟨k, hk, rfl⟩ := hrel
    have hlt : k < n := by omega
    obtain ⟨y, b, off, rfl, hb, hc, hy⟩ := HR.out.idx k hlt
    by_cases hxy : y = x
    · obtain rfl := HU.out k y hy hxy
      subst hxy
      clear hy
      go_wp2
      go_ret
      exact ⟨rfl, rfl⟩
    · have hxy' : (x == y) = false := by simpa using fun q => hxy (q.symm)
      have hkp : k ≠ p := by
        rintro rfl
        rw [HX.out] at hy
        exact hxy (by simpa using hy.symm)
      clear hy
      go_wp2
      go_round
      case rel => exact ⟨k + 1, by omega, by go_num⟩
      case measure => simp [intOf]; omega
theorem owns_capC {w : World} {B e k n c : Nat} {a : Option Addr} {xs : List Value} (h : w.ownsRow B e k (.slice a n c) n xs) : n ≤ c := by
  rcases h.2 with ⟨hv, h8⟩ | ⟨g, cap, cur, hv, _, _, hle, _⟩
  · omega
  · simp at hv
    obtain ⟨_, rfl⟩ := hv
    omega
end Go.Proofs.Ytlhnhmimhpcoaaa
namespace Go.Proofs.Ytlhnhmimhpcoaaa
open Go.RowKit
set_option linter.unusedSimpArgs false
set_option linter.unusedVariables false
def r0N : Rn := ⟨[], 0, 0, [], [], []⟩
def critC (L : List Ta) (F S task : Int) : Bool := validL L && (supB F S && inB task 0 ((L.length : Int) - 1))
def critL (L : List Ta) (F task : Int) : List (List P2) := (List.range L.length).map (critEv ((rankL L).take (cnt L task)) L (critGo F L 0) task.toNat)
def critR (L : List Ta) (F S task : Int) : Rn × Int := if critC L F S task = true then (tcR L F S (critL L F task), 0) else (r0N, 1)
def OutCr (w : World) (R : Rn) (er : Int) (e : Ending) (w' : World) : Prop :=
  ∃ H : RunH, e = .returned (.tuple #[runV H R.fr R.sl, .int .i64 er]) ∧ ReadRun w' H R ∧ Below w.heap.size w w'
theorem r0_read (w : World) : ReadRun w ⟨none, 0, 0, none, 0, 0, none, 0, 0, none, 0, 0⟩ r0N :=
  ⟨⟨[], ⟨Rd.nil _ _ _, fun t ht => by simp at ht⟩, rfl⟩, ⟨[], Rd.nil _ _ _, fun t ht => by simp at ht, rfl⟩, Rd.nil _ _ _, Rd.nil _ _ _⟩
/-- a supply in a box -/
structure Sup2 (w : World) (q : Nat) (F S : Int) : Prop where
  c0 : w.cell? ⟨q, 0, none⟩ = some (.int .i64 F)
  c1 : w.cell? ⟨q, 1, none⟩ = some (.int .i64 S)
  z : q < w.heap.size
theorem Sup2.ext {w w' : World} {q : Nat} {F S : Int} (h : Sup2 w q F S) (hb : Below w.heap.size w w') : Sup2 w' q F S :=
  ⟨(hb.cell (p := ⟨q, 0, none⟩) h.z).trans h.c0, (hb.cell (p := ⟨q, 1, none⟩) h.z).trans h.c1, Nat.lt_of_lt_of_le h.z hb.size⟩
theorem Blk.extC {w w' : World} {b : Nat} {cs : Array Value} (h : Blk w b cs) (hb : Below w.heap.size w w') : Blk w' b cs :=
  ⟨fun i => (hb.cell (p := ⟨b, i, none⟩) h.l).trans (h.c i), fun i => (hb.frozen (p := ⟨b, i, none⟩) h.l).trans (h.f i), Nat.lt_of_lt_of_le h.l hb.size⟩
theorem Blk.far {w : World} {b q i : Nat} {cs : Array Value} (h : Blk w b cs) (hq : q ≠ b) (v : Value) : Blk (w.setCell ⟨q, i, none⟩ v) b cs :=
  ⟨fun j => (World.cell?_setCell_other _ _ _ _ (addr_neC (.inl hq))).trans (h.c j), fun j => by rw [World.frozen?_setCell]; exact h.f j, by simpa using h.l⟩
/-- where a copy of tasks lies: its blocks are from K on and below Z -/
structure TkIn (K Z : Nat) (a : Option Addr) (n c : Nat) (g : List TaV) : Prop where
  r : ∀ x, (Value.slice a n c).ownBlock = some x → K ≤ x ∧ x < Z
  p : ∀ t ∈ g, ∀ x, t.blk = some x → K ≤ x ∧ x < Z
theorem MutT.in_ {B : Nat} {w : World} {a n c g} (h : MutT B w a n c g) : TkIn B w.heap.size a n c g :=
  ⟨fun x hx => h.own.own.lt x hx, fun t ht x hx => PcO.low (h.own.ok t ht) x hx⟩
theorem MutT.far {B K Z : Nat} {w : World} {a n c g} (h : MutT B w a n c g) (hi : TkIn K Z a n c g) {q i : Nat} (hq : q < K ∨ Z ≤ q) (v : Value) : MutT B (w.setCell ⟨q, i, none⟩ v) a n c g := by
  refine ⟨⟨ownsRow_setCell_other (a := ⟨q, i, none⟩) h.own.own (fun e => ?_) v, fun t ht => ownsRow_setCell_other (a := ⟨q, i, none⟩) (h.own.ok t ht) (fun e => ?_) v⟩, h.ap⟩
  · have := hi.r q e; omega
  · have := hi.p t ht q e; omega
theorem MutT.mono {B B' : Nat} {w : World} {a n c g} (h : MutT B w a n c g) (hB : B' ≤ B) : MutT B' w a n c g := ⟨⟨owns_mono h.own.own hB, fun t ht => owns_mono (h.own.ok t ht) hB⟩, h.ap⟩
theorem MutT.old {B : Nat} {w : World} {a n c g} (h : MutT B w a n c g) (o : Obj) : MutT B (w.alloc o) a n c g := h.ext (Below.alloc (Below.refl _ _) (Nat.le_refl _) o)
theorem MutT.drew {B : Nat} {w : World} {a n c g} (h : MutT B w a n c g) : MutT B w.drew a n c g := h.ext (Below.refl _ _).drew
theorem Blk.set6 {w : World} {p : Nat} {z0 z1 z2 z3 z4 z5 v0 v1 v2 v3 v4 v5 : Value} (h : Blk w p #[z0, z1, z2, z3, z4, z5]) :
    Blk ((((((w.setCell ⟨p, 0, none⟩ v0).setCell ⟨p, 1, none⟩ v1).setCell ⟨p, 2, none⟩ v2).setCell ⟨p, 3, none⟩ v3).setCell ⟨p, 4, none⟩ v4).setCell ⟨p, 5, none⟩ v5) p #[v0, v1, v2, v3, v4, v5] := by
  have h0 := h.c 0; have h1 := h.c 1; have h2 := h.c 2; have h3 := h.c 3; have h4 := h.c 4; have h5 := h.c 5
  simp at h0 h1 h2 h3 h4 h5
  have ne : ∀ {i j : Nat}, i ≠ j → (⟨p, i, none⟩ : Addr) ≠ ⟨p, j, none⟩ := fun h => addr_neC (.inr h)
  refine ⟨fun i => ?_, fun i => by simp only [World.frozen?_setCell]; exact h.f i, by simpa using h.l⟩
  match i with
  | 0 => rw [World.cell?_setCell_other _ _ _ _ (ne (by decide)), World.cell?_setCell_other _ _ _ _ (ne (by decide)), World.cell?_setCell_other _ _ _ _ (ne (by decide)), World.cell?_setCell_other _ _ _ _ (ne (by decide)), World.cell?_setCell_other _ _ _ _ (ne (by decide)), World.cell?_setCell_same _ _ _ h0]; rfl
  | 1 => rw [World.cell?_setCell_other _ _ _ _ (ne (by decide)), World.cell?_setCell_other _ _ _ _ (ne (by decide)), World.cell?_setCell_other _ _ _ _ (ne (by decide)), World.cell?_setCell_other _ _ _ _ (ne (by decide)), World.cell?_setCell_same _ _ _ ((World.cell?_setCell_other _ _ _ _ (ne (by decide))).trans h1)]; rfl
  | 2 => rw [World.cell?_setCell_other _ _ _ _ (ne (by decide)), World.cell?_setCell_other _ _ _ _ (ne (by decide)), World.cell?_setCell_other _ _ _ _ (ne (by decide)), World.cell?_setCell_same _ _ _ ((World.cell?_setCell_other _ _ _ _ (ne (by decide))).trans ((World.cell?_setCell_other _ _ _ _ (ne (by decide))).trans h2))]; rfl
  | 3 => rw [World.cell?_setCell_other _ _ _ _ (ne (by decide)), World.cell?_setCell_other _ _ _ _ (ne (by decide)), World.cell?_setCell_same _ _ _ ((World.cell?_setCell_other _ _ _ _ (ne (by decide))).trans ((World.cell?_setCell_other _ _ _ _ (ne (by decide))).trans ((World.cell?_setCell_other _ _ _ _ (ne (by decide))).trans h3)))]; rfl
  | 4 => rw [World.cell?_setCell_other _ _ _ _ (ne (by decide)), World.cell?_setCell_same _ _ _ ((World.cell?_setCell_other _ _ _ _ (ne (by decide))).trans ((World.cell?_setCell_other _ _ _ _ (ne (by decide))).trans ((World.cell?_setCell_other _ _ _ _ (ne (by decide))).trans ((World.cell?_setCell_other _ _ _ _ (ne (by decide))).trans h4))))]; rfl
  | 5 => rw [World.cell?_setCell_same _ _ _ ((World.cell?_setCell_other _ _ _ _ (ne (by decide))).trans ((World.cell?_setCell_other _ _ _ _ (ne (by decide))).trans ((World.cell?_setCell_other _ _ _ _ (ne (by decide))).trans ((World.cell?_setCell_other _ _ _ _ (ne (by decide))).trans ((World.cell?_setCell_other _ _ _ _ (ne (by decide))).trans h5)))))]; rfl
  | i + 6 =>
    rw [World.cell?_setCell_other _ _ _ _ (ne (by omega)), World.cell?_setCell_other _ _ _ _ (ne (by omega)), World.cell?_setCell_other _ _ _ _ (ne (by omega)), World.cell?_setCell_other _ _ _ _ (ne (by omega)), World.cell?_setCell_other _ _ _ _ (ne (by omega)), World.cell?_setCell_other _ _ _ _ (ne (by omega)), h.c]
    simp
theorem Blk.set6z {w : World} {p : Nat} {v0 v1 v2 v3 v4 v5 : Value} (h : Blk w p #[.slice none 0 0, .int .i64 0, .int .i64 0, .slice none 0 0, .slice none 0 0, .slice none 0 0]) :
    Blk ((((((w.setCell ⟨p, 0, none⟩ v0).setCell ⟨p, 1, none⟩ v1).setCell ⟨p, 2, none⟩ v2).setCell ⟨p, 3, none⟩ v3).setCell ⟨p, 4, none⟩ v4).setCell ⟨p, 5, none⟩ v5) p #[v0, v1, v2, v3, v4, v5] := h.set6
theorem critGo_drop {F : Int} {L : List Ta} {k : Nat} {t : Ta} {A : Int} (h : L.drop k = t :: L.drop (k + 1)) : critGo F (L.drop k) A = critGo F (L.drop (k + 1)) (max A (ceilF F (t.first + t.jit))) := by rw [h]; rfl
theorem ceilF_parts {F x : Int} (hF : 1 ≤ F ∧ F ≤ 60) (hx : 0 ≤ x ∧ x ≤ 100000) : ∃ q p : Int, (x + F - 1).tdiv F = q ∧ q * F = p ∧ ceilF F x = p ∧ 0 ≤ q ∧ q ≤ 100060 ∧ x ≤ p ∧ p ≤ x + F - 1 := by
  refine ⟨_, _, rfl, rfl, ?_, ?_, ?_, ?_, ?_⟩
  all_goals rw [Int.tdiv_eq_ediv_of_nonneg (by omega)]
  · rfl
  · exact Int.ediv_nonneg (by omega) (by omega)
  · have := Int.ediv_le_self F (show 0 ≤ x + F - 1 by omega); omega
  · exact ceilF_ge hF.1
  · exact ceilF_le hF.1
/-- of valid tasks -/
theorem pat_bd {L : List Ta} (h : validL L = true) {t : Ta} (ht : t ∈ L) : vpat t.first t.gap t.jit = true ∧ (0 ≤ t.first ∧ t.first ≤ 10000) ∧ (1 ≤ t.gap ∧ t.gap ≤ 10000) ∧ (0 ≤ t.jit ∧ t.jit ≤ 10000) := by
  unfold validL at h
  rw [Bool.and_eq_true, List.all_eq_true] at h
  have := h.2 t ht
  unfold patB at this
  rw [Bool.and_eq_true] at this
  have k := vpat_iff.1 this.1
  exact ⟨this.1, by omega⟩
theorem critGo_bd {L : List Ta} {F S : Int} (h : validL L = true) (hs : supB F S = true) : 0 ≤ critGo F L 0 ∧ critGo F L 0 ≤ 500000 := by
  unfold supB at hs
  rw [Bool.and_eq_true] at hs
  obtain ⟨f1, f2⟩ := inB_iff.1 hs.1
  refine ⟨critGo_ge F L 0, critGo_le f1 L 0 (by omega) (fun t ht => ?_)⟩
  have := pat_bd h ht
  omega
end Go.Proofs.Ytlhnhmimhpcoaaa
namespace Go.Proofs.Ytlhnhmimhpcoaaa
open Go.RowKit
set_option linter.unusedSimpArgs false
set_option linter.unusedVariables false
/-- what is fixed: where the boxes lie -/
structure CrP where
  B0 : Nat
  B1 : Nat
  p : Nat
  E : Nat
  Bb : Nat
  n : Nat
  ta : Option Addr
  tc : Nat
  F : Int
  S : Int
  g : List TaV
  K : Nat
  Z : Nat
structure CrF (P : CrP) : Prop where
  p : P.B0 ≤ P.p ∧ P.p < P.B1
  E : P.B0 ≤ P.E ∧ P.E < P.B1
  b : P.B0 ≤ P.Bb ∧ P.Bb < P.B1
  ne : P.p ≠ P.E ∧ P.Bb ≠ P.E
  ke : P.E < P.K ∨ P.Z ≤ P.E
  ti : TkIn P.K P.Z P.ta P.n P.tc P.g
structure CrM (P : CrP) (w : World) (r : Nat → EvV) : Prop where
  bp : Blk w P.p #[.slice P.ta P.n P.tc, .int .i64 P.F, .int .i64 P.S, .slice (some ⟨P.E, 0, none⟩) P.n P.n, .slice (some ⟨P.Bb, 0, none⟩) P.n P.n, .slice none 0 0]
  bb : Blk w P.Bb (madeCells #[.int .i64 0] P.n)
  ev : EvB P.B1 P.E P.n w r
  mt : MutT P.B0 w P.ta P.n P.tc P.g
section
variable {P : CrP} {w w' : World} {r : Nat → EvV}
theorem CrM.ext (h : CrM P w r) (hb : Below w.heap.size w w') : CrM P w' r := ⟨h.bp.extC hb, h.bb.extC hb, h.ev.ext hb, h.mt.ext hb⟩
theorem CrM.set (hf : CrF P) (h : CrM P w r) {i : Nat} (hi : i < P.n) (v : EvV) (hv : w.ownsRow P.B1 44 2 (.slice v.a v.n v.c) v.n (v.es.flatMap enc2)) : CrM P (w.setCell ⟨P.E, i, none⟩ (.slice v.a v.n v.c)) (fun j => if j = i then v else r j) :=
  ⟨h.bp.far hf.ne.1.symm _, h.bb.far hf.ne.2.symm _, h.ev.set hi v hv, h.mt.far hf.ti hf.ke _⟩
theorem EvB.far {B E m q i : Nat} {w : World} {r : Nat → EvV} (h : EvB B E m w r) (hq : q < E) (v : Value) : EvB B E m (w.setCell ⟨q, i, none⟩ v) r :=
  ⟨fun j hj => (World.cell?_setCell_other _ _ _ _ (addr_neC (.inl (by omega)))).trans (h.be j hj), fun j => by rw [World.frozen?_setCell]; exact h.fe j, h.lt, by simpa using h.z, fun j hj => owns_far (h.o j hj) (Nat.lt_trans hq h.lt) _⟩
theorem CrM.far (hf : CrF P) (h : CrM P w r) {q i : Nat} (hq : q < P.B0) (v : Value) : CrM P (w.setCell ⟨q, i, none⟩ v) r :=
  ⟨h.bp.far (by have := hf.p.1; omega) _, h.bb.far (by have := hf.b.1; omega) _, h.ev.far (by have := hf.E.1; omega) _, ⟨⟨owns_far h.mt.own.own hq v, fun t ht => owns_far (h.mt.own.ok t ht) hq v⟩, h.mt.ap⟩⟩
theorem CrM.run {L : List Ta} (h : CrM P w r) (hn : P.n ≤ 1000) (hg : P.g.map TaV.ta = L) (hl : L.length = P.n) {EV : List (List P2)} (he : EV = (List.range P.n).map fun i => (r i).es) :
    ReadRun w ⟨P.ta, P.n, P.tc, some ⟨P.E, 0, none⟩, P.n, P.n, some ⟨P.Bb, 0, none⟩, P.n, P.n, none, 0, 0⟩ (tcR L P.F P.S EV) := by
  refine ⟨?_, ?_, ?_, Rd.nil _ _ _⟩
  · have := h.mt.rdL
    rw [hg] at this; exact this
  · subst he; exact h.ev.evl hn
  · have := made_bu h.bb hn
    show Rd w _ P.n 1 ((List.replicate L.length (0 : Int)).map enc1)
    rw [hl]; exact this
end
/-- the bunches of those that are ahead -/
def evU (ah : List Int) (L : List Ta) (G : Int) (i : Nat) : List P2 := if (i : Int) ∈ ah then bunchL (max (taAt L i).first (G - (taAt L i).jit)) (taAt L i).gap G 6 else []
theorem evU_step {xs : List Int} {j x : Nat} (h : xs[j]? = some (x : Int)) (L : List Ta) (G : Int) (i : Nat) : evU (xs.take (j + 1)) L G i = if i = x then bunchL (max (taAt L x).first (G - (taAt L x).jit)) (taAt L x).gap G 6 else evU (xs.take j) L G i := by
  obtain ⟨h1, h2⟩ := List.getElem?_eq_some_iff.1 h
  have e : xs.take (j + 1) = xs.take j ++ [(x : Int)] := by rw [List.take_succ_eq_append_getElem h1, h2]
  unfold evU
  rw [e]
  by_cases q : i = x
  · subst q; rw [if_pos rfl, if_pos (by simp)]
  · rw [if_neg q]
    have : ((i : Int) ∈ xs.take j ++ [(x : Int)]) ↔ (i : Int) ∈ xs.take j := by
      rw [List.mem_append]
      constructor
      · rintro (h | h)
        · exact h
        · simp at h; omega
      · exact .inl
    by_cases q2 : (i : Int) ∈ xs.take j
    · rw [if_pos q2, if_pos (this.2 q2)]
    · rw [if_neg q2, if_neg (fun h => q2 (this.1 h))]
theorem critEv_of (ah : List Int) (L : List Ta) (G : Int) (t i : Nat) : critEv ah L G t i = if i = t then [(G - (taAt L t).jit, (taAt L t).jit)] else evU ah L G i := by
  unfold critEv evU; rfl
theorem Bunch_is {f ga j G : Int} {l : List P2} {w : World} (hv : vpat f ga j = true) (h1 : f + j ≤ G) (h2 : G ≤ 500000) (hl : bunchL (max f (G - j)) ga G 6 = l) :
    Calls Try.prog 73 #[.agg #[.int .i64 f, .int .i64 ga, .int .i64 j], .int .i64 G, .int .i64 6] w (OutP w.heap.size w l 0) := by
  obtain ⟨k1, k2, k3⟩ := vpat_iff.1 hv
  have := bunch_any f ga j G 6 w
  have e : bunchC f ga j G 6 = true := by unfold bunchC; rw [hv, inB_iff.2 (show (0 : Int) ≤ 6 ∧ (6 : Int) ≤ 40 by decide), inB_iff.2 ⟨by omega, h2⟩]; rfl
  rw [if_pos e, if_pos e] at this
  subst hl; exact this
theorem rBunch_is {f ga j G : Int} {l : List P2} {w : World} (hv : vpat f ga j = true) (h1 : f + j ≤ G) (h2 : G ≤ 500000) (hl : bunchL (max f (G - j)) ga G 6 = l) :
    Calls Try.prog 74 #[.agg #[.int .i64 f, .int .i64 ga, .int .i64 j], .int .i64 G, .int .i64 6] w (OutP w.heap.size w l 0) := by
  obtain ⟨k1, k2, k3⟩ := vpat_iff.1 hv
  have := rbunch_any f ga j G 6 w
  have e : bunchC f ga j G 6 = true := by unfold bunchC; rw [hv, inB_iff.2 (show (0 : Int) ≤ 6 ∧ (6 : Int) ≤ 40 by decide), inB_iff.2 ⟨by omega, h2⟩]; rfl
  rw [if_pos e, if_pos e] at this
  subst hl; exact this
theorem one_ev (w : World) (x y : Int) : (w.alloc (.cells #[.int .i64 x, .int .i64 y] 44)).ownsRow w.heap.size 44 2 (.slice (some ⟨w.heap.size, 0, none⟩) 1 1) 1 ([(x, y)].flatMap enc2) := World.ownsRow_lit w #[.int .i64 x, .int .i64 y] 1 (Nat.le_refl _) (by decide) rfl
end Go.Proofs.Ytlhnhmimhpcoaaa
namespace Go.Proofs.Ytlhnhmimhpcoaaa
open Go.RowKit
set_option linter.unusedSimpArgs false
set_option linter.unusedVariables false
structure CrR (B1 p E Bb n : Nat) (F S : Int) (w : World) (a : Option Addr) (j c : Nat) (g : List TaV) : Prop where
  lt : p < B1 ∧ E < B1 ∧ Bb < B1
  ne : p ≠ E ∧ Bb ≠ E ∧ p ≠ Bb
  bp : Blk w p #[.slice a j c, .int .i64 F, .int .i64 S, .slice (some ⟨E, 0, none⟩) n n, .slice (some ⟨Bb, 0, none⟩) n n, .slice none 0 0]
  bb : Blk w Bb (madeCells #[.int .i64 0] n)
  be : Blk w E (madeCells #[.slice none 0 0] n)
  mt : MutT B1 w a j c g
  z : B1 ≤ w.heap.size
theorem Blk.low {w w' : World} {b B : Nat} {cs : Array Value} (h : Blk w b cs) (hb : Below B w w') (hl : b < B) : Blk w' b cs :=
  ⟨fun i => (hb.cell (p := ⟨b, i, none⟩) hl).trans (h.c i), fun i => (hb.frozen (p := ⟨b, i, none⟩) hl).trans (h.f i), Nat.lt_of_lt_of_le h.l hb.size⟩
theorem Blk.set0 {w : World} {p : Nat} {v0 v1 v2 v3 v4 v5 v : Value} (h : Blk w p #[v0, v1, v2, v3, v4, v5]) : Blk (w.setCell ⟨p, 0, none⟩ v) p #[v, v1, v2, v3, v4, v5] := by
  have h0 := h.c 0
  simp at h0
  refine ⟨fun i => ?_, fun i => by rw [World.frozen?_setCell]; exact h.f i, by simpa using h.l⟩
  cases i with
  | zero => exact World.cell?_setCell_same _ _ _ h0
  | succ i =>
    refine (World.cell?_setCell_other _ _ _ _ (addr_neC (.inr (by omega)))).trans ((h.c (i + 1)).trans ?_)
    match i with
    | 0 => rfl
    | 1 => rfl
    | 2 => rfl
    | 3 => rfl
    | 4 => rfl
    | i + 5 => simp
section
variable {B1 p E Bb n : Nat} {F S : Int} {w w' : World} {a : Option Addr} {j c : Nat} {g : List TaV}
theorem CrR.push (h : CrR B1 p E Bb n F S w a j c g) (hb : Below B1 w w') {a3 : Option Addr} {j3 c3 : Nat} {g3 : List TaV} (hm : MutT B1 w' a3 j3 c3 g3) : CrR B1 p E Bb n F S (w'.setCell ⟨p, 0, none⟩ (.slice a3 j3 c3)) a3 j3 c3 g3 :=
  ⟨h.lt, h.ne, (h.bp.low hb h.lt.1).set0, (h.bb.low hb h.lt.2.2).far h.ne.2.2 _, (h.be.low hb h.lt.2.1).far h.ne.1 _, ⟨⟨owns_far hm.own.own h.lt.1 _, fun t ht => owns_far (hm.own.ok t ht) h.lt.1 _⟩, hm.ap⟩, by have := Nat.le_trans h.z hb.size; simpa using this⟩
/-- a task with its pieces is appended -/
theorem MutT.push {B : Nat} {w wS w3 : World} {g' : List TaV} {k c' : Nat} {a' a2 a3 : Option Addr} {tn c2 c3 : Nat} {pri dl fi gap jit : Int} {pcs : List P2} {cs : Array Value}
    (h : MutT B w a' k c' g') (hB : B ≤ w.heap.size) (hS : Below w.heap.size w wS) (hO2 : wS.ownsRow (w.heap.size + 1) 52 2 (.slice a2 tn c2) tn (pcs.flatMap enc2))
    (hO3 : w3.ownsRow B 50 6 (.slice a3 (k + 1) c3) (k + 1) (g'.flatMap encTa ++ encTa ⟨pri, dl, fi, gap, jit, a2, tn, c2, pcs⟩)) (hg : (wS.alloc (.cells cs 50)).grownBy w3 (Value.slice a' k c').ownBlock) :
    MutT B w3 a3 (k + 1) c3 (g' ++ [⟨pri, dl, fi, gap, jit, a2, tn, c2, pcs⟩]) := by
  have hOw := (owns_ext h.own.own hS).alloc (.cells cs 50)
  have hkeep : ∀ {t : TaV} {B : Nat}, PcO B wS t → PcO B w3 t := fun h => owns_kept (h.alloc _) hOw (by decide) hg
  refine ⟨⟨by rw [List.flatMap_append]; simpa using hO3, fun t ht => ?_⟩, PcAp.app h.ap (fun u hu x hx => ((h.own.ok u hu).low x hx).2) (fun x hx => (PcO.low (t := ⟨pri, dl, fi, gap, jit, a2, tn, c2, pcs⟩) hO2 x hx).1)⟩
  rcases List.mem_append.1 ht with ht | ht
  · exact hkeep (owns_ext (h.own.ok t ht) hS)
  · simp at ht
    subst ht
    exact hkeep (t := ⟨pri, dl, fi, gap, jit, a2, tn, c2, pcs⟩) (owns_mono hO2 (by omega))
end
end Go.Proofs.Ytlhnhmimhpcoaaa
