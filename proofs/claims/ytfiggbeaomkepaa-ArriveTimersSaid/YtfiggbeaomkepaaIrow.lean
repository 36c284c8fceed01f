/- Rows of ints: what a call lays, reads and writes. No condition: plain lemmas. -/
import Derived.Test.YtfiggbeaomkepaaLst
import Derived.Test.YtfiggbeaomkepaaPred
import Derived.Test.YtfiggbeaomkepaaApp
import Derived.Laws.OwnMore
import Derived.OwnWalk
namespace Go.Proofs.Ytfiggbeaomkepaa
open Go.RowKit
set_option linter.unusedSimpArgs false
set_option linter.unusedVariables false
theorem E1 : Elt Try.prog 55 3 1 8 := Elt.mk' (z := .int .i64 0) Try.underlying55 (by kernel_rfl) rfl (by decide)
theorem enc1_len (x : Int) : (enc1 x).length = 1 := rfl
theorem enc1_one (x : Int) : ∀ u ∈ enc1 x, u.oneCell' = true := by intro u hu; simp [enc1] at hu; rcases hu with rfl; rfl
def lenOf : Value → Nat
  | .slice _ n _ => n
  | _ => 0
def OutI (B : Nat) (w : World) (xs : List Int) (e : Ending) (w' : World) : Prop :=
  ∃ a n c, e = .returned (.slice a n c) ∧ w'.ownsRow B 3 1 (.slice a n c) n (xs.flatMap enc1) ∧ Below B w w'
theorem ownsI_rd {B : Nat} {w : World} {xs : List Int} {a : Option Addr} {n c : Nat} (h : w.ownsRow B 3 1 (.slice a n c) n (xs.flatMap enc1)) : Rd w a n 1 (xs.map enc1) := Rd.of_owns enc1_len (by decide) h
theorem ownsI_snoc {B : Nat} {w : World} {xs : List Int} {x : Int} {v : Value} {n : Nat} (h : w.ownsRow B 3 1 v n (xs.flatMap enc1 ++ [.int .i64 x])) : w.ownsRow B 3 1 v n ((xs ++ [x]).flatMap enc1) := by
  rw [List.flatMap_append]; exact h
/-- a list made by the call, and an error number -/
def OutIE (B : Nat) (w : World) (xs : List Int) (er : Int) (e : Ending) (w' : World) : Prop :=
  ∃ a n c, e = .returned (.tuple #[.slice a n c, .int .i64 er]) ∧ w'.ownsRow B 3 1 (.slice a n c) n (xs.flatMap enc1) ∧ Below B w w'
theorem OutIE.none {B : Nat} {w w' : World} {er : Int} (hb : Below B w w') : OutIE B w [] er (.returned (.tuple #[.slice none 0 0, .int .i64 er])) w' := ⟨_, _, _, rfl, World.ownsRow_nil _ _ _ _, hb⟩
theorem owns_one (w : World) (x : Value) (T : TypeId) : (w.alloc (.cells #[x] T)).ownsRow w.heap.size T 1 (.slice (some ⟨w.heap.size, 0, none⟩) 1 1) 1 [x] :=
  ⟨rfl, .inr ⟨w.heap.size, 1, #[x], rfl, Nat.le_refl _, by show (w.heap.push _)[w.heap.size]? = _; simp, Nat.le_refl _, by decide, rfl, rfl⟩⟩
theorem owns_nil {w : World} {B e k n c : Nat} {a : Option Addr} {xs : List Value} (h : w.ownsRow B e k (.slice a n c) n xs) : n = 0 → (a = none ∧ c = 0) ∨ ∃ ad, a = some ad := by
  intro _
  rcases h.2 with ⟨hv, _⟩ | ⟨g, cap, cur, hv, _⟩
  · simp at hv; exact .inl ⟨hv.1, hv.2.2⟩
  · simp at hv; exact .inr ⟨_, hv.1⟩
theorem flat_enc1 (xs : List Int) : xs.flatMap enc1 = xs.map (Value.int .i64) := by
  induction xs with
  | nil => rfl
  | cons x xs ih => simp [enc1, ih]
/-- make([]int, n) -/
theorem wpList_mkI {ops : Array Oper} {rest : List Oper} {o : Oper} {a : Act} {Q : Exit → Act → World → Prop} {w : World} (hg : o.guard = none) (l c : Operand) (hop : o.op = Op.makeSlice 55 l c)
    {B : Nat} {kl kc : IntKind} {C D : Int} (n : Nat) (hl : a.eval l = .int kl D) (hc : a.eval c = .int kc C) (hD : D = (n : Int)) (hC : C = (n : Int)) (hn : n ≤ 100000000) (hB : B ≤ w.heap.size)
    (hK : ∀ w', w'.ownsRow B 3 1 (.slice (some ⟨w.heap.size, 0, none⟩) n n) n ((List.replicate n (0 : Int)).flatMap enc1) → Below B w w' → w.heap.size < w'.heap.size → wpList Try.prog ops Q rest (a.put o.dst (.slice (some ⟨w.heap.size, 0, none⟩) n n)) w') : wpList Try.prog ops Q (o :: rest) a w := by
  obtain ⟨i, h1, h2, h3, h4⟩ := info_parts (show (Try.prog.info? 3).map (fun i => (i.zero, i.size, i.bytes)) = some (some (.int .i64 0), 1, 8) by kernel_rfl)
  refine wpList_make_full w hg l c 55 hop B 3 i (.int .i64 0) 1 Try.underlying55 h1 h2 h3 kl kc D C n hl hc hD hC (by rw [h4]; omega) (by unfold maxLen; omega) hB fun w' q1 q2 => hK w' ?_ ((Below.refl B w).grown q2 hB (by simp)) ?_
  · rw [flat_enc1, List.map_replicate]
    have : (madeCells (Value.int IntKind.i64 0).cells (n * 1)).toList = List.replicate n (Value.int .i64 0) := by rw [Nat.mul_one]; exact toList_madeCells_one _ n
    rw [← this]; exact q1
  · rcases q1.2 with ⟨h, _⟩ | ⟨g, cap, cur, h, _, hh, _⟩
    · simp at h
    · simp at h; rw [h.1]; exact (Array.getElem?_eq_some_iff.1 hh).1
theorem ownsI_at {w : World} {B q n c : Nat} {xs : List Int} (h : w.ownsRow B 3 1 (.slice (some ⟨q, 0, none⟩) n c) n (xs.flatMap enc1)) (j : Nat) (hj : j < n) : ∃ x, xs[j]? = some x ∧ w.cell? ⟨q, j, none⟩ = some (.int .i64 x) ∧ w.frozen? ⟨q, j, none⟩ = false ∧ q < w.heap.size := by
  have hl : xs.length = n := (ownsI_rd h).length
  refine ⟨xs[j], by simp, ?_, h.frozenAt j, ?_⟩
  · rw [h.cellAt j (by omega), flat_enc1]; simp
  · rcases h.2 with ⟨h', _⟩ | ⟨g', cap', cur, h', _, hg, _⟩
    · simp at h'
    · simp at h'; rw [h'.1]; exact (Array.getElem?_eq_some_iff.1 hg).1
theorem ownsI_set {w : World} {B q n c : Nat} {xs : List Int} (h : w.ownsRow B 3 1 (.slice (some ⟨q, 0, none⟩) n c) n (xs.flatMap enc1)) (j : Nat) (x : Int) : (w.setCell ⟨q, j, none⟩ (.int .i64 x)).ownsRow B 3 1 (.slice (some ⟨q, 0, none⟩) n c) n ((xs.set j x).flatMap enc1) := by
  have := (h.stored j (.int .i64 x)).1
  rw [flat_enc1] at this ⊢
  rw [List.map_set]; exact this
theorem owns_far {w : World} {B e k n q j : Nat} {v : Value} {xs : List Value} (h : w.ownsRow B e k v n xs) (hq : q < B) (u : Value) : (w.setCell ⟨q, j, none⟩ u).ownsRow B e k v n xs := by
  refine ⟨h.1, h.2.imp id ?_⟩
  rintro ⟨g, cap, cur, hv, hg, hh, r⟩
  refine ⟨g, cap, cur, hv, hg, ?_, r⟩
  rw [heap_setCell_other w ⟨q, j, none⟩ g u (by simp only []; omega)]; exact hh
theorem get_of_drop {α : Type} {l r : List α} {j : Nat} {x : α} (h : l.drop j = x :: r) : l[j]? = some x := by
  have : (l.drop j)[0]? = some x := by rw [h]; rfl
  rw [List.getElem?_drop] at this; exact this
theorem take_of_drop {α : Type} {l r : List α} {j : Nat} {x : α} (h : l.drop j = x :: r) : l.take (j + 1) = l.take j ++ [x] := by
  rw [List.take_add_one, get_of_drop h]; rfl
theorem Rd.idx {w a n} {xs : List Int} (h : Rd w a n 1 (xs.map enc1)) (k : Nat) (hk : k < n) : ∃ (x : Int) (b off : Nat), a = some ⟨b, off, none⟩ ∧ b < w.heap.size ∧ w.cell? ⟨b, off + k, none⟩ = some (.int .i64 x) ∧ xs[k]? = some x := by
  obtain ⟨x, b, off, h1, h2, h3, HD⟩ := h.next1 k hk
  exact ⟨x, b, off, h1, h2, h3, get_of_drop HD.out⟩
def OutN (B n : Nat) (T k : Nat) (w : World) (xs : List Value) (e : Ending) (w' : World) : Prop :=
  ∃ a c, e = .returned (.slice a n c) ∧ w'.ownsRow B T k (.slice a n c) n xs ∧ Below B w w'
theorem owns_addr {w : World} {B e k n c : Nat} {a : Option Addr} {xs : List Value} (h : w.ownsRow B e k (.slice a n c) n xs) (hn : 0 < n) : ∃ g, a = some ⟨g, 0, none⟩ ∧ B ≤ g ∧ g < w.heap.size := by
  rcases h.2 with ⟨_, h8⟩ | ⟨g, cap, cur, hv, hB, hg, _⟩
  · omega
  · simp at hv; exact ⟨g, hv.1, hB, (Array.getElem?_eq_some_iff.1 hg).1⟩
end Go.Proofs.Ytfiggbeaomkepaa
