/- Rows of ints that a call lays and writes into; what effective computes. No condition: plain lemmas. -/
import Derived.Test.YtmdjbnicjohkjaaLkCircW
import Derived.Laws.OwnMore
import Derived.OwnWalk
namespace Go.Proofs.Ytmdjbnicjohkjaa
open Go.RowKit
set_option linter.unusedSimpArgs false
set_option linter.unusedVariables false
theorem flat_enc1 (xs : List Int) : xs.flatMap enc1 = xs.map (Value.int .i64) := by
  induction xs with
  | nil => rfl
  | cons x xs ih => simp [enc1, ih]
/-- make([]int, n) -/
theorem wpList_mkI {ops : Array Oper} {rest : List Oper} {o : Oper} {a : Act} {Q : Exit → Act → World → Prop} {w : World} (hg : o.guard = none) (l c : Operand) (hop : o.op = Op.makeSlice 27 l c)
    {B : Nat} {kl kc : IntKind} {C D : Int} (n : Nat) (hl : a.eval l = .int kl D) (hc : a.eval c = .int kc C) (hD : D = (n : Int)) (hC : C = (n : Int)) (hn : n ≤ 100000000) (hB : B ≤ w.heap.size)
    (hK : ∀ w', w'.ownsRow B 3 1 (.slice (some ⟨w.heap.size, 0, none⟩) n n) n ((List.replicate n (0 : Int)).flatMap enc1) → Below B w w' → w.heap.size < w'.heap.size → wpList Try.prog ops Q rest (a.put o.dst (.slice (some ⟨w.heap.size, 0, none⟩) n n)) w') : wpList Try.prog ops Q (o :: rest) a w := by
  obtain ⟨i, h1, h2, h3, h4⟩ := info_parts (show (Try.prog.info? 3).map (fun i => (i.zero, i.size, i.bytes)) = some (some (.int .i64 0), 1, 8) by kernel_rfl)
  refine wpList_make_full w hg l c 27 hop B 3 i (.int .i64 0) 1 Try.underlying27 h1 h2 h3 kl kc D C n hl hc hD hC (by rw [h4]; omega) (by unfold maxLen; omega) hB fun w' q1 q2 => hK w' ?_ ((Below.refl B w).grown q2 hB (by simp)) ?_
  · rw [flat_enc1, List.map_replicate]
    have : (madeCells (Value.int IntKind.i64 0).cells (n * 1)).toList = List.replicate n (Value.int .i64 0) := by rw [Nat.mul_one]; exact toList_madeCells_one _ n
    rw [← this]; exact q1
  · rcases q1.2 with ⟨h, _⟩ | ⟨g, cap, cur, h, _, hh, _⟩
    · simp at h
    · simp at h; rw [h.1]; exact (Array.getElem?_eq_some_iff.1 hh).1
theorem ownsI_at {w : World} {B q n c : Nat} {xs : List Int} (h : w.ownsRow B 3 1 (.slice (some ⟨q, 0, none⟩) n c) n (xs.flatMap enc1)) (j : Nat) (hj : j < n) : ∃ x, xs[j]? = some x ∧ w.cell? ⟨q, j, none⟩ = some (.int .i64 x) ∧ w.frozen? ⟨q, j, none⟩ = false ∧ q < w.heap.size := by
  have hl : xs.length = n := (ownsI_rd h).length
  refine ⟨xs[j], by simp, ?_, h.frozenAt j, ?_⟩
  · rw [h.cellAt j (by omega), flat_enc1]; simp
  · rcases h.2 with ⟨h', _⟩ | ⟨g', cap', cur, h', _, hg, _⟩
    · simp at h'
    · simp at h'; rw [h'.1]; exact (Array.getElem?_eq_some_iff.1 hg).1
theorem ownsI_set {w : World} {B q n c : Nat} {xs : List Int} (h : w.ownsRow B 3 1 (.slice (some ⟨q, 0, none⟩) n c) n (xs.flatMap enc1)) (j : Nat) (x : Int) : (w.setCell ⟨q, j, none⟩ (.int .i64 x)).ownsRow B 3 1 (.slice (some ⟨q, 0, none⟩) n c) n ((xs.set j x).flatMap enc1) := by
  have := (h.stored j (.int .i64 x)).1
  rw [flat_enc1] at this ⊢
  rw [List.map_set]; exact this
/-- out[n] = max(out[n], p) -/
def upd (p : Int) (xs : List Int) (n : Int) : List Int := xs.set n.toNat (max ((xs[n.toNat]?).getD 0) p)
theorem upd_len (p : Int) (xs : List Int) (n : Int) : (upd p xs n).length = xs.length := by simp [upd]
theorem upd_at {p x : Int} {xs : List Int} {j : Nat} (h : xs[j]? = some x) : upd p xs j = xs.set j (max x p) := by simp [upd, h]
def priG (g : List Th) (k : Nat) : Int := ((g[k]?).map Th.pri).getD 0
def effStep (g : List Th) (xs : List Int) (k : Nat) : List Int := (chainG g k).foldl (upd (priG g k)) (upd (priG g k) xs k)
def effFrom (g : List Th) : Nat → Nat → List Int → List Int
  | 0, _, xs => xs
  | f + 1, k, xs => effFrom g f (k + 1) (effStep g xs k)
def effL (g : List Th) : List Int := effFrom g g.length 0 (List.replicate g.length 0)
theorem owns_far {w : World} {B e k n q j : Nat} {v : Value} {xs : List Value} (h : w.ownsRow B e k v n xs) (hq : q < B) (u : Value) : (w.setCell ⟨q, j, none⟩ u).ownsRow B e k v n xs := by
  refine ⟨h.1, h.2.imp id ?_⟩
  rintro ⟨g, cap, cur, hv, hg, hh, r⟩
  refine ⟨g, cap, cur, hv, hg, ?_, r⟩
  rw [heap_setCell_other w ⟨q, j, none⟩ g u (by simp only []; omega)]; exact hh
theorem effFrom_step {g : List Th} {f k : Nat} {xs R : List Int} (h : effFrom g (f + 1) k xs = R) : effFrom g f (k + 1) ((chainG g k).foldl (upd (priG g k)) (upd (priG g k) xs k)) = R := h
theorem priG_at {g : List ThV} {k : Nat} {t : ThV} (h : g[k]? = some t) : priG (g.map ThV.th) k = t.pri := by simp [priG, List.getElem?_map, h, ThV.th]
end Go.Proofs.Ytmdjbnicjohkjaa
