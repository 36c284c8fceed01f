/- The contracts of Blockers, Blocking, Raised of the reference. The conditions: the tasks read as named. -/
import Derived.Test.YtlhnhmimhpcoaaaTkRef2
namespace Go.Proofs.Ytlhnhmimhpcoaaa
open Go.RowKit
set_option linter.unusedSimpArgs false
set_option linter.unusedVariables false
theorem EB : Elt Try.prog 27 44 2 16 := Elt.mk' (z := .agg #[.int .i64 0, .int .i64 0]) Try.underlying27 (by kernel_rfl) rfl (by decide)
theorem ownsP_snoc {B : Nat} {w : World} {e : Nat} {xs : List P2} {x y : Int} {v : Value} {n : Nat} (h : w.ownsRow B e 2 v n (xs.flatMap enc2 ++ [.int .i64 x, .int .i64 y])) : w.ownsRow B e 2 v n ((xs ++ [(x, y)]).flatMap enc2) := by
  rw [List.flatMap_append]; exact h
theorem ownsP_rd {B : Nat} {w : World} {e : Nat} {xs : List P2} {a : Option Addr} {n c : Nat} (h : w.ownsRow B e 2 (.slice a n c) n (xs.flatMap enc2)) : Rd w a n 2 (xs.map enc2) := Rd.of_owns enc2_len (by decide) h
/-- a task of valid tasks -/
def isTk (L : List Ta) (t : Int) : Bool := rightB L && inB t 0 ((L.length : Int) - 1)
theorem isTk_iff {L : List Ta} {t : Int} : isTk L t = true ↔ rightB L = true ∧ 0 ≤ t ∧ t < L.length := by
  unfold isTk; rw [Bool.and_eq_true, inB_iff]; constructor <;> (rintro ⟨h1, h2, h3⟩; exact ⟨h1, by omega, by omega⟩)
def blksR (L : List Ta) (t : Int) : List P2 × Int := if isTk L t then (blockL L t, 0) else ([], 1)
theorem blkP_len (L : List Ta) (t j : Int) : ∀ (ps : List P2) (k : Nat), (blkP L t j k ps).length ≤ ps.length
  | [], _ => by simp [blkP]
  | p :: ps, k => by
    have := blkP_len L t j ps (k + 1)
    rw [blkP]; split <;> simp <;> omega
theorem taAt_mem {L : List Ta} {k : Nat} (h : k < L.length) : taAt L k ∈ L := by
  rw [taAt_of (List.getElem?_eq_getElem h)]; exact List.getElem_mem h
theorem blkFrom_len {L : List Ta} (hv : Right L) (t : Int) : ∀ (f j : Nat), j + f ≤ L.length → (blkFrom L t f j).length ≤ 8 * f
  | 0, _, _ => by simp [blkFrom]
  | f + 1, j, h => by
    have h1 := blkFrom_len hv t f (j + 1) (by omega)
    have h2 := blkP_len L t j (taAt L j).pcs 0
    have h3 := (hv.pcs _ (taAt_mem (L := L) (k := j) (by omega))).2
    rw [blkFrom, List.length_append]
    split
    · omega
    · simp; omega
theorem blockL_len {L : List Ta} (hv : Right L) (t : Int) : (blockL L t).length ≤ 40 := by
  have := blkFrom_len hv t L.length 0 (by omega)
  have := hv.len
  unfold blockL; omega
def OutBE (B : Nat) (w : World) (xs : List P2) (er : Int) (e : Ending) (w' : World) : Prop :=
  ∃ a n c, e = .returned (.tuple #[.slice a n c, .int .i64 er]) ∧ w'.ownsRow B 44 2 (.slice a n c) n (xs.flatMap enc2) ∧ Below B w w'
theorem OutBE.none {B : Nat} {w w' : World} {er : Int} (hb : Below B w w') : OutBE B w [] er (.returned (.tuple #[.slice none 0 0, .int .i64 er])) w' := ⟨_, _, _, rfl, World.ownsRow_nil _ _ _ _, hb⟩
theorem blkFrom_step {L : List Ta} {t : Int} {f j : Nat} : blkFrom L t (f + 1) j = (if aheadB L t j = true then blkP L t j 0 (taAt L j).pcs else []) ++ blkFrom L t f (j + 1) := rfl
theorem Rd.piece {w : World} {a : Option Addr} {n : Nat} {ps : List P2} (h : Rd w a n 2 (ps.map enc2)) (k : Nat) (hk : k < n) : ∃ (p : P2) (b off : Nat), a = some ⟨b, off, none⟩ ∧ b < w.heap.size ∧
    w.cell? ⟨b, off + k * 2, none⟩ = some (.int .i64 p.1) ∧ w.cell? ⟨b, off + k * 2 + 1, none⟩ = some (.int .i64 p.2) ∧ ps[k]? = some p ∧ Hid (ps.drop k = p :: ps.drop (k + 1)) := by
  obtain ⟨hl, b, off, rfl, hb, h1, h2⟩ := h.two k hk
  exact ⟨_, b, off, rfl, hb, h1, h2, List.getElem?_eq_getElem hl, List.drop_eq_getElem_cons hl⟩
end Go.Proofs.Ytlhnhmimhpcoaaa
