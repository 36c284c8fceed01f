/- A graph of threads in memory. No condition: plain lemmas. -/
import Derived.Test.YtmdjbnicjohkjaaLst
namespace Go.Proofs.Ytmdjbnicjohkjaa
open Go.RowKit
set_option linter.unusedSimpArgs false
set_option linter.unusedVariables false
/-- a thread as the document has it -/
structure Th where
  pri : Int
  holds : List Int
  waits : Int
deriving DecidableEq, Inhabited
/-- a thread as it lies in memory: the header of its slice, and what that reads as -/
structure ThV where
  pri : Int
  a : Option Addr
  n : Nat
  c : Nat
  waits : Int
  holds : List Int
deriving Inhabited
def ThV.th (t : ThV) : Th := ⟨t.pri, t.holds, t.waits⟩
def encTh (t : ThV) : List Value := [.int .i64 t.pri, .slice t.a t.n t.c, .int .i64 t.waits]
abbrev valTh (t : ThV) : Value := .agg #[.int .i64 t.pri, .slice t.a t.n t.c, .int .i64 t.waits]
theorem encTh_len (t : ThV) : (encTh t).length = 3 := rfl
theorem encTh_one (t : ThV) : ∀ u ∈ encTh t, u.oneCell' = true := by intro u hu; simp [encTh] at hu; rcases hu with rfl | rfl | rfl <;> rfl
/-- its slice reads as its locks -/
def ThV.ok (w : World) (t : ThV) : Prop := Rd w t.a t.n 1 (t.holds.map enc1) ∧ (t.n = 0 → (t.a = none ∧ t.c = 0) ∨ ∃ ad, t.a = some ad)
theorem ThV.ok.ext {w w' : World} {t : ThV} (h : t.ok w) (hb : Below w.heap.size w w') : t.ok w' := ⟨h.1.ext hb, h.2⟩
/-- a slice of threads -/
structure RdG (w : World) (a : Option Addr) (n : Nat) (g : List ThV) : Prop where
  rd : Rd w a n 3 (g.map encTh)
  ok : ∀ t ∈ g, t.ok w
theorem RdG.ext {w w' : World} {a n g} (h : RdG w a n g) (hb : Below w.heap.size w w') : RdG w' a n g := ⟨h.rd.ext hb, fun t ht => (h.ok t ht).ext hb⟩
theorem RdG.length {w a n} {g : List ThV} (h : RdG w a n g) : g.length = n := h.rd.length
theorem RdG.small {w a n} {g : List ThV} (h : RdG w a n g) : n ≤ 9223372036854775807 := h.rd.small
/-- the element at k -/
theorem RdG.at_ {w a n} {g : List ThV} (h : RdG w a n g) (k : Nat) (hk : k < n) : ∃ (t : ThV) (b off : Nat), a = some ⟨b, off, none⟩ ∧ b < w.heap.size ∧
    w.cell? ⟨b, off + k * 3, none⟩ = some (.int .i64 t.pri) ∧ w.cell? ⟨b, off + k * 3 + 1, none⟩ = some (.slice t.a t.n t.c) ∧ w.cell? ⟨b, off + k * 3 + 2, none⟩ = some (.int .i64 t.waits) ∧
    t.ok w ∧ g[k]? = some t ∧ Hid (g.drop k = t :: g.drop (k + 1)) := by
  have hl : k < g.length := by rw [h.length]; exact hk
  obtain ⟨b, off, rfl, hlt, hc⟩ := h.rd.at_ (by omega)
  have h0 := hc k (by simpa using hl) 0 (by omega)
  have h1 := hc k (by simpa using hl) 1 (by omega)
  have h2 := hc k (by simpa using hl) 2 (by omega)
  simp [encTh] at h0 h1 h2
  exact ⟨g[k], b, off, rfl, hlt, h0, h1, h2, h.ok _ (List.getElem_mem hl), by simp, List.drop_eq_getElem_cons hl⟩
theorem later_rdG {w w1 : World} {x : After w1} {a n g} (h : RdG w a n g) (hb : Below w.heap.size w w1) : RdG (World.later w1 x) a n g := (h.ext hb).ext x.below
def sumH : List ThV → Nat
  | [] => 0
  | t :: g => t.n + sumH g
end Go.Proofs.Ytmdjbnicjohkjaa
