/- Small lemmas that the walks of this seat use: what a slice reads as, what lay below stays, endings. No condition: plain lemmas. Reading a slice from the front: the next element and the rest. No condition: plain lemmas. Predicates handed over as function values; what IndexFunc gives. No condition: plain lemmas. append at a step of a region that draws its order, and what else it keeps. No condition: plain lemmas. Rows of ints: what a call lays, reads and writes. No condition: plain lemmas. The contracts of bits.Mul and slices.Repeat at one int. The conditions: the row reads as named. Plain facts: insertion into a sorted list, and the list of the first numbers. No condition: plain lemmas. -/
import Derived.Test.YtmahagcghpoekaaGreatRows
import Derived.WalkKit
import Derived.ProofKit
import Derived.OpenShut
import Derived.ShutString
import Derived.ChangeOld
import Derived.Below
import Derived.WalkSpells
import Derived.WalkLawsBesides
import Derived.Lib.Hide
import Derived.Lib.SmallJoins
import Derived.Deep.QuietTactic
import Derived.Deep.Slices
import Derived.BigQuiet
import Derived.Outline
import Derived.Handy
import Derived.Deep.DeepFit
import Derived.Laws.AppendOwnNone
import Derived.Shelf.GgClosure.Gives
import Derived.Deep.RegionHeld3
import Derived.Deep.AppendLies
import Derived.Maps.AppendAt
import Derived.Laws.OwnMore
import Derived.OwnWalk
import Derived.Shelf.Bits.Mul64
import Derived.Laws.CopyOwn
import Derived.Deep.RegionLaw
import Derived.Deep.Cut
import Derived.IntWalk
namespace Go.Proofs.YtmahagcghpoekaaGreat
open Go.RowKit
set_option linter.unusedSimpArgs false
set_option linter.unusedVariables false
theorem ret_bool {a b : Bool} (h : a = b) : Ending.returned (.bool a) = .returned (.bool b) := by rw [h]
theorem ret_int {k : IntKind} {a b : Int} (h : a = b) : Ending.returned (.int k a) = .returned (.int k b) := by rw [h]
/-- two results: an int and an error number -/
abbrev rII (a b : Int) : Ending := .returned (.tuple #[.int .i64 a, .int .i64 b])
abbrev rBI (a : Bool) (b : Int) : Ending := .returned (.tuple #[.bool a, .int .i64 b])
abbrev rP (p : Int × Int) : Ending := rII p.1 p.2
abbrev rBP (p : Bool × Int) : Ending := rBI p.1 p.2
theorem rII_eq {a b c d : Int} (h : a = c) (h' : b = d) : Ending.returned (.tuple #[.int .i64 a, .int .i64 b]) = rII c d := by rw [h, h']
theorem rBI_eq {a c : Bool} {b d : Int} (h : a = c) (h' : b = d) : Ending.returned (.tuple #[.bool a, .int .i64 b]) = rBI c d := by rw [h, h']
theorem bcell {W w1 : World} (hb : Below W.heap.size W w1) : (∀ b o, b < W.heap.size → w1.cell? ⟨b, o, none⟩ = W.cell? ⟨b, o, none⟩) ∧ (∀ b o, b < W.heap.size → w1.frozen? ⟨b, o, none⟩ = W.frozen? ⟨b, o, none⟩) :=
  ⟨fun b o h => hb.cell (p := ⟨b, o, none⟩) h, fun b o h => hb.frozen (p := ⟨b, o, none⟩) h⟩
theorem bfacts {W w1 : World} (hb : Below W.heap.size W w1) : (∀ b o, b < W.heap.size → w1.cell? ⟨b, o, none⟩ = W.cell? ⟨b, o, none⟩) ∧ (∀ b o, b < W.heap.size → w1.frozen? ⟨b, o, none⟩ = W.frozen? ⟨b, o, none⟩) ∧ W.heap.size ≤ w1.heap.size ∧ (∀ n, n < W.heap.size → n < w1.heap.size) :=
  ⟨fun b o h => hb.cell (p := ⟨b, o, none⟩) h, fun b o h => hb.frozen (p := ⟨b, o, none⟩) h, hb.size, fun _ h => Nat.lt_of_lt_of_le h hb.size⟩
theorem World.size_drewN (w : World) (n : Nat) : (w.drewN n).heap.size = w.heap.size := rfl
theorem Below.draws {B : Nat} {a w : World} (h : Below B a w) (n : Nat) : Below B a (w.drewN n) := ⟨h.os, h.tape, h.output, h.size, h.block⟩
theorem below_draws {B : Nat} {w : World} (n : Nat) : Below B w (w.drewN n) := ⟨rfl, rfl, rfl, Nat.le_refl _, fun _ _ => rfl⟩
/-- then: a later world, from a world that lies above -/
theorem Below.then {a b c : World} (h : Below a.heap.size a b) (k : Below b.heap.size b c) : Below a.heap.size a c := h.trans (k.mono h.size)
/-- w, or a later world in which all that was in w stays as it was -/
structure After (w : World) where
  to : World
  below : Below w.heap.size w to
instance afterNonempty (w : World) : Nonempty (After w) := ⟨⟨w, Below.refl _ _⟩⟩
def World.later (w : World) (x : After w) : World := x.to
@[go_sem] theorem cell?_later {w : World} {x : After w} {b o : Nat} (h : b < w.heap.size) : (World.later w x).cell? ⟨b, o, none⟩ = w.cell? ⟨b, o, none⟩ := x.below.cell (p := ⟨b, o, none⟩) h
@[go_sem] theorem frozen?_later {w : World} {x : After w} {b o : Nat} (h : b < w.heap.size) : (World.later w x).frozen? ⟨b, o, none⟩ = w.frozen? ⟨b, o, none⟩ := x.below.frozen (p := ⟨b, o, none⟩) h
/-- a region that draws its order, whose callees only make memory: one walk, in the order of the text -/
theorem wp_region_later_lit {P : Program} {id : Nat} {Q : Exit → Act → World → Prop} {a : Act} {w : World} {l : List Oper} (hm : P.follows .mixedOrders = true) (hB : Region.lexB .any l.toArray = true)
    (h : wpQuiet P l.toArray (fun w' => ∃ x, w' = World.later w x) (fun a' => ∀ w', Below w.heap.size w w' → Q .normal a' w') l a) : (Code.region id l.toArray true).wp P Q a w := by
  refine wp_region_quiet (C := fun w' => ∃ x, w' = World.later w x) hm hB ⟨⟨_, (Below.refl _ w).drew⟩, rfl⟩ ?_
  have e : (fun a' : Act => ∀ w', (∃ x, w' = World.later w x) → Q .normal a' w') = (fun a' => ∀ w', Below w.heap.size w w' → Q .normal a' w') := by
    funext a'
    exact propext ⟨fun k w' hb => k w' ⟨⟨w', hb⟩, rfl⟩, fun k w' ⟨x, hx⟩ => hx ▸ k _ x.below⟩
  rw [e]; simpa using h
theorem later_of {P : Program} {f : FuncId} {args : Array Value} {w : World} {x : After w} {v : Value}
    (h : Calls P f args (World.later w x) fun e w' => e = .returned v ∧ Below (World.later w x).heap.size (World.later w x) w') : Calls P f args (World.later w x) fun e w'' => e = .returned v ∧ ∃ y, w'' = World.later w y :=
  h.mono fun _ w' ⟨he, hb⟩ => ⟨he, ⟨w', Below.then x.below hb⟩, rfl⟩
theorem later_same {P : Program} {f : FuncId} {args : Array Value} {w : World} {x : After w} {v : Value}
    (h : Calls P f args (World.later w x) fun e w' => e = .returned v ∧ World.later w x = w') : Calls P f args (World.later w x) fun e w'' => e = .returned v ∧ ∃ y, w'' = World.later w y :=
  h.mono fun _ w' ⟨he, hb⟩ => ⟨he, x, hb.symm⟩
abbrev P2 := Int × Int
def enc2 (p : P2) : List Value := [.int .i64 p.1, .int .i64 p.2]
def enc1 (p : Int) : List Value := [.int .i64 p]
/-- a slice of n elements, each of k cells, at address a reads as xs in w -/
structure Rd (w : World) (a : Option Addr) (n k : Nat) (xs : List (List Value)) : Prop where
  len : xs.length = n
  small : n ≤ 9223372036854775807
  at_ : 0 < n → ∃ b off, a = some ⟨b, off, none⟩ ∧ b < w.heap.size ∧ ∀ i (hi : i < xs.length), ∀ j, j < k → w.cell? ⟨b, off + i * k + j, none⟩ = (xs[i])[j]?
theorem Rd.ext {w w' : World} {a n k xs} (h : Rd w a n k xs) (hb : Below w.heap.size w w') : Rd w' a n k xs :=
  ⟨h.len, h.small, fun h0 => by
    obtain ⟨b, off, rfl, hlt, hc⟩ := h.at_ h0
    exact ⟨b, off, rfl, Nat.lt_of_lt_of_le hlt hb.size, fun i hi j hj => by rw [hb.cell (p := ⟨b, _, none⟩) hlt]; exact hc i hi j hj⟩⟩
theorem Rd.nil (w : World) (k : Nat) (a : Option Addr) : Rd w a 0 k [] := ⟨rfl, by omega, fun h => by omega⟩
theorem Rd.two {w a n} {xs : List P2} (h : Rd w a n 2 (xs.map enc2)) (k : Nat) (hk : k < n) : ∃ (hl : k < xs.length) (b off : Nat), a = some ⟨b, off, none⟩ ∧ b < w.heap.size ∧ w.cell? ⟨b, off + k * 2, none⟩ = some (.int .i64 xs[k].1) ∧ w.cell? ⟨b, off + k * 2 + 1, none⟩ = some (.int .i64 xs[k].2) := by
  have hl : k < xs.length := by have := h.len; simp at this; omega
  obtain ⟨b, off, rfl, hlt, hc⟩ := h.at_ (by omega)
  have h0 := hc k (by simpa using hl) 0 (by omega)
  have h1 := hc k (by simpa using hl) 1 (by omega)
  simp [enc2] at h0 h1
  exact ⟨hl, b, off, rfl, hlt, h0, h1⟩
theorem Rd.one {w a n} {xs : List Int} (h : Rd w a n 1 (xs.map enc1)) (k : Nat) (hk : k < n) : ∃ (hl : k < xs.length) (b off : Nat), a = some ⟨b, off, none⟩ ∧ b < w.heap.size ∧ w.cell? ⟨b, off + k, none⟩ = some (.int .i64 xs[k]) := by
  have hl : k < xs.length := by have := h.len; simp at this; omega
  obtain ⟨b, off, rfl, hlt, hc⟩ := h.at_ (by omega)
  have h0 := hc k (by simpa using hl) 0 (by omega)
  simp [enc1] at h0
  exact ⟨hl, b, off, rfl, hlt, h0⟩
theorem Rd.length {w a n k} {α : Type} {f : α → List Value} {xs : List α} (h : Rd w a n k (xs.map f)) : xs.length = n := by have := h.len; simpa using this
theorem equalIn_pair {P : Program} (t e : TypeId) (d : Nat) (ht : P.underlying t = some (.array 2 e)) (he : P.underlying e = some (.int .i64)) (hz : ∀ w, (sizeOf e).run P w = .ok 1 w) (hp : ∀ w, (isAgg e).run P w = .ok false w) (a b x y : Int) (w : World) :
    (Op.equalIn (d + 2) t (.agg #[.int .i64 a, .int .i64 b]) (.agg #[.int .i64 x, .int .i64 y])).run P w = .ok (a == x && b == y) w := by
  have h1 : ∀ (p q : Int) (w : World), (Op.equalIn (d + 1) e (.int .i64 p) (.int .i64 q)).run P w = .ok (p == q) w := fun p q w => run_equalIn_int w d e .i64 .i64 p q he
  have p0 : ∀ (u v : Value) (w : World), (part e #[u, v] 0).run P w = .ok u w := fun u v w => by simp [part, hp]
  have p1 : ∀ (u v : Value) (w : World), (part e #[u, v] 1).run P w = .ok v w := fun u v w => by simp [part, hp]
  rw [Op.equalIn]
  simp only [Sem.run_bind, run_underlying ht, Result.andThen_ok, hz]
  by_cases e1 : a = x <;> by_cases e2 : b = y <;>
  simp [List.range'_succ, Std.Legacy.Range.forIn_eq_forIn_range', p0, p1, h1, e1, e2, Std.Legacy.Range.size]
/-- the row of an element type in the table: a slice type t of elements e of k cells and 'by' bytes -/
structure Elt (P : Program) (t e k bytes : Nat) : Prop where
  ht : P.underlying t = some (.slice e)
  hi : ∃ i z, P.info? e = some i ∧ i.zero = some z ∧ i.size = k ∧ i.bytes = bytes ∧ z.cells.size = k
  hk : 0 < k
theorem Elt.mk' {P : Program} {t e k bytes : Nat} {z : Value} (ht : P.underlying t = some (.slice e)) (hi : (P.info? e).map (fun i => (i.zero, i.size, i.bytes)) = some (some z, k, bytes)) (hz : z.cells.size = k) (hk : 0 < k) : Elt P t e k bytes := by
  obtain ⟨i, h1, h2, h3, h4⟩ := info_parts hi
  exact ⟨ht, ⟨i, z, h1, h2, h3, h4, hz⟩, hk⟩
theorem owns_ext {w w' : World} {B e k n : Nat} {v : Value} {xs : List Value} (h : w.ownsRow B e k v n xs) (hb : Below w.heap.size w w') : w'.ownsRow B e k v n xs :=
  h.kept (row := none) ⟨hb.os, hb.tape, hb.output, hb.size, fun j hj _ => hb.block j hj⟩ (by cases v.ownBlock <;> simp)
theorem owns_mono {w : World} {B B' e k n : Nat} {v : Value} {xs : List Value} (h : w.ownsRow B e k v n xs) (hB : B' ≤ B) : w.ownsRow B' e k v n xs := by
  obtain ⟨h1, h2⟩ := h
  refine ⟨h1, h2.imp id ?_⟩
  rintro ⟨g, cap, cur, hv, hg, r⟩
  exact ⟨g, cap, cur, hv, by omega, r⟩
/-- out = append(out, x), x built in the block ahead of it -/
theorem wpList_push {P : Program} {ops : Array Oper} {rest : List Oper} {o : Oper} {a : Act} {Q : Exit → Act → World → Prop} {w : World} {T : TypeId} {arr : Array Value} (hgd : o.guard = none) (s x : Operand) (t : TypeId)
    (ho : o.op = .call { callee := .builtin .append, args := #[s, x], argTypes := #[t, t] }) {e k bytes B n c : Nat} (E : Elt P t e k bytes) {v : Value} {xs : List Value}
    (hs : a.eval s = v) (hown : w.ownsRow B e k v n xs) (hx : a.eval x = .slice (some ⟨w.heap.size, 0, none⟩) 1 c) (harr : arr.size = k) (h1 : ∀ u ∈ arr.toList, u.oneCell' = true)
    (hn : n ≤ 100000000) (hby : bytes ≤ 1000) (hB : B ≤ w.heap.size)
    (h : ∀ a' c' w', w'.ownsRow B e k (.slice a' (n + 1) c') (n + 1) (xs ++ arr.toList) → Below B w w' → wpList P ops Q rest (a.put o.dst (.slice a' (n + 1) c')) w') :
    wpList P ops Q (o :: rest) a (w.alloc (.cells arr T)) := by
  obtain ⟨i, z, h2, h3, h4, h5, h6⟩ := E.hi
  refine wpList_append_own (w.alloc (.cells arr T)) hgd s x t ho B e i z k bytes E.ht h2 h3 h4 h5 h6 E.hk v n xs hs (hown.alloc _) ⟨w.heap.size, 0, none⟩ 1 c arr.toList hx (by simpa using harr) ?_ h1 (by unfold maxLen; omega) ?_ (by simp; omega) ?_
  · intro j u hj
    have : (w.alloc (.cells arr T)).cell? ⟨w.heap.size, j, none⟩ = arr[j]? := World.cell?_alloc_new w arr T j
    have e : (⟨w.heap.size, 0, none⟩ : Addr).add j = ⟨w.heap.size, j, none⟩ := by unfold Addr.add; split <;> simp_all
    rw [e, this]; simpa using hj
  · have : (n + 1) * bytes ≤ 100000001 * 1000 := Nat.mul_le_mul (by omega) hby
    omega
  · intro v' w' hown' hg _
    have hb : Below B w w' := ((Below.refl B w).alloc hB _).grown hg (by simp; omega) (fun j hj => (hown.lt j hj).1)
    obtain ⟨hl, h7⟩ := hown'
    rcases h7 with ⟨_, h8⟩ | ⟨g, cap, cur, rfl, h9⟩
    · omega
    · exact h _ _ _ ⟨hl, .inr ⟨g, cap, cur, rfl, h9⟩⟩ hb
theorem flat_get {α : Type} {enc : α → List Value} {k : Nat} (he : ∀ x, (enc x).length = k) : ∀ (xs : List α) (i j : Nat) (hi : i < xs.length), j < k → (xs.flatMap enc)[i * k + j]? = (enc xs[i])[j]?
  | x :: xs, 0, j, _, hj => by simp [List.getElem?_append, he, hj]
  | x :: xs, i + 1, j, hi, hj => by
    have hi' : i < xs.length := by simpa using hi
    have := flat_get he xs i j hi' hj
    simp only [List.flatMap_cons, List.getElem_cons_succ]
    rw [List.getElem?_append_right (by rw [he, Nat.add_mul]; omega), he, ← this]
    congr 1
    rw [Nat.add_mul]; omega
theorem flat_len {α : Type} {enc : α → List Value} {k : Nat} (he : ∀ x, (enc x).length = k) (xs : List α) : (xs.flatMap enc).length = xs.length * k := by
  induction xs with
  | nil => simp
  | cons x xs ih => simp [ih, he, Nat.add_mul]; omega
theorem Rd.of_owns {w : World} {B e k n c : Nat} {a : Option Addr} {α : Type} {enc : α → List Value} {xs : List α} (he : ∀ x, (enc x).length = k) (hk : 0 < k) (h : w.ownsRow B e k (.slice a n c) n (xs.flatMap enc)) : Rd w a n k (xs.map enc) := by
  have hl : xs.length = n := by
    have := h.1
    rw [flat_len he] at this
    exact Nat.eq_of_mul_eq_mul_right hk this
  refine ⟨by simpa using hl, ?_, fun h0 => ?_⟩
  · rcases h.2 with ⟨_, rfl⟩ | ⟨g, cap, cur, hv, _, _, h1, h2, _⟩
    · omega
    · unfold maxLen at h2; omega
  · rcases h.2 with ⟨_, rfl⟩ | ⟨g, cap, cur, hv, hB, hh, h1, h2, h3, h4⟩
    · omega
    · obtain ⟨rfl, _, rfl⟩ : a = some ⟨g, 0, none⟩ ∧ n = n ∧ c = cap := by simpa using hv
      refine ⟨g, 0, rfl, (Array.getElem?_eq_some_iff.1 hh).1, fun i hi j hj => ?_⟩
      have hlt : i * k + j < n * k := by
        have : (i + 1) * k ≤ n * k := Nat.mul_le_mul_right k (by simp at hi; omega)
        rw [Nat.add_mul] at this; omega
      rw [Nat.zero_add, h.cellAt (i * k + j) hlt, flat_get he xs i j (by simpa using hi) hj]
      simp
/-- within, in -/
def inB (n a b : Int) : Bool := decide (a ≤ n ∧ n ≤ b)
theorem inB_eq (n a b : Int) : inB n a b = (decide (a ≤ n) && decide (n ≤ b)) := by unfold inB; simp
theorem inB_iff {n a b : Int} : inB n a b = true ↔ a ≤ n ∧ n ≤ b := by simp [inB]
end Go.Proofs.YtmahagcghpoekaaGreat
namespace Go.Proofs.YtmahagcghpoekaaGreat
open Go.RowKit
theorem Rd.next2 {w a n} {xs : List P2} (h : Rd w a n 2 (xs.map enc2)) (k : Nat) (hk : k < n) : ∃ (x : P2) (b off : Nat), a = some ⟨b, off, none⟩ ∧ b < w.heap.size ∧ w.cell? ⟨b, off + k * 2, none⟩ = some (.int .i64 x.1) ∧ w.cell? ⟨b, off + k * 2 + 1, none⟩ = some (.int .i64 x.2) ∧ Hid (xs.drop k = x :: xs.drop (k + 1)) := by
  obtain ⟨hx, b, off, e, hb, h1, h2⟩ := h.two k hk
  exact ⟨xs[k], b, off, e, hb, h1, h2, List.drop_eq_getElem_cons hx⟩
theorem Rd.next1 {w a n} {xs : List Int} (h : Rd w a n 1 (xs.map enc1)) (k : Nat) (hk : k < n) : ∃ (x : Int) (b off : Nat), a = some ⟨b, off, none⟩ ∧ b < w.heap.size ∧ w.cell? ⟨b, off + k, none⟩ = some (.int .i64 x) ∧ Hid (xs.drop k = x :: xs.drop (k + 1)) := by
  obtain ⟨hx, b, off, e, hb, h1⟩ := h.one k hk
  exact ⟨xs[k], b, off, e, hb, h1, List.drop_eq_getElem_cons hx⟩
theorem Rd.nextV {w a n} {α : Type} {val : α → Value} {xs : List α} (h : Rd w a n 1 (xs.map fun x => [val x])) (k : Nat) (hk : k < n) : ∃ (x : α) (b off : Nat), a = some ⟨b, off, none⟩ ∧ b < w.heap.size ∧ w.cell? ⟨b, off + k, none⟩ = some (val x) ∧ Hid (xs.drop k = x :: xs.drop (k + 1)) := by
  have hl : k < xs.length := by have := h.len; simp at this; omega
  obtain ⟨b, off, rfl, hlt, hc⟩ := h.at_ (by omega)
  have h0 := hc k (by simpa using hl) 0 (by omega)
  simp at h0
  exact ⟨xs[k], b, off, rfl, hlt, h0, List.drop_eq_getElem_cons hl⟩
theorem later_rd {w w1 : World} {x : After w1} {a n k xs} (h : Rd w a n k xs) (hb : Below w.heap.size w w1) : Rd (World.later w1 x) a n k xs := (h.ext hb).ext x.below
theorem drop_end {α : Type} {xs : List α} {n k : Nat} (h : xs.length = n) (hk : n ≤ k) : xs.drop k = [] := List.drop_of_length_le (by omega)
/-- append(out, l...): whatever l, nil too -/
theorem wpList_pushAll {P : Program} {ops : Array Oper} {rest : List Oper} {o : Oper} {a : Act} {Q : Exit → Act → World → Prop} {w : World} (hgd : o.guard = none) (s x : Operand) (t : TypeId)
    (ho : o.op = .call { callee := .builtin .append, args := #[s, x], argTypes := #[t, t] }) {e k bytes B n m c : Nat} (E : Elt P t e k bytes) {v : Value} {xs : List Value} {l : Option Addr} {α : Type} {enc : α → List Value} {ys : List α}
    (he : ∀ y, (enc y).length = k) (h1 : ∀ y, ∀ u ∈ enc y, u.oneCell' = true)
    (hs : a.eval s = v) (hown : w.ownsRow B e k v n xs) (hx : a.eval x = .slice l m c) (hR : Rd w l m k (ys.map enc)) (hnil : m = 0 → (l = none ∧ c = 0) ∨ ∃ ad, l = some ad)
    (hn : n + m ≤ 100000000) (hby : bytes ≤ 1000) (hB : B ≤ w.heap.size)
    (h : ∀ v' w', w'.ownsRow B e k v' (n + m) (xs ++ ys.flatMap enc) → (∃ a' c', v' = .slice a' (n + m) c') → Below B w w' → wpList P ops Q rest (a.put o.dst v') w') :
    wpList P ops Q (o :: rest) a w := by
  obtain ⟨i, z, h2, h3, h4, h5, h6⟩ := E.hi
  have hlen : ys.length = m := hR.length
  have fin : ∀ v' w', w'.ownsRow B e k v' (n + m) (xs ++ ys.flatMap enc) → w.grownBy w' v.ownBlock → wpList P ops Q rest (a.put o.dst v') w' := by
    intro v' w' hown' hg
    have hb : Below B w w' := (Below.refl B w).grown hg hB (fun j hj => (hown.lt j hj).1)
    refine h v' w' hown' ?_ hb
    rcases hown'.2 with ⟨rfl, h8⟩ | ⟨g, cap, cur, rfl, h9⟩
    · exact ⟨none, 0, by rw [h8]⟩
    · exact ⟨_, _, rfl⟩
  have go : ∀ ad, l = some ad → wpList P ops Q (o :: rest) a w := by
    rintro ad rfl
    refine wpList_append_own w hgd s x t ho B e i z k bytes E.ht h2 h3 h4 h5 h6 E.hk v n xs hs hown ad m c (ys.flatMap enc) hx (by rw [flat_len he, hlen]) ?_ ?_ (by unfold maxLen; omega) ?_ hB (fun v' w' q1 q2 _ => fin v' w' q1 q2)
    · intro j u hj
      have hj' : j < m * k := by
        have := (List.getElem?_eq_some_iff.1 hj).1
        rwa [flat_len he, hlen] at this
      have hk := E.hk
      have hm0 : 0 < m := by
        rcases Nat.eq_zero_or_pos m with h0 | h0
        · rw [h0] at hj'; omega
        · exact h0
      obtain ⟨b, off, e0, hb, hc⟩ := hR.at_ hm0
      obtain rfl : ad = ⟨b, off, none⟩ := by simpa using e0
      have hq : j / k < ys.length := by rw [hlen]; exact (Nat.div_lt_iff_lt_mul hk).2 hj'
      have hr := Nat.mod_lt j hk
      have hjj : j / k * k + j % k = j := by rw [Nat.mul_comm]; exact Nat.div_add_mod j k
      have g1 := hc (j / k) (by simpa using hq) (j % k) hr
      have g2 := flat_get he ys (j / k) (j % k) hq hr
      rw [hjj, hj] at g2
      have e : (⟨b, off, none⟩ : Addr).add j = ⟨b, off + j, none⟩ := by unfold Addr.add; split <;> simp_all
      rw [e]
      rw [show off + j / k * k + j % k = off + j by omega] at g1
      rw [g1, g2]; simp
    · intro u hu
      obtain ⟨y, _, hy⟩ := List.mem_flatMap.1 hu
      exact h1 y u hy
    · have : (n + m) * bytes ≤ 100000000 * 1000 := Nat.mul_le_mul hn hby
      omega
  by_cases h0 : m = 0
  · rcases hnil h0 with ⟨rfl, rfl⟩ | ⟨ad, hl⟩
    · subst h0
      obtain rfl : ys = [] := List.length_eq_zero_iff.1 hlen
      refine wpList_append_own_none hgd s x t ho B e i k E.ht h2 v n xs hs hown hx (h v w (by simpa using hown) ?_ (Below.refl B w))
      rcases hown.2 with ⟨rfl, h8⟩ | ⟨g, cap, cur, rfl, h9⟩
      · exact ⟨none, 0, by rw [h8]⟩
      · exact ⟨_, _, rfl⟩
    · exact go ad hl
  · obtain ⟨b, off, e0, _⟩ := hR.at_ (by omega)
    exact go _ e0
/-- make([]T, 0, n) -/
theorem wpList_mk0 {P : Program} {ops : Array Oper} {rest : List Oper} {o : Oper} {a : Act} {Q : Exit → Act → World → Prop} {w : World} (hg : o.guard = none) (l c : Operand) (t : TypeId) (hop : o.op = Op.makeSlice t l c)
    {e k bytes B : Nat} (E : Elt P t e k bytes) {kl kc : IntKind} {C : Int} (n : Nat) (hl : a.eval l = .int kl 0) (hc : a.eval c = .int kc C) (hC : C = (n : Int)) (hn : n ≤ 100000000) (hby : bytes ≤ 1000) (hB : B ≤ w.heap.size)
    (hK : ∀ w', w'.ownsRow B e k (.slice (some ⟨w.heap.size, 0, none⟩) 0 n) 0 [] → Below B w w' → wpList P ops Q rest (a.put o.dst (.slice (some ⟨w.heap.size, 0, none⟩) 0 n)) w') : wpList P ops Q (o :: rest) a w := by
  obtain ⟨i, z, h2, h3, h4, h5, h6⟩ := E.hi
  refine wpList_make_own w hg l c t hop B e i z k E.ht h2 h3 h4 kl kc C n hl hc hC ?_ (by unfold maxLen; omega) hB fun w' q1 q2 => hK w' q1 ((Below.refl B w).grown q2 hB (by simp))
  have : i.bytes * n ≤ 1000 * 100000000 := Nat.mul_le_mul (by omega) hn
  omega
end Go.Proofs.YtmahagcghpoekaaGreat
namespace Go.Proofs.YtmahagcghpoekaaGreat
open Go.RowKit
set_option linter.unusedSimpArgs false
set_option linter.unusedVariables false
def idxGo {α : Type} (p : α → Bool) : Nat → List α → Int
  | _, [] => -1
  | k, x :: xs => if p x then k else idxGo p (k + 1) xs
theorem idxGo_any {α : Type} (p : α → Bool) : ∀ (xs : List α) (k : Nat), decide (0 ≤ idxGo p k xs) = xs.any p
  | [], k => by simp [idxGo]
  | x :: xs, k => by
    have := idxGo_any p xs (k + 1)
    cases h : p x
    · simp [idxGo, h, this]
    · simp [idxGo, h]
/-- what is asked of a predicate handed over as a function value: it can be called, and at every element of the list, in every later world, it gives p -/
structure PredIn (g : Nat) (lb : Array Value) {α : Type} (val : α → Value) (p : α → Bool) (xs : List α) (w : World) : Prop where
  eg : ∀ args w, (callFunc g args).run Tryz.prog w = .ok (.enter g args) w
  gives : ∀ (x : α), x ∈ xs → ∀ (w' : World), Below w.heap.size w w' → Calls Tryz.prog g (#[val x] ++ lb) w' fun e w'' => e = .returned (.bool (p x)) ∧ Below w'.heap.size w' w''
theorem Rd.nextK {w a n k} {α : Type} {enc : α → List Value} {xs : List α} (h : Rd w a n k (xs.map enc)) (i : Nat) (hi : i < n) : ∃ (x : α) (b off : Nat), a = some ⟨b, off, none⟩ ∧ b < w.heap.size ∧ (∀ j, j < k → w.cell? ⟨b, off + i * k + j, none⟩ = (enc x)[j]?) ∧ x ∈ xs ∧ xs[i]? = some x ∧ Hid (xs.drop i = x :: xs.drop (i + 1)) := by
  have hl : i < xs.length := by rw [h.length]; exact hi
  obtain ⟨b, off, rfl, hlt, hc⟩ := h.at_ (by omega)
  refine ⟨xs[i], b, off, rfl, hlt, fun j hj => ?_, List.getElem_mem hl, by simp, List.drop_eq_getElem_cons hl⟩
  have := hc i (by simpa using hl) j hj
  simpa using this
end Go.Proofs.YtmahagcghpoekaaGreat
namespace Go.Proofs.YtmahagcghpoekaaGreat
open Go.RowKit
set_option linter.unusedSimpArgs false
set_option linter.unusedVariables false
/-- the cells that are appended -/
def News (w : World) (l : Option Addr) (m c : Nat) (news : List Value) : Prop := (l = none ∧ m = 0 ∧ c = 0) ∨ ∃ ad, l = some ad ∧ ∀ j u, news[j]? = some u → w.cell? (ad.add j) = some u
theorem News.rd {w : World} {l : Option Addr} {m c k : Nat} {α : Type} {enc : α → List Value} {ys : List α} (he : ∀ y, (enc y).length = k) (hk : 0 < k) (hR : Rd w l m k (ys.map enc)) (hnil : m = 0 → (l = none ∧ c = 0) ∨ ∃ ad, l = some ad) : News w l m c (ys.flatMap enc) := by
  have hlen : ys.length = m := hR.length
  have go : ∀ ad, l = some ad → News w l m c (ys.flatMap enc) := by
    rintro ad rfl
    refine .inr ⟨ad, rfl, fun j u hj => ?_⟩
    have hj' : j < m * k := by
      have := (List.getElem?_eq_some_iff.1 hj).1
      rwa [flat_len he, hlen] at this
    have hm0 : 0 < m := by
      rcases Nat.eq_zero_or_pos m with h0 | h0
      · rw [h0] at hj'; omega
      · exact h0
    obtain ⟨b, off, e0, hb, hc⟩ := hR.at_ hm0
    obtain rfl : ad = ⟨b, off, none⟩ := by simpa using e0
    have hq : j / k < ys.length := by rw [hlen]; exact (Nat.div_lt_iff_lt_mul hk).2 hj'
    have hr := Nat.mod_lt j hk
    have hjj : j / k * k + j % k = j := by rw [Nat.mul_comm]; exact Nat.div_add_mod j k
    have g1 := hc (j / k) (by simpa using hq) (j % k) hr
    have g2 := flat_get he ys (j / k) (j % k) hq hr
    rw [hjj, hj] at g2
    have e : (⟨b, off, none⟩ : Addr).add j = ⟨b, off + j, none⟩ := by unfold Addr.add; split <;> simp_all
    rw [e]
    rw [show off + j / k * k + j % k = off + j by omega] at g1
    rw [g1, g2]; simp
  by_cases h0 : m = 0
  · rcases hnil h0 with ⟨rfl, rfl⟩ | ⟨ad, hl⟩
    · exact .inl ⟨rfl, h0, rfl⟩
    · exact go ad hl
  · obtain ⟨b, off, e0, _⟩ := hR.at_ (by omega)
    exact go _ e0
theorem run_app {P : Program} {w : World} {t ty e k bytes B n m c : Nat} (E : Elt P t e k bytes) {v : Value} {xs news : List Value} {l : Option Addr} (hown : w.ownsRow B e k v n xs)
    (hl : news.length = m * k) (hnews : News w l m c news) (h1 : ∀ u ∈ news, u.oneCell' = true) (hn : n + m ≤ 100000000) (hby : bytes ≤ 1000) (hB : B ≤ w.heap.size) :
    ∃ v' w', (Builtin.append_ #[t, t] ty #[v, .slice l m c]).run P w = .ok v' w' ∧ w'.ownsRow B e k v' (n + m) (xs ++ news) ∧ w.grownBy w' v.ownBlock ∧ (∃ a' c', v' = .slice a' (n + m) c') := by
  obtain ⟨i, z, h2, h3, h4, h5, h6⟩ := E.hi
  rcases hnews with ⟨rfl, rfl, rfl⟩ | ⟨ad, rfl, hc⟩
  · obtain rfl : news = [] := by simpa using hl
    refine ⟨v, w, run_append_owned_none (P := P) (w := w) B t ty e i k E.ht h2 v n xs hown, by simpa using hown, World.grownBy.refl _ _, ?_⟩
    rcases hown.2 with ⟨rfl, h8⟩ | ⟨g, cap, cur, rfl, h9⟩
    · exact ⟨none, 0, by rw [h8]⟩
    · exact ⟨_, _, rfl⟩
  · obtain ⟨v', w', hr, q1, q2, _, _⟩ := run_append_own_at (P := P) w B t ty e i z k bytes E.ht h2 h3 h4 h5 h6 E.hk v n xs hown ad m c news hl hc h1 (by unfold maxLen; omega) (by have : (n + m) * bytes ≤ 100000000 * 1000 := Nat.mul_le_mul hn hby; omega) hB
    refine ⟨v', w', hr, q1, q2, ?_⟩
    rcases q1.2 with ⟨rfl, h8⟩ | ⟨g, cap, cur, rfl, h9⟩
    · exact ⟨none, 0, by rw [h8]⟩
    · exact ⟨_, _, rfl⟩
theorem step_app {P : Program} {ops : Array Oper} {o : Oper} {a : Act} {w : World} {K : Act → World → Prop} {Q : Exit → Act → World → Prop} {EE : Prop} (hgd : o.guard = none) (s x : Operand) (t : TypeId)
    (ho : o.op = .call { callee := .builtin .append, args := #[s, x], argTypes := #[t, t] }) {e k bytes B n m c : Nat} (E : Elt P t e k bytes) {v : Value} {xs news : List Value} {l : Option Addr}
    (hs : a.eval s = v) (hown : w.ownsRow B e k v n xs) (hx : a.eval x = .slice l m c) (hl : news.length = m * k) (hnews : News w l m c news) (h1 : ∀ u ∈ news, u.oneCell' = true) (hn : n + m ≤ 100000000) (hby : bytes ≤ 1000) (hB : B ≤ w.heap.size)
    (h : ∀ a' c' w', w'.ownsRow B e k (.slice a' (n + m) c') (n + m) (xs ++ news) → w.grownBy w' v.ownBlock → K (a.put o.dst (.slice a' (n + m) c')) w') :
    if Region.wanted o (yielded ops a.tmps) = true then Oper.wp P o a w K Q else EE := by
  have hw : Region.wanted o (yielded ops a.tmps) = true := by simp [Region.wanted, hgd]
  rw [if_pos hw]
  obtain ⟨v', w', hr, q1, q2, a', c', rfl⟩ := run_app (P := P) (ty := o.type) E hown hl hnews h1 hn hby hB
  unfold Oper.wp execOp
  simp only [ho, resolve, invoke, builtin, Sem.run_bind, Sem.run_pure, Result.andThen_ok, List.map_toArray, List.map_cons, List.map_nil, hs, hx, hr]
  exact h _ _ w' q1 q2
theorem grown_below {w w' : World} {B : Nat} {v : Value} {e k n : Nat} {xs : List Value} (hown : w.ownsRow B e k v n xs) (hg : w.grownBy w' v.ownBlock) (hB : B ≤ w.heap.size) : Below B w w' := (Below.refl B w).grown hg hB (fun j hj => (hown.lt j hj).1)
/-- rows of another type stay -/
theorem owns_kept {w w' : World} {B B' e e' k k' n n' : Nat} {v v' : Value} {xs xs' : List Value} (h : w.ownsRow B e k v n xs) (hown : w.ownsRow B' e' k' v' n' xs') (hne : e ≠ e') (hg : w.grownBy w' v'.ownBlock) : w'.ownsRow B e k v n xs := by
  refine h.kept hg ?_
  rcases h.2 with ⟨rfl, _⟩ | ⟨g, cap, cur, rfl, _, hh, _⟩
  · exact .inl rfl
  · right
    rcases hown.2 with ⟨rfl, _⟩ | ⟨g', cap', cur', rfl, _, hh', _⟩
    · simp [Value.ownBlock]
    · simp only [Value.ownBlock, ne_eq, Option.some.injEq]
      rintro rfl
      rw [hh] at hh'
      simp at hh'
      exact hne hh'.2
end Go.Proofs.YtmahagcghpoekaaGreat
namespace Go.Proofs.YtmahagcghpoekaaGreat
open Go.RowKit
set_option linter.unusedSimpArgs false
set_option linter.unusedVariables false
theorem E1 : Elt Tryz.prog 26 3 1 8 := Elt.mk' (z := .int .i64 0) Tryz.underlying26 (by kernel_rfl) rfl (by decide)
theorem enc1_len (x : Int) : (enc1 x).length = 1 := rfl
theorem enc1_one (x : Int) : ∀ u ∈ enc1 x, u.oneCell' = true := by intro u hu; simp [enc1] at hu; rcases hu with rfl; rfl
def lenOf : Value → Nat
  | .slice _ n _ => n
  | _ => 0
def OutI (B : Nat) (w : World) (xs : List Int) (e : Ending) (w' : World) : Prop :=
  ∃ a n c, e = .returned (.slice a n c) ∧ w'.ownsRow B 3 1 (.slice a n c) n (xs.flatMap enc1) ∧ Below B w w'
theorem ownsI_rd {B : Nat} {w : World} {xs : List Int} {a : Option Addr} {n c : Nat} (h : w.ownsRow B 3 1 (.slice a n c) n (xs.flatMap enc1)) : Rd w a n 1 (xs.map enc1) := Rd.of_owns enc1_len (by decide) h
theorem ownsI_snoc {B : Nat} {w : World} {xs : List Int} {x : Int} {v : Value} {n : Nat} (h : w.ownsRow B 3 1 v n (xs.flatMap enc1 ++ [.int .i64 x])) : w.ownsRow B 3 1 v n ((xs ++ [x]).flatMap enc1) := by
  rw [List.flatMap_append]; exact h
/-- a list made by the call, and an error number -/
def OutIE (B : Nat) (w : World) (xs : List Int) (er : Int) (e : Ending) (w' : World) : Prop :=
  ∃ a n c, e = .returned (.tuple #[.slice a n c, .int .i64 er]) ∧ w'.ownsRow B 3 1 (.slice a n c) n (xs.flatMap enc1) ∧ Below B w w'
theorem OutIE.none {B : Nat} {w w' : World} {er : Int} (hb : Below B w w') : OutIE B w [] er (.returned (.tuple #[.slice none 0 0, .int .i64 er])) w' := ⟨_, _, _, rfl, World.ownsRow_nil _ _ _ _, hb⟩
theorem owns_one (w : World) (x : Value) (T : TypeId) : (w.alloc (.cells #[x] T)).ownsRow w.heap.size T 1 (.slice (some ⟨w.heap.size, 0, none⟩) 1 1) 1 [x] :=
  ⟨rfl, .inr ⟨w.heap.size, 1, #[x], rfl, Nat.le_refl _, by show (w.heap.push _)[w.heap.size]? = _; simp, Nat.le_refl _, by decide, rfl, rfl⟩⟩
theorem owns_nil {w : World} {B e k n c : Nat} {a : Option Addr} {xs : List Value} (h : w.ownsRow B e k (.slice a n c) n xs) : n = 0 → (a = none ∧ c = 0) ∨ ∃ ad, a = some ad := by
  intro _
  rcases h.2 with ⟨hv, _⟩ | ⟨g, cap, cur, hv, _⟩
  · simp at hv; exact .inl ⟨hv.1, hv.2.2⟩
  · simp at hv; exact .inr ⟨_, hv.1⟩
theorem flat_enc1 (xs : List Int) : xs.flatMap enc1 = xs.map (Value.int .i64) := by
  induction xs with
  | nil => rfl
  | cons x xs ih => simp [enc1, ih]
/-- make([]int, n) -/
theorem wpList_mkI {ops : Array Oper} {rest : List Oper} {o : Oper} {a : Act} {Q : Exit → Act → World → Prop} {w : World} (hg : o.guard = none) (l c : Operand) (hop : o.op = Op.makeSlice 26 l c)
    {B : Nat} {kl kc : IntKind} {C D : Int} (n : Nat) (hl : a.eval l = .int kl D) (hc : a.eval c = .int kc C) (hD : D = (n : Int)) (hC : C = (n : Int)) (hn : n ≤ 100000000) (hB : B ≤ w.heap.size)
    (hK : ∀ w', w'.ownsRow B 3 1 (.slice (some ⟨w.heap.size, 0, none⟩) n n) n ((List.replicate n (0 : Int)).flatMap enc1) → Below B w w' → w.heap.size < w'.heap.size → wpList Tryz.prog ops Q rest (a.put o.dst (.slice (some ⟨w.heap.size, 0, none⟩) n n)) w') : wpList Tryz.prog ops Q (o :: rest) a w := by
  obtain ⟨i, h1, h2, h3, h4⟩ := info_parts (show (Tryz.prog.info? 3).map (fun i => (i.zero, i.size, i.bytes)) = some (some (.int .i64 0), 1, 8) by kernel_rfl)
  refine wpList_make_full w hg l c 26 hop B 3 i (.int .i64 0) 1 Tryz.underlying26 h1 h2 h3 kl kc D C n hl hc hD hC (by rw [h4]; omega) (by unfold maxLen; omega) hB fun w' q1 q2 => hK w' ?_ ((Below.refl B w).grown q2 hB (by simp)) ?_
  · rw [flat_enc1, List.map_replicate]
    have : (madeCells (Value.int IntKind.i64 0).cells (n * 1)).toList = List.replicate n (Value.int .i64 0) := by rw [Nat.mul_one]; exact toList_madeCells_one _ n
    rw [← this]; exact q1
  · rcases q1.2 with ⟨h, _⟩ | ⟨g, cap, cur, h, _, hh, _⟩
    · simp at h
    · simp at h; rw [h.1]; exact (Array.getElem?_eq_some_iff.1 hh).1
theorem ownsI_at {w : World} {B q n c : Nat} {xs : List Int} (h : w.ownsRow B 3 1 (.slice (some ⟨q, 0, none⟩) n c) n (xs.flatMap enc1)) (j : Nat) (hj : j < n) : ∃ x, xs[j]? = some x ∧ w.cell? ⟨q, j, none⟩ = some (.int .i64 x) ∧ w.frozen? ⟨q, j, none⟩ = false ∧ q < w.heap.size := by
  have hl : xs.length = n := (ownsI_rd h).length
  refine ⟨xs[j], by simp, ?_, h.frozenAt j, ?_⟩
  · rw [h.cellAt j (by omega), flat_enc1]; simp
  · rcases h.2 with ⟨h', _⟩ | ⟨g', cap', cur, h', _, hg, _⟩
    · simp at h'
    · simp at h'; rw [h'.1]; exact (Array.getElem?_eq_some_iff.1 hg).1
theorem ownsI_set {w : World} {B q n c : Nat} {xs : List Int} (h : w.ownsRow B 3 1 (.slice (some ⟨q, 0, none⟩) n c) n (xs.flatMap enc1)) (j : Nat) (x : Int) : (w.setCell ⟨q, j, none⟩ (.int .i64 x)).ownsRow B 3 1 (.slice (some ⟨q, 0, none⟩) n c) n ((xs.set j x).flatMap enc1) := by
  have := (h.stored j (.int .i64 x)).1
  rw [flat_enc1] at this ⊢
  rw [List.map_set]; exact this
theorem owns_far {w : World} {B e k n q j : Nat} {v : Value} {xs : List Value} (h : w.ownsRow B e k v n xs) (hq : q < B) (u : Value) : (w.setCell ⟨q, j, none⟩ u).ownsRow B e k v n xs := by
  refine ⟨h.1, h.2.imp id ?_⟩
  rintro ⟨g, cap, cur, hv, hg, hh, r⟩
  refine ⟨g, cap, cur, hv, hg, ?_, r⟩
  rw [heap_setCell_other w ⟨q, j, none⟩ g u (by simp only []; omega)]; exact hh
theorem get_of_drop {α : Type} {l r : List α} {j : Nat} {x : α} (h : l.drop j = x :: r) : l[j]? = some x := by
  have : (l.drop j)[0]? = some x := by rw [h]; rfl
  rw [List.getElem?_drop] at this; exact this
theorem take_of_drop {α : Type} {l r : List α} {j : Nat} {x : α} (h : l.drop j = x :: r) : l.take (j + 1) = l.take j ++ [x] := by
  rw [List.take_add_one, get_of_drop h]; rfl
theorem Rd.idx {w a n} {xs : List Int} (h : Rd w a n 1 (xs.map enc1)) (k : Nat) (hk : k < n) : ∃ (x : Int) (b off : Nat), a = some ⟨b, off, none⟩ ∧ b < w.heap.size ∧ w.cell? ⟨b, off + k, none⟩ = some (.int .i64 x) ∧ xs[k]? = some x := by
  obtain ⟨x, b, off, h1, h2, h3, HD⟩ := h.next1 k hk
  exact ⟨x, b, off, h1, h2, h3, get_of_drop HD.out⟩
def OutN (B n : Nat) (T k : Nat) (w : World) (xs : List Value) (e : Ending) (w' : World) : Prop :=
  ∃ a c, e = .returned (.slice a n c) ∧ w'.ownsRow B T k (.slice a n c) n xs ∧ Below B w w'
theorem owns_addr {w : World} {B e k n c : Nat} {a : Option Addr} {xs : List Value} (h : w.ownsRow B e k (.slice a n c) n xs) (hn : 0 < n) : ∃ g, a = some ⟨g, 0, none⟩ ∧ B ≤ g ∧ g < w.heap.size := by
  rcases h.2 with ⟨_, h8⟩ | ⟨g, cap, cur, hv, hB, hg, _⟩
  · omega
  · simp at hv; exact ⟨g, hv.1, hB, (Array.getElem?_eq_some_iff.1 hg).1⟩
end Go.Proofs.YtmahagcghpoekaaGreat
namespace Go.Proofs.YtmahagcghpoekaaGreat
open Go.RowKit
set_option linter.unusedSimpArgs false
set_option linter.unusedVariables false
def mulRen : Go.Shelf.Ren := ⟨fun | 212 => 86 | 263 => 106 | 264 => 107 | n => n, fun | 46 => 109 | 51 => 127 | 53 => 130 | 146 => 128 | 148 => 131 | n => n, fun n => n⟩
theorem mulLay : Go.Proofs.Lays.n212 Tryz.prog mulRen := {
  mixed := by kernel_rfl
  f212 := Tryz.func86.trans (congrArg some (by kernel_rfl))
  f263 := Tryz.func106.trans (congrArg some (by kernel_rfl))
  f264 := Tryz.func107.trans (congrArg some (by kernel_rfl))
  t46 := Tryz.underlying109
  a46 := Tryz.isAgg109
  z46 := Tryz.sizeOf109
  v46 := Tryz.zeroValue109
  t51 := Tryz.underlying127
  a51 := Tryz.isAgg127
  z51 := Tryz.sizeOf127
  v51 := Tryz.zeroValue127
  t53 := Tryz.underlying130
  a53 := Tryz.isAgg130
  z53 := Tryz.sizeOf130
  v53 := Tryz.zeroValue130
  t146 := Tryz.underlying128
  a146 := Tryz.isAgg128
  z146 := Tryz.sizeOf128
  v146 := Tryz.zeroValue128
  t148 := Tryz.underlying131
  a148 := Tryz.isAgg131
  z148 := Tryz.sizeOf131
  v148 := Tryz.zeroValue131 }
theorem mul_one (n : Nat) (w : World) (hn : n ≤ 1000) : Calls Tryz.prog 86 #[.int .u64 1, .int .u64 n] w fun e w' => e = .returned (.tuple #[.int .u64 0, .int .u64 n]) ∧ w = w' := by
  refine (Go.Proofs.Any.bits_Mul mulLay 1 n (by omega) (by omega) w).mono ?_
  rintro e w' ⟨rfl, rfl⟩
  refine ⟨?_, rfl⟩
  rw [Nat.one_mul, Nat.div_eq_of_lt (by omega), Nat.mod_eq_of_lt (by omega)]; rfl
theorem run_copyI {w : World} {g off dLen dCap : Nat} {ad : Addr} {sLen sCap : Nat} {cur cs : List Value} {t : TypeId} (hg : w.heap[g]? = some (.cells cur.toArray t (0, 0))) (hn : cs.length = Nat.min sLen dLen)
    (hsrc : ∀ j v, cs[j]? = some v → w.cell? (ad.add j) = some v) (hfit : off + cs.length ≤ cur.length) (h1 : ∀ v ∈ cs, v.oneCell' = true) :
    ∃ w', (Builtin.copy_ #[26, 26] 3 #[.slice (some ⟨g, off, none⟩) dLen dCap, .slice (some ad) sLen sCap]).run Tryz.prog w = .ok (goInt cs.length) w' ∧ w'.heap[g]? = some (.cells (splice cur off cs).toArray t (0, 0)) ∧ (∀ B, B ≤ g → Below B w w') := by
  refine ⟨_, run_copy_row (P := Tryz.prog) w 26 26 3 3 g off dLen dCap ad sLen sCap cur.toArray t cs Tryz.underlying26 (by kernel_rfl) hg hn hsrc (by simpa using hfit) h1, ?_, fun B hB => below_setRow (Below.refl B w) hB _⟩
  simpa [splice] using setRow_heap w g _ _ t _ hg
theorem rep_splice (v z : Value) (j m n : Nat) (h : j + m ≤ n) : splice (List.replicate j v ++ List.replicate (n - j) z) j (List.replicate m v) = List.replicate (j + m) v ++ List.replicate (n - (j + m)) z := by
  unfold splice
  rw [List.length_replicate, List.take_append_of_le_length (by simp), List.take_of_length_le (by simp), List.drop_append, List.drop_of_length_le (by simp), List.nil_append, List.length_replicate, List.drop_replicate, ← List.append_assoc, List.replicate_append_replicate]
  congr 2
  omega
theorem rep_get (v z : Value) {j n i : Nat} (h : i < j) : (List.replicate j v ++ List.replicate (n - j) z)[i]? = some v := by
  rw [List.getElem?_append_left (by simpa using h), List.getElem?_replicate, if_pos h]
set_option maxRecDepth 10000 in
set_option maxHeartbeats 2000000 in
theorem repeat_any (b n c : Nat) (w : World) (hn : n ≤ 1000) (hb : w.cell? ⟨b, 0, none⟩ = some (.int .i64 (-1))) :
    Calls Tryz.prog 61 #[.slice (some ⟨b, 0, none⟩) 1 c, .int .i64 n] w fun e w' => ∃ g : Nat, e = .returned (.slice (some ⟨g, 0, none⟩) n n) ∧ w'.ownsRow w.heap.size 3 1 (.slice (some ⟨g, 0, none⟩) n n) n ((List.replicate n (-1 : Int)).flatMap enc1) ∧ Below w.heap.size w w' := by
  have wu : IntKind.u64.wrap (n : Int) = (n : Int) := by rw [IntKind.wrap_u64]; omega
  have wi : IntKind.i64.wrap (n : Int) = (n : Int) := IntWalk.i64_in _ (by omega)
  have HM := Lib.hid (mul_one n w hn)
  have hbl := World.block_lt_of_cell? w _ hb
  simp only [] at hbl
  have hnn : ¬ (n : Int) < 0 := by omega
  have hnb : ¬ (9223372036854775807 : Int) < (n : Int) := by omega
  go_enter Tryz.func61, Tryz.ntmps61
  go_upto_region 7 with (first
    | (go_at_call 86; (with_reducible refine HM.out.mono ?_); rintro e w1 ⟨rfl, rfl⟩)
    | (at_make; refine wpList_mkI rfl _ _ rfl n rfl rfl rfl rfl (by omega) (Nat.le_refl _) ?_; intro w2 hown2 hb2 hz2; have HO2 := Lib.hid hown2; have HB2 := Lib.hid hb2; clear hown2 hb2))
  have hg2 : w2.heap[w.heap.size]? = some (.cells (List.replicate 0 (Value.int .i64 (-1)) ++ List.replicate (n - 0) (Value.int .i64 0)).toArray 3 (0, 0)) := by
    rcases HO2.out.2 with ⟨h, _⟩ | ⟨g, cap, cur, hv, _, hg, _, _, hcs, hct⟩
    · simp at h
    · simp at hv
      obtain ⟨rfl, rfl⟩ := hv
      rw [hg, flat_enc1, List.map_replicate] at *
      have : cur.toList = List.replicate n (Value.int .i64 0) := by
        rw [← hct, List.take_of_length_le (by simp [hcs])]
      have e : cur = (List.replicate n (Value.int .i64 0)).toArray := by rw [← this]
      rw [e]; simp
  have hb2 := (HB2.out.cell (p := ⟨b, 0, none⟩) hbl).trans hb
  have HG2 := Lib.hid hg2; have HCB := Lib.hid hb2
  obtain ⟨m1, hm1⟩ : ∃ x, x = min 1 n := ⟨_, rfl⟩
  obtain ⟨C1, hC1⟩ : ∃ x, x = List.replicate m1 (Value.int .i64 (-1)) := ⟨_, rfl⟩
  have hcl : C1.length = Nat.min 1 n := by rw [hC1, List.length_replicate]; exact hm1
  have HC1 := Lib.hid hC1
  clear hg2 hb2 hC1
  have hfit1 : 0 + C1.length ≤ (List.replicate 0 (Value.int .i64 (-1)) ++ List.replicate (n - 0) (Value.int .i64 0)).length := by
    have e : C1.length = m1 := by rw [hcl]; exact hm1.symm
    rw [e]; simp; omega
  have hone1 : ∀ v ∈ C1, v.oneCell' = true := fun v hv => by rw [HC1.out] at hv; rw [List.eq_of_mem_replicate hv]; rfl
  have hsrc1 : ∀ j v, C1[j]? = some v → w2.cell? ((⟨b, 0, none⟩ : Addr).add j) = some v := fun j v hj => by
    rw [HC1.out, List.getElem?_replicate] at hj
    split at hj
    · have : j = 0 := by omega
      subst this
      simp at hj; subst hj
      exact HCB.out
    · simp at hj
  have hpos1 : 0 < C1.length → some (⟨w.heap.size, 0, none⟩ : Addr) = some ⟨w.heap.size, 0, none⟩ ∧ ∃ ad, some (⟨b, 0, none⟩ : Addr) = some ad ∧ ∀ j v, C1[j]? = some v → w2.cell? (ad.add j) = some v := fun _ => ⟨rfl, _, rfl, hsrc1⟩
  have HPOS := Lib.hid hpos1; have HFIT := Lib.hid hfit1; have HONE := Lib.hid hone1; have HCL := Lib.hid hcl
  clear hpos1 hfit1 hone1 hsrc1 hcl
  go_wp2_with (with_reducible refine wpList_copy_splice rfl (.tmp 31) (.tmp 32) 26 26 rfl 3 Tryz.underlying26 (by kernel_rfl) (some ⟨w.heap.size, 0, none⟩) (some ⟨b, 0, none⟩) n n 1 c rfl rfl w.heap.size 0 (List.replicate 0 (Value.int .i64 (-1)) ++ List.replicate (n - 0) (Value.int .i64 0)) 3 HG2.out C1 HCL.out HPOS.out HFIT.out HONE.out w.heap.size w HB2.out (Nat.le_refl _) ?_; intro w3 hg3 hb3; have HB3 := Lib.hid hb3; have HG3 := hg3; clear hb3 hg3)
  have hg4 : w3.heap[w.heap.size]? = some (.cells (List.replicate m1 (Value.int .i64 (-1)) ++ List.replicate (n - m1) (Value.int .i64 0)).toArray 3 (0, 0)) := by
    have := HG3.out
    rw [HC1.out, rep_splice _ _ 0 m1 n (by omega), Nat.zero_add] at this
    exact this
  have HG4 := Lib.hid hg4
  rw [show C1.length = m1 by rw [HCL.out]; exact hm1.symm]
  have hm1b : (0 < n → 0 < m1) ∧ m1 ≤ n := by omega
  clear hg4 HG3 HG2 hm1
  go_loopw [8] (fun v wr => ∃ j : Nat, j ≤ n ∧ (0 < n → 0 < j) ∧ v = .int .i64 j ∧ wr.heap[w.heap.size]? = some (.cells (List.replicate j (Value.int .i64 (-1)) ++ List.replicate (n - j) (Value.int .i64 0)).toArray 3 (0, 0)) ∧ Below w.heap.size w wr) (fun v _ => n - (intOf v).toNat)
  case atStart => exact ⟨m1, by omega, by omega, rfl, HG4.out, HB3.out⟩
  case round =>
    obtain ⟨j, hj, hj0, rfl, hg, hB⟩ := hrel
    have HG := Lib.hid hg; have HB := Lib.hid hB
    clear HG4 HB3 hg hB
    by_cases hlt : j < n
    · have hj1 : 0 < j := hj0 (by omega)
      have hs1 : ∀ w', (Instr.slice 26 (.slice (some ⟨w.heap.size, 0, none⟩) n n) (some (.int .i64 (j : Int))) none none).run Tryz.prog w' = .ok (.slice (some ⟨w.heap.size, j, none⟩) (n - j) (n - j)) w' := fun w' => by
        rw [run_slice_l (P := Tryz.prog) w' 26 (some ⟨w.heap.size, 0, none⟩) n n (by kernel_rfl) .i64 (j : Int) (by omega) (by omega)]
        rw [show (Go.sizeOf (Tryz.prog.elem 26)).run Tryz.prog w' = .ok 1 w' by kernel_rfl]
        have : ¬ n = j := by omega
        have hjz : ¬ j = 0 := by omega
        simp [Result.andThen, sliced, this, hjz, Addr.add]
      have hs2 : ∀ w', (Instr.slice 26 (.slice (some ⟨w.heap.size, 0, none⟩) n n) none (some (.int .i64 (j : Int))) none).run Tryz.prog w' = .ok (.slice (some ⟨w.heap.size, 0, none⟩) j n) w' := fun w' => by
        have hne : ¬ n = 0 := by omega
        rw [run_slice_h (P := Tryz.prog) w' 26 (some ⟨w.heap.size, 0, none⟩) n n (by kernel_rfl) .i64 (j : Int) (by omega) (by omega)]
        rw [show (Go.sizeOf (Tryz.prog.elem 26)).run Tryz.prog w' = .ok 1 w' by kernel_rfl]
        simp [Result.andThen, sliced, hne, Addr.add]
      obtain ⟨m, hm⟩ : ∃ x, x = min j (n - j) := ⟨_, rfl⟩
      obtain ⟨C, hC⟩ : ∃ x, x = List.replicate m (Value.int .i64 (-1)) := ⟨_, rfl⟩
      have hcl : C.length = Nat.min j (n - j) := by rw [hC, List.length_replicate]; exact hm
      have hcl2 : C.length = m := by rw [hC, List.length_replicate]
      have HC := Lib.hid hC
      have wa : IntKind.i64.wrap ((j : Int) + (m : Int)) = ((j + m : Nat) : Int) := by rw [IntWalk.i64_in _ (by omega)]; omega
      have hfit : j + C.length ≤ (List.replicate j (Value.int .i64 (-1)) ++ List.replicate (n - j) (Value.int .i64 0)).length := by rw [hcl2]; simp; omega
      have hone : ∀ v ∈ C, v.oneCell' = true := fun v hv => by rw [HC.out] at hv; rw [List.eq_of_mem_replicate hv]; rfl
      have hsrc : ∀ (wx : World), wx.heap[w.heap.size]? = some (.cells (List.replicate j (Value.int .i64 (-1)) ++ List.replicate (n - j) (Value.int .i64 0)).toArray 3 (0, 0)) → ∀ i v, C[i]? = some v → wx.cell? ((⟨w.heap.size, 0, none⟩ : Addr).add i) = some v := fun wx hx i v hi => by
        rw [HC.out, List.getElem?_replicate] at hi
        split at hi
        · simp at hi; subst hi
          have hil : i < j := by omega
          have ea : (⟨w.heap.size, 0, none⟩ : Addr).add i = ⟨w.heap.size, i, none⟩ := by
            unfold Addr.add
            split
            · rename_i e; subst e; rfl
            · simp
          rw [ea]
          simp only [World.cell?, hx]
          simp only [Option.isSome_none, Bool.false_eq_true, if_false, List.getElem?_toArray]
          rw [List.getElem?_append_left (by simpa using hil), List.getElem?_replicate, if_pos hil]
        · simp at hi
      have HSRC := Lib.hid hsrc
      have hmb : m ≤ j ∧ m ≤ n - j ∧ 0 < m := by omega
      clear hC hsrc
      obtain ⟨w6, hcp, hg6, hb6⟩ := run_copyI (w := wr.drew) HG.out hcl (HSRC.out _ HG.out) hfit hone
      rw [hcl2] at hcp
      have hcp' : (Builtin.copy_ #[26, 26] 3 #[.slice (some ⟨w.heap.size, j, none⟩) (n - j) (n - j), .slice (some ⟨w.heap.size, 0, none⟩) j n]).run Tryz.prog wr.drew = .ok (.int .i64 (m : Int)) w6 := hcp
      have HG6 := Lib.hid hg6; have HB6 := Lib.hid (HB.out.trans (((Below.refl w.heap.size wr).drew).trans (hb6 w.heap.size (Nat.le_refl _))))
      clear hg6 hb6 hcp hcl hm
      go_upto_region 9 with fail
      go_region_law fail
      all_goals
        go_simp
        go_roundw
        case rel => exact ⟨.int .i64 ((j : Int) + (m : Int)), _, _, _, _, _, _, _, _, _, _, _, _, _, ⟨j + m, by omega, by omega, by simp, by have := HG6.out; rw [HC.out, rep_splice _ _ j m n (by omega)] at this; exact this, HB6.out⟩, rfl⟩
        case measure => simp [intOf]; omega
    · have hjn : j = n := by omega
      subst hjn
      go_wp2
      go_ret
      refine ⟨w.heap.size, rfl, ⟨by simp [flat_enc1], .inr ⟨w.heap.size, j, _, rfl, Nat.le_refl _, HG.out, Nat.le_refl _, by unfold maxLen; omega, by simp, ?_⟩⟩, HB.out⟩
      rw [flat_enc1, List.map_replicate]
      simp
end Go.Proofs.YtmahagcghpoekaaGreat
namespace Go.Proofs.YtmahagcghpoekaaGreat
open Go.RowKit
set_option linter.unusedSimpArgs false
set_option linter.unusedVariables false
section
variable {α : Type}
/-- x put into a sorted list, from behind -/
def insP (lt : α → α → Bool) (x : α) (s : List α) : List α := (s.reverse.dropWhile (lt x)).reverse ++ x :: (s.reverse.takeWhile (lt x)).reverse
def isortL (lt : α → α → Bool) (xs : List α) : List α := xs.foldl (fun s x => insP lt x s) []
theorem dropWhile_app {f : α → Bool} : ∀ (a b : List α), (∀ y ∈ a, f y = true) → (a ++ b).dropWhile f = b.dropWhile f
  | [], _, _ => rfl
  | x :: a, b, h => by rw [List.cons_append, List.dropWhile_cons_of_pos (h x (by simp))]; exact dropWhile_app a b (fun y hy => h y (by simp [hy]))
theorem takeWhile_app {f : α → Bool} : ∀ (a b : List α), (∀ y ∈ a, f y = true) → (a ++ b).takeWhile f = a ++ b.takeWhile f
  | [], _, _ => rfl
  | x :: a, b, h => by rw [List.cons_append, List.takeWhile_cons_of_pos (h x (by simp)), takeWhile_app a b (fun y hy => h y (by simp [hy]))]; rfl
theorem insP_eq {lt : α → α → Bool} {x : α} {p q : List α} (hq : ∀ y ∈ q, lt x y = true) (hp : ∀ y, p.getLast? = some y → lt x y = false) : insP lt x (p ++ q) = p ++ x :: q := by
  unfold insP
  rw [List.reverse_append, dropWhile_app _ _ (fun y hy => hq y (by simpa using hy)), takeWhile_app _ _ (fun y hy => hq y (by simpa using hy))]
  have h : p.reverse.dropWhile (lt x) = p.reverse ∧ p.reverse.takeWhile (lt x) = [] := by
    cases e : p.reverse with
    | nil => simp
    | cons y r =>
      have : p.getLast? = some y := by
        have : p = r.reverse ++ [y] := by have := congrArg List.reverse e; simpa using this
        rw [this]; simp
      have hy := hp y this
      rw [List.dropWhile_cons_of_neg (by simp [hy]), List.takeWhile_cons_of_neg (by simp [hy])]
      simp
  rw [h.1, h.2]; simp
theorem insP_perm (lt : α → α → Bool) (x : α) (s : List α) : (insP lt x s).Perm (x :: s) := by
  unfold insP
  have h : s = (s.reverse.dropWhile (lt x)).reverse ++ (s.reverse.takeWhile (lt x)).reverse := by
    rw [← List.reverse_append, List.takeWhile_append_dropWhile, List.reverse_reverse]
  refine List.Perm.trans List.perm_middle ?_
  rw [← h]
theorem isort_perm_aux (lt : α → α → Bool) : ∀ (xs s : List α), (xs.foldl (fun s x => insP lt x s) s).Perm (s ++ xs)
  | [], s => by simp
  | x :: xs, s => by
    refine (isort_perm_aux lt xs _).trans ?_
    refine ((insP_perm lt x s).append_right xs).trans ?_
    exact List.perm_middle.symm
theorem isort_perm (lt : α → α → Bool) (xs : List α) : (isortL lt xs).Perm xs := by simpa [isortL] using isort_perm_aux lt xs []
theorem isort_snoc (lt : α → α → Bool) (xs : List α) (x : α) : isortL lt (xs ++ [x]) = insP lt x (isortL lt xs) := by simp [isortL]
/-- sorted by R, if the one that is put in behind keeps R -/
theorem insP_pw {lt : α → α → Bool} {R : α → α → Prop} (htr : ∀ a b c, R a b → R b c → R a c) (hlt : ∀ a b, lt a b = true → R a b) {x : α} {s : List α} (hs : s.Pairwise R) (hx : ∀ y ∈ s, lt x y = false → R y x) : (insP lt x s).Pairwise R := by
  unfold insP
  have h : s = (s.reverse.dropWhile (lt x)).reverse ++ (s.reverse.takeWhile (lt x)).reverse := by
    rw [← List.reverse_append, List.takeWhile_append_dropWhile, List.reverse_reverse]
  generalize hp : (s.reverse.dropWhile (lt x)).reverse = p at *
  generalize hq : (s.reverse.takeWhile (lt x)).reverse = q at *
  have hqt : ∀ y ∈ q, R x y := fun y hy => by
    rw [← hq, List.mem_reverse] at hy
    have hal := List.all_takeWhile (p := lt x) (l := s.reverse)
    rw [List.all_eq_true] at hal
    exact hlt x y (hal y hy)
  have hpx : ∀ y ∈ p, R y x := by
    intro y hy
    rcases List.eq_nil_or_concat p with e | ⟨p', z, e⟩ <;> (try rw [List.concat_eq_append] at e)
    · rw [e] at hy; simp at hy
    · have hz : lt x z = false := by
        have e2 : s.reverse.dropWhile (lt x) = z :: p'.reverse := by have := congrArg List.reverse hp; rw [e] at this; simpa using this
        have := List.head?_dropWhile_not (lt x) s.reverse
        rw [e2] at this
        simpa using this
      have hzs : z ∈ s := by rw [h, e]; simp
      have hzx := hx z hzs hz
      rw [e] at hy
      simp at hy
      rcases hy with hy | rfl
      · rw [h, e] at hs
        have := (List.pairwise_append.1 (List.pairwise_append.1 hs).1).2.2 y hy z (by simp)
        exact htr _ _ _ this hzx
      · exact hzx
  rw [h] at hs
  obtain ⟨h1, h2, h3⟩ := List.pairwise_append.1 hs
  refine List.pairwise_append.2 ⟨h1, List.pairwise_cons.2 ⟨hqt, h2⟩, fun y hy z hz => ?_⟩
  rcases List.mem_cons.1 hz with rfl | hz
  · exact hpx y hy
  · exact h3 y hy z hz
theorem isort_pw_aux {lt : α → α → Bool} {R : α → α → Prop} (htr : ∀ a b c, R a b → R b c → R a c) (hlt : ∀ a b, lt a b = true → R a b) : ∀ (xs s : List α), s.Pairwise R → (∀ y ∈ s, ∀ x ∈ xs, lt x y = false → R y x) → xs.Pairwise (fun y x => lt x y = false → R y x) →
    (xs.foldl (fun s x => insP lt x s) s).Pairwise R
  | [], s, hs, _, _ => hs
  | x :: xs, s, hs, hx, hp => by
    refine isort_pw_aux htr hlt xs _ (insP_pw htr hlt hs (fun y hy => hx y hy x (by simp))) (fun y hy z hz => ?_) (List.pairwise_cons.1 hp).2
    rcases List.mem_cons.1 ((insP_perm lt x s).mem_iff.1 hy) with rfl | hy
    · exact (List.pairwise_cons.1 hp).1 z hz
    · exact hx y hy z (by simp [hz])
theorem isort_pw {lt : α → α → Bool} {R : α → α → Prop} (htr : ∀ a b c, R a b → R b c → R a c) (hlt : ∀ a b, lt a b = true → R a b) {xs : List α} (hp : xs.Pairwise (fun y x => lt x y = false → R y x)) : (isortL lt xs).Pairwise R :=
  isort_pw_aux htr hlt xs [] List.Pairwise.nil (by simp) hp
/-- in a list that is sorted, the place is the number of those ahead -/
theorem pw_place {R : α → α → Prop} {f : α → Bool} {l : List α} {p : Nat} {x : α} (hl : l.Pairwise R) (has : ∀ a b, R a b → ¬ R b a) (hx : l[p]? = some x) (hf : ∀ y, f y = true ↔ R y x) : (l.filter f).length = p := by
  obtain ⟨hp, e⟩ := List.getElem?_eq_some_iff.1 hx
  have hs : l = l.take p ++ x :: l.drop (p + 1) := by
    have := List.take_append_drop p l
    rw [List.drop_eq_getElem_cons hp, e] at this; exact this.symm
  rw [hs] at hl
  obtain ⟨h1, h2, h3⟩ := List.pairwise_append.1 hl
  have hirr : f x = false := by
    cases q : f x with
    | false => rfl
    | true => exact absurd ((hf x).1 q) (has x x ((hf x).1 q))
  rw [hs, List.filter_append, List.filter_cons_of_neg (by simp [hirr]), List.length_append]
  have e1 : (l.take p).filter f = l.take p := List.filter_eq_self.2 (fun y hy => (hf y).2 (h3 y hy x (by simp)))
  have e2 : (l.drop (p + 1)).filter f = [] := List.filter_eq_nil_iff.2 (fun y hy h => has x y ((List.pairwise_cons.1 h2).1 y hy) ((hf y).1 h))
  rw [e1, e2]; simp; omega
end
def idxs (n : Nat) : List Int := (List.range n).map (fun (k : Nat) => (k : Int))
theorem idxs_len (n : Nat) : (idxs n).length = n := by simp [idxs]
theorem idxs_mem {n : Nat} {x : Int} : x ∈ idxs n ↔ 0 ≤ x ∧ x < n := by
  unfold idxs; rw [List.mem_map]
  constructor
  · rintro ⟨k, hk, rfl⟩; simp at hk; omega
  · rintro ⟨h1, h2⟩; exact ⟨x.toNat, by simp; omega, by omega⟩
theorem idxs_get {n k : Nat} (h : k < n) : (idxs n)[k]? = some (k : Int) := by simp [idxs, h]
theorem idxs_pw (n : Nat) : (idxs n).Pairwise (· < ·) := by
  unfold idxs
  rw [List.pairwise_map]
  exact List.pairwise_lt_range.imp (fun h => by omega)
theorem idxs_nodup (n : Nat) : (idxs n).Nodup := (idxs_pw n).imp (fun h => by omega)
end Go.Proofs.YtmahagcghpoekaaGreat
