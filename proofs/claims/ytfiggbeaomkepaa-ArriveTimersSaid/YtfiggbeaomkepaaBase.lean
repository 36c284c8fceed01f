/- Small lemmas that the walks of this seat use: what a slice reads as, what lay below stays, endings. No condition: plain lemmas. -/
import Derived.Test.YtfiggbeaomkepaaRows
import Derived.WalkKit
import Derived.ProofKit
import Derived.OpenShut
import Derived.ShutString
import Derived.ChangeOld
import Derived.Below
import Derived.WalkSpells
import Derived.WalkLawsBesides
import Derived.Lib.Hide
import Derived.Lib.SmallJoins
import Derived.Deep.QuietTactic
import Derived.Deep.Slices
import Derived.BigQuiet
import Derived.Outline
import Derived.Handy
import Derived.Deep.DeepFit
namespace Go.Proofs.Ytfiggbeaomkepaa
open Go.RowKit
set_option linter.unusedSimpArgs false
set_option linter.unusedVariables false
theorem ret_bool {a b : Bool} (h : a = b) : Ending.returned (.bool a) = .returned (.bool b) := by rw [h]
theorem ret_int {k : IntKind} {a b : Int} (h : a = b) : Ending.returned (.int k a) = .returned (.int k b) := by rw [h]
/-- two results: an int and an error number -/
abbrev rII (a b : Int) : Ending := .returned (.tuple #[.int .i64 a, .int .i64 b])
abbrev rBI (a : Bool) (b : Int) : Ending := .returned (.tuple #[.bool a, .int .i64 b])
abbrev rP (p : Int × Int) : Ending := rII p.1 p.2
abbrev rBP (p : Bool × Int) : Ending := rBI p.1 p.2
theorem rII_eq {a b c d : Int} (h : a = c) (h' : b = d) : Ending.returned (.tuple #[.int .i64 a, .int .i64 b]) = rII c d := by rw [h, h']
theorem rBI_eq {a c : Bool} {b d : Int} (h : a = c) (h' : b = d) : Ending.returned (.tuple #[.bool a, .int .i64 b]) = rBI c d := by rw [h, h']
theorem bcell {W w1 : World} (hb : Below W.heap.size W w1) : (∀ b o, b < W.heap.size → w1.cell? ⟨b, o, none⟩ = W.cell? ⟨b, o, none⟩) ∧ (∀ b o, b < W.heap.size → w1.frozen? ⟨b, o, none⟩ = W.frozen? ⟨b, o, none⟩) :=
  ⟨fun b o h => hb.cell (p := ⟨b, o, none⟩) h, fun b o h => hb.frozen (p := ⟨b, o, none⟩) h⟩
theorem bfacts {W w1 : World} (hb : Below W.heap.size W w1) : (∀ b o, b < W.heap.size → w1.cell? ⟨b, o, none⟩ = W.cell? ⟨b, o, none⟩) ∧ (∀ b o, b < W.heap.size → w1.frozen? ⟨b, o, none⟩ = W.frozen? ⟨b, o, none⟩) ∧ W.heap.size ≤ w1.heap.size ∧ (∀ n, n < W.heap.size → n < w1.heap.size) :=
  ⟨fun b o h => hb.cell (p := ⟨b, o, none⟩) h, fun b o h => hb.frozen (p := ⟨b, o, none⟩) h, hb.size, fun _ h => Nat.lt_of_lt_of_le h hb.size⟩
theorem World.size_drewN (w : World) (n : Nat) : (w.drewN n).heap.size = w.heap.size := rfl
theorem Below.draws {B : Nat} {a w : World} (h : Below B a w) (n : Nat) : Below B a (w.drewN n) := ⟨h.os, h.tape, h.output, h.size, h.block⟩
theorem below_draws {B : Nat} {w : World} (n : Nat) : Below B w (w.drewN n) := ⟨rfl, rfl, rfl, Nat.le_refl _, fun _ _ => rfl⟩
/-- then: a later world, from a world that lies above -/
theorem Below.then {a b c : World} (h : Below a.heap.size a b) (k : Below b.heap.size b c) : Below a.heap.size a c := h.trans (k.mono h.size)
/-- w, or a later world in which all that was in w stays as it was -/
structure After (w : World) where
  to : World
  below : Below w.heap.size w to
instance afterNonempty (w : World) : Nonempty (After w) := ⟨⟨w, Below.refl _ _⟩⟩
def World.later (w : World) (x : After w) : World := x.to
@[go_sem] theorem cell?_later {w : World} {x : After w} {b o : Nat} (h : b < w.heap.size) : (World.later w x).cell? ⟨b, o, none⟩ = w.cell? ⟨b, o, none⟩ := x.below.cell (p := ⟨b, o, none⟩) h
@[go_sem] theorem frozen?_later {w : World} {x : After w} {b o : Nat} (h : b < w.heap.size) : (World.later w x).frozen? ⟨b, o, none⟩ = w.frozen? ⟨b, o, none⟩ := x.below.frozen (p := ⟨b, o, none⟩) h
/-- a region that draws its order, whose callees only make memory: one walk, in the order of the text -/
theorem wp_region_later_lit {P : Program} {id : Nat} {Q : Exit → Act → World → Prop} {a : Act} {w : World} {l : List Oper} (hm : P.follows .mixedOrders = true) (hB : Region.lexB .any l.toArray = true)
    (h : wpQuiet P l.toArray (fun w' => ∃ x, w' = World.later w x) (fun a' => ∀ w', Below w.heap.size w w' → Q .normal a' w') l a) : (Code.region id l.toArray true).wp P Q a w := by
  refine wp_region_quiet (C := fun w' => ∃ x, w' = World.later w x) hm hB ⟨⟨_, (Below.refl _ w).drew⟩, rfl⟩ ?_
  have e : (fun a' : Act => ∀ w', (∃ x, w' = World.later w x) → Q .normal a' w') = (fun a' => ∀ w', Below w.heap.size w w' → Q .normal a' w') := by
    funext a'
    exact propext ⟨fun k w' hb => k w' ⟨⟨w', hb⟩, rfl⟩, fun k w' ⟨x, hx⟩ => hx ▸ k _ x.below⟩
  rw [e]; simpa using h
theorem later_of {P : Program} {f : FuncId} {args : Array Value} {w : World} {x : After w} {v : Value}
    (h : Calls P f args (World.later w x) fun e w' => e = .returned v ∧ Below (World.later w x).heap.size (World.later w x) w') : Calls P f args (World.later w x) fun e w'' => e = .returned v ∧ ∃ y, w'' = World.later w y :=
  h.mono fun _ w' ⟨he, hb⟩ => ⟨he, ⟨w', Below.then x.below hb⟩, rfl⟩
theorem later_same {P : Program} {f : FuncId} {args : Array Value} {w : World} {x : After w} {v : Value}
    (h : Calls P f args (World.later w x) fun e w' => e = .returned v ∧ World.later w x = w') : Calls P f args (World.later w x) fun e w'' => e = .returned v ∧ ∃ y, w'' = World.later w y :=
  h.mono fun _ w' ⟨he, hb⟩ => ⟨he, x, hb.symm⟩
abbrev P2 := Int × Int
def enc2 (p : P2) : List Value := [.int .i64 p.1, .int .i64 p.2]
def enc1 (p : Int) : List Value := [.int .i64 p]
/-- a slice of n elements, each of k cells, at address a reads as xs in w -/
structure Rd (w : World) (a : Option Addr) (n k : Nat) (xs : List (List Value)) : Prop where
  len : xs.length = n
  small : n ≤ 9223372036854775807
  at_ : 0 < n → ∃ b off, a = some ⟨b, off, none⟩ ∧ b < w.heap.size ∧ ∀ i (hi : i < xs.length), ∀ j, j < k → w.cell? ⟨b, off + i * k + j, none⟩ = (xs[i])[j]?
theorem Rd.ext {w w' : World} {a n k xs} (h : Rd w a n k xs) (hb : Below w.heap.size w w') : Rd w' a n k xs :=
  ⟨h.len, h.small, fun h0 => by
    obtain ⟨b, off, rfl, hlt, hc⟩ := h.at_ h0
    exact ⟨b, off, rfl, Nat.lt_of_lt_of_le hlt hb.size, fun i hi j hj => by rw [hb.cell (p := ⟨b, _, none⟩) hlt]; exact hc i hi j hj⟩⟩
theorem Rd.nil (w : World) (k : Nat) (a : Option Addr) : Rd w a 0 k [] := ⟨rfl, by omega, fun h => by omega⟩
theorem Rd.two {w a n} {xs : List P2} (h : Rd w a n 2 (xs.map enc2)) (k : Nat) (hk : k < n) : ∃ (hl : k < xs.length) (b off : Nat), a = some ⟨b, off, none⟩ ∧ b < w.heap.size ∧ w.cell? ⟨b, off + k * 2, none⟩ = some (.int .i64 xs[k].1) ∧ w.cell? ⟨b, off + k * 2 + 1, none⟩ = some (.int .i64 xs[k].2) := by
  have hl : k < xs.length := by have := h.len; simp at this; omega
  obtain ⟨b, off, rfl, hlt, hc⟩ := h.at_ (by omega)
  have h0 := hc k (by simpa using hl) 0 (by omega)
  have h1 := hc k (by simpa using hl) 1 (by omega)
  simp [enc2] at h0 h1
  exact ⟨hl, b, off, rfl, hlt, h0, h1⟩
theorem Rd.one {w a n} {xs : List Int} (h : Rd w a n 1 (xs.map enc1)) (k : Nat) (hk : k < n) : ∃ (hl : k < xs.length) (b off : Nat), a = some ⟨b, off, none⟩ ∧ b < w.heap.size ∧ w.cell? ⟨b, off + k, none⟩ = some (.int .i64 xs[k]) := by
  have hl : k < xs.length := by have := h.len; simp at this; omega
  obtain ⟨b, off, rfl, hlt, hc⟩ := h.at_ (by omega)
  have h0 := hc k (by simpa using hl) 0 (by omega)
  simp [enc1] at h0
  exact ⟨hl, b, off, rfl, hlt, h0⟩
theorem Rd.length {w a n k} {α : Type} {f : α → List Value} {xs : List α} (h : Rd w a n k (xs.map f)) : xs.length = n := by have := h.len; simpa using this
theorem equalIn_pair {P : Program} (t e : TypeId) (d : Nat) (ht : P.underlying t = some (.array 2 e)) (he : P.underlying e = some (.int .i64)) (hz : ∀ w, (sizeOf e).run P w = .ok 1 w) (hp : ∀ w, (isAgg e).run P w = .ok false w) (a b x y : Int) (w : World) :
    (Op.equalIn (d + 2) t (.agg #[.int .i64 a, .int .i64 b]) (.agg #[.int .i64 x, .int .i64 y])).run P w = .ok (a == x && b == y) w := by
  have h1 : ∀ (p q : Int) (w : World), (Op.equalIn (d + 1) e (.int .i64 p) (.int .i64 q)).run P w = .ok (p == q) w := fun p q w => run_equalIn_int w d e .i64 .i64 p q he
  have p0 : ∀ (u v : Value) (w : World), (part e #[u, v] 0).run P w = .ok u w := fun u v w => by simp [part, hp]
  have p1 : ∀ (u v : Value) (w : World), (part e #[u, v] 1).run P w = .ok v w := fun u v w => by simp [part, hp]
  rw [Op.equalIn]
  simp only [Sem.run_bind, run_underlying ht, Result.andThen_ok, hz]
  by_cases e1 : a = x <;> by_cases e2 : b = y <;>
  simp [List.range'_succ, Std.Legacy.Range.forIn_eq_forIn_range', p0, p1, h1, e1, e2, Std.Legacy.Range.size]
/-- the row of an element type in the table: a slice type t of elements e of k cells and 'by' bytes -/
structure Elt (P : Program) (t e k bytes : Nat) : Prop where
  ht : P.underlying t = some (.slice e)
  hi : ∃ i z, P.info? e = some i ∧ i.zero = some z ∧ i.size = k ∧ i.bytes = bytes ∧ z.cells.size = k
  hk : 0 < k
theorem Elt.mk' {P : Program} {t e k bytes : Nat} {z : Value} (ht : P.underlying t = some (.slice e)) (hi : (P.info? e).map (fun i => (i.zero, i.size, i.bytes)) = some (some z, k, bytes)) (hz : z.cells.size = k) (hk : 0 < k) : Elt P t e k bytes := by
  obtain ⟨i, h1, h2, h3, h4⟩ := info_parts hi
  exact ⟨ht, ⟨i, z, h1, h2, h3, h4, hz⟩, hk⟩
theorem owns_ext {w w' : World} {B e k n : Nat} {v : Value} {xs : List Value} (h : w.ownsRow B e k v n xs) (hb : Below w.heap.size w w') : w'.ownsRow B e k v n xs :=
  h.kept (row := none) ⟨hb.os, hb.tape, hb.output, hb.size, fun j hj _ => hb.block j hj⟩ (by cases v.ownBlock <;> simp)
theorem owns_mono {w : World} {B B' e k n : Nat} {v : Value} {xs : List Value} (h : w.ownsRow B e k v n xs) (hB : B' ≤ B) : w.ownsRow B' e k v n xs := by
  obtain ⟨h1, h2⟩ := h
  refine ⟨h1, h2.imp id ?_⟩
  rintro ⟨g, cap, cur, hv, hg, r⟩
  exact ⟨g, cap, cur, hv, by omega, r⟩
/-- out = append(out, x), x built in the block ahead of it -/
theorem wpList_push {P : Program} {ops : Array Oper} {rest : List Oper} {o : Oper} {a : Act} {Q : Exit → Act → World → Prop} {w : World} {T : TypeId} {arr : Array Value} (hgd : o.guard = none) (s x : Operand) (t : TypeId)
    (ho : o.op = .call { callee := .builtin .append, args := #[s, x], argTypes := #[t, t] }) {e k bytes B n c : Nat} (E : Elt P t e k bytes) {v : Value} {xs : List Value}
    (hs : a.eval s = v) (hown : w.ownsRow B e k v n xs) (hx : a.eval x = .slice (some ⟨w.heap.size, 0, none⟩) 1 c) (harr : arr.size = k) (h1 : ∀ u ∈ arr.toList, u.oneCell' = true)
    (hn : n ≤ 100000000) (hby : bytes ≤ 1000) (hB : B ≤ w.heap.size)
    (h : ∀ a' c' w', w'.ownsRow B e k (.slice a' (n + 1) c') (n + 1) (xs ++ arr.toList) → Below B w w' → wpList P ops Q rest (a.put o.dst (.slice a' (n + 1) c')) w') :
    wpList P ops Q (o :: rest) a (w.alloc (.cells arr T)) := by
  obtain ⟨i, z, h2, h3, h4, h5, h6⟩ := E.hi
  refine wpList_append_own (w.alloc (.cells arr T)) hgd s x t ho B e i z k bytes E.ht h2 h3 h4 h5 h6 E.hk v n xs hs (hown.alloc _) ⟨w.heap.size, 0, none⟩ 1 c arr.toList hx (by simpa using harr) ?_ h1 (by unfold maxLen; omega) ?_ (by simp; omega) ?_
  · intro j u hj
    have : (w.alloc (.cells arr T)).cell? ⟨w.heap.size, j, none⟩ = arr[j]? := World.cell?_alloc_new w arr T j
    have e : (⟨w.heap.size, 0, none⟩ : Addr).add j = ⟨w.heap.size, j, none⟩ := by unfold Addr.add; split <;> simp_all
    rw [e, this]; simpa using hj
  · have : (n + 1) * bytes ≤ 100000001 * 1000 := Nat.mul_le_mul (by omega) hby
    omega
  · intro v' w' hown' hg _
    have hb : Below B w w' := ((Below.refl B w).alloc hB _).grown hg (by simp; omega) (fun j hj => (hown.lt j hj).1)
    obtain ⟨hl, h7⟩ := hown'
    rcases h7 with ⟨_, h8⟩ | ⟨g, cap, cur, rfl, h9⟩
    · omega
    · exact h _ _ _ ⟨hl, .inr ⟨g, cap, cur, rfl, h9⟩⟩ hb
theorem flat_get {α : Type} {enc : α → List Value} {k : Nat} (he : ∀ x, (enc x).length = k) : ∀ (xs : List α) (i j : Nat) (hi : i < xs.length), j < k → (xs.flatMap enc)[i * k + j]? = (enc xs[i])[j]?
  | x :: xs, 0, j, _, hj => by simp [List.getElem?_append, he, hj]
  | x :: xs, i + 1, j, hi, hj => by
    have hi' : i < xs.length := by simpa using hi
    have := flat_get he xs i j hi' hj
    simp only [List.flatMap_cons, List.getElem_cons_succ]
    rw [List.getElem?_append_right (by rw [he, Nat.add_mul]; omega), he, ← this]
    congr 1
    rw [Nat.add_mul]; omega
theorem flat_len {α : Type} {enc : α → List Value} {k : Nat} (he : ∀ x, (enc x).length = k) (xs : List α) : (xs.flatMap enc).length = xs.length * k := by
  induction xs with
  | nil => simp
  | cons x xs ih => simp [ih, he, Nat.add_mul]; omega
theorem Rd.of_owns {w : World} {B e k n c : Nat} {a : Option Addr} {α : Type} {enc : α → List Value} {xs : List α} (he : ∀ x, (enc x).length = k) (hk : 0 < k) (h : w.ownsRow B e k (.slice a n c) n (xs.flatMap enc)) : Rd w a n k (xs.map enc) := by
  have hl : xs.length = n := by
    have := h.1
    rw [flat_len he] at this
    exact Nat.eq_of_mul_eq_mul_right hk this
  refine ⟨by simpa using hl, ?_, fun h0 => ?_⟩
  · rcases h.2 with ⟨_, rfl⟩ | ⟨g, cap, cur, hv, _, _, h1, h2, _⟩
    · omega
    · unfold maxLen at h2; omega
  · rcases h.2 with ⟨_, rfl⟩ | ⟨g, cap, cur, hv, hB, hh, h1, h2, h3, h4⟩
    · omega
    · obtain ⟨rfl, _, rfl⟩ : a = some ⟨g, 0, none⟩ ∧ n = n ∧ c = cap := by simpa using hv
      refine ⟨g, 0, rfl, (Array.getElem?_eq_some_iff.1 hh).1, fun i hi j hj => ?_⟩
      have hlt : i * k + j < n * k := by
        have : (i + 1) * k ≤ n * k := Nat.mul_le_mul_right k (by simp at hi; omega)
        rw [Nat.add_mul] at this; omega
      rw [Nat.zero_add, h.cellAt (i * k + j) hlt, flat_get he xs i j (by simpa using hi) hj]
      simp
/-- within, in -/
def inB (n a b : Int) : Bool := decide (a ≤ n ∧ n ≤ b)
theorem inB_eq (n a b : Int) : inB n a b = (decide (a ≤ n) && decide (n ≤ b)) := by unfold inB; simp
theorem inB_iff {n a b : Int} : inB n a b = true ↔ a ≤ n ∧ n ≤ b := by simp [inB]
end Go.Proofs.Ytfiggbeaomkepaa
