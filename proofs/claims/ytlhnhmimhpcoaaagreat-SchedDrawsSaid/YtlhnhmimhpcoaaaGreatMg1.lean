/- Small lemmas that the walks of this seat use: what a slice reads as, what lay below stays, endings. No condition: plain lemmas. From what a row says of an argument, its reach with it, to what the walks use. No condition: plain lemmas. Plain facts: insertion into a sorted list, and the list of the first numbers. No condition: plain lemmas. Plain facts: tasks, who is ahead, ranks, ceilings, blockers. No condition: plain lemmas. Reading a slice from the front: the next element and the rest. No condition: plain lemmas. Predicates handed over as function values; what IndexFunc gives. No condition: plain lemmas. append at a step of a region that draws its order, and what else it keeps. No condition: plain lemmas. -/
import Derived.Test.YtlhnhmimhpcoaaaGreatRows
import Derived.WalkKit
import Derived.ProofKit
import Derived.OpenShut
import Derived.ShutString
import Derived.ChangeOld
import Derived.Below
import Derived.WalkSpells
import Derived.WalkLawsBesides
import Derived.Lib.Hide
import Derived.Lib.SmallJoins
import Derived.Deep.QuietTactic
import Derived.Deep.Slices
import Derived.BigQuiet
import Derived.Outline
import Derived.Handy
import Derived.Deep.DeepFit
import Derived.SizedLaws
import Derived.Laws.AppendOwnNone
import Derived.Shelf.GgClosure.Gives
import Derived.Deep.RegionHeld3
import Derived.Deep.AppendLies
import Derived.Maps.AppendAt
import Derived.Laws.OwnMore
namespace Go.Proofs.YtlhnhmimhpcoaaaGreat
open Go.RowKit
set_option linter.unusedSimpArgs false
set_option linter.unusedVariables false
theorem ret_bool {a b : Bool} (h : a = b) : Ending.returned (.bool a) = .returned (.bool b) := by rw [h]
theorem ret_int {k : IntKind} {a b : Int} (h : a = b) : Ending.returned (.int k a) = .returned (.int k b) := by rw [h]
/-- two results: an int and an error number -/
abbrev rII (a b : Int) : Ending := .returned (.tuple #[.int .i64 a, .int .i64 b])
abbrev rBI (a : Bool) (b : Int) : Ending := .returned (.tuple #[.bool a, .int .i64 b])
abbrev rP (p : Int × Int) : Ending := rII p.1 p.2
abbrev rBP (p : Bool × Int) : Ending := rBI p.1 p.2
theorem rII_eq {a b c d : Int} (h : a = c) (h' : b = d) : Ending.returned (.tuple #[.int .i64 a, .int .i64 b]) = rII c d := by rw [h, h']
theorem rBI_eq {a c : Bool} {b d : Int} (h : a = c) (h' : b = d) : Ending.returned (.tuple #[.bool a, .int .i64 b]) = rBI c d := by rw [h, h']
theorem bcell {W w1 : World} (hb : Below W.heap.size W w1) : (∀ b o, b < W.heap.size → w1.cell? ⟨b, o, none⟩ = W.cell? ⟨b, o, none⟩) ∧ (∀ b o, b < W.heap.size → w1.frozen? ⟨b, o, none⟩ = W.frozen? ⟨b, o, none⟩) :=
  ⟨fun b o h => hb.cell (p := ⟨b, o, none⟩) h, fun b o h => hb.frozen (p := ⟨b, o, none⟩) h⟩
theorem bfacts {W w1 : World} (hb : Below W.heap.size W w1) : (∀ b o, b < W.heap.size → w1.cell? ⟨b, o, none⟩ = W.cell? ⟨b, o, none⟩) ∧ (∀ b o, b < W.heap.size → w1.frozen? ⟨b, o, none⟩ = W.frozen? ⟨b, o, none⟩) ∧ W.heap.size ≤ w1.heap.size ∧ (∀ n, n < W.heap.size → n < w1.heap.size) :=
  ⟨fun b o h => hb.cell (p := ⟨b, o, none⟩) h, fun b o h => hb.frozen (p := ⟨b, o, none⟩) h, hb.size, fun _ h => Nat.lt_of_lt_of_le h hb.size⟩
theorem World.size_drewN (w : World) (n : Nat) : (w.drewN n).heap.size = w.heap.size := rfl
theorem Below.draws {B : Nat} {a w : World} (h : Below B a w) (n : Nat) : Below B a (w.drewN n) := ⟨h.os, h.tape, h.output, h.size, h.block⟩
theorem below_draws {B : Nat} {w : World} (n : Nat) : Below B w (w.drewN n) := ⟨rfl, rfl, rfl, Nat.le_refl _, fun _ _ => rfl⟩
/-- then: a later world, from a world that lies above -/
theorem Below.then {a b c : World} (h : Below a.heap.size a b) (k : Below b.heap.size b c) : Below a.heap.size a c := h.trans (k.mono h.size)
/-- w, or a later world in which all that was in w stays as it was -/
structure After (w : World) where
  to : World
  below : Below w.heap.size w to
instance afterNonempty (w : World) : Nonempty (After w) := ⟨⟨w, Below.refl _ _⟩⟩
def World.later (w : World) (x : After w) : World := x.to
@[go_sem] theorem cell?_later {w : World} {x : After w} {b o : Nat} (h : b < w.heap.size) : (World.later w x).cell? ⟨b, o, none⟩ = w.cell? ⟨b, o, none⟩ := x.below.cell (p := ⟨b, o, none⟩) h
@[go_sem] theorem frozen?_later {w : World} {x : After w} {b o : Nat} (h : b < w.heap.size) : (World.later w x).frozen? ⟨b, o, none⟩ = w.frozen? ⟨b, o, none⟩ := x.below.frozen (p := ⟨b, o, none⟩) h
/-- a region that draws its order, whose callees only make memory: one walk, in the order of the text -/
theorem wp_region_later_lit {P : Program} {id : Nat} {Q : Exit → Act → World → Prop} {a : Act} {w : World} {l : List Oper} (hm : P.follows .mixedOrders = true) (hB : Region.lexB .any l.toArray = true)
    (h : wpQuiet P l.toArray (fun w' => ∃ x, w' = World.later w x) (fun a' => ∀ w', Below w.heap.size w w' → Q .normal a' w') l a) : (Code.region id l.toArray true).wp P Q a w := by
  refine wp_region_quiet (C := fun w' => ∃ x, w' = World.later w x) hm hB ⟨⟨_, (Below.refl _ w).drew⟩, rfl⟩ ?_
  have e : (fun a' : Act => ∀ w', (∃ x, w' = World.later w x) → Q .normal a' w') = (fun a' => ∀ w', Below w.heap.size w w' → Q .normal a' w') := by
    funext a'
    exact propext ⟨fun k w' hb => k w' ⟨⟨w', hb⟩, rfl⟩, fun k w' ⟨x, hx⟩ => hx ▸ k _ x.below⟩
  rw [e]; simpa using h
theorem later_of {P : Program} {f : FuncId} {args : Array Value} {w : World} {x : After w} {v : Value}
    (h : Calls P f args (World.later w x) fun e w' => e = .returned v ∧ Below (World.later w x).heap.size (World.later w x) w') : Calls P f args (World.later w x) fun e w'' => e = .returned v ∧ ∃ y, w'' = World.later w y :=
  h.mono fun _ w' ⟨he, hb⟩ => ⟨he, ⟨w', Below.then x.below hb⟩, rfl⟩
theorem later_same {P : Program} {f : FuncId} {args : Array Value} {w : World} {x : After w} {v : Value}
    (h : Calls P f args (World.later w x) fun e w' => e = .returned v ∧ World.later w x = w') : Calls P f args (World.later w x) fun e w'' => e = .returned v ∧ ∃ y, w'' = World.later w y :=
  h.mono fun _ w' ⟨he, hb⟩ => ⟨he, x, hb.symm⟩
abbrev P2 := Int × Int
def enc2 (p : P2) : List Value := [.int .i64 p.1, .int .i64 p.2]
def enc1 (p : Int) : List Value := [.int .i64 p]
/-- a slice of n elements, each of k cells, at address a reads as xs in w -/
structure Rd (w : World) (a : Option Addr) (n k : Nat) (xs : List (List Value)) : Prop where
  len : xs.length = n
  small : n ≤ 9223372036854775807
  at_ : 0 < n → ∃ b off, a = some ⟨b, off, none⟩ ∧ b < w.heap.size ∧ ∀ i (hi : i < xs.length), ∀ j, j < k → w.cell? ⟨b, off + i * k + j, none⟩ = (xs[i])[j]?
theorem Rd.ext {w w' : World} {a n k xs} (h : Rd w a n k xs) (hb : Below w.heap.size w w') : Rd w' a n k xs :=
  ⟨h.len, h.small, fun h0 => by
    obtain ⟨b, off, rfl, hlt, hc⟩ := h.at_ h0
    exact ⟨b, off, rfl, Nat.lt_of_lt_of_le hlt hb.size, fun i hi j hj => by rw [hb.cell (p := ⟨b, _, none⟩) hlt]; exact hc i hi j hj⟩⟩
theorem Rd.nil (w : World) (k : Nat) (a : Option Addr) : Rd w a 0 k [] := ⟨rfl, by omega, fun h => by omega⟩
theorem Rd.two {w a n} {xs : List P2} (h : Rd w a n 2 (xs.map enc2)) (k : Nat) (hk : k < n) : ∃ (hl : k < xs.length) (b off : Nat), a = some ⟨b, off, none⟩ ∧ b < w.heap.size ∧ w.cell? ⟨b, off + k * 2, none⟩ = some (.int .i64 xs[k].1) ∧ w.cell? ⟨b, off + k * 2 + 1, none⟩ = some (.int .i64 xs[k].2) := by
  have hl : k < xs.length := by have := h.len; simp at this; omega
  obtain ⟨b, off, rfl, hlt, hc⟩ := h.at_ (by omega)
  have h0 := hc k (by simpa using hl) 0 (by omega)
  have h1 := hc k (by simpa using hl) 1 (by omega)
  simp [enc2] at h0 h1
  exact ⟨hl, b, off, rfl, hlt, h0, h1⟩
theorem Rd.one {w a n} {xs : List Int} (h : Rd w a n 1 (xs.map enc1)) (k : Nat) (hk : k < n) : ∃ (hl : k < xs.length) (b off : Nat), a = some ⟨b, off, none⟩ ∧ b < w.heap.size ∧ w.cell? ⟨b, off + k, none⟩ = some (.int .i64 xs[k]) := by
  have hl : k < xs.length := by have := h.len; simp at this; omega
  obtain ⟨b, off, rfl, hlt, hc⟩ := h.at_ (by omega)
  have h0 := hc k (by simpa using hl) 0 (by omega)
  simp [enc1] at h0
  exact ⟨hl, b, off, rfl, hlt, h0⟩
theorem Rd.length {w a n k} {α : Type} {f : α → List Value} {xs : List α} (h : Rd w a n k (xs.map f)) : xs.length = n := by have := h.len; simpa using this
theorem equalIn_pair {P : Program} (t e : TypeId) (d : Nat) (ht : P.underlying t = some (.array 2 e)) (he : P.underlying e = some (.int .i64)) (hz : ∀ w, (sizeOf e).run P w = .ok 1 w) (hp : ∀ w, (isAgg e).run P w = .ok false w) (a b x y : Int) (w : World) :
    (Op.equalIn (d + 2) t (.agg #[.int .i64 a, .int .i64 b]) (.agg #[.int .i64 x, .int .i64 y])).run P w = .ok (a == x && b == y) w := by
  have h1 : ∀ (p q : Int) (w : World), (Op.equalIn (d + 1) e (.int .i64 p) (.int .i64 q)).run P w = .ok (p == q) w := fun p q w => run_equalIn_int w d e .i64 .i64 p q he
  have p0 : ∀ (u v : Value) (w : World), (part e #[u, v] 0).run P w = .ok u w := fun u v w => by simp [part, hp]
  have p1 : ∀ (u v : Value) (w : World), (part e #[u, v] 1).run P w = .ok v w := fun u v w => by simp [part, hp]
  rw [Op.equalIn]
  simp only [Sem.run_bind, run_underlying ht, Result.andThen_ok, hz]
  by_cases e1 : a = x <;> by_cases e2 : b = y <;>
  simp [List.range'_succ, Std.Legacy.Range.forIn_eq_forIn_range', p0, p1, h1, e1, e2, Std.Legacy.Range.size]
/-- the row of an element type in the table: a slice type t of elements e of k cells and 'by' bytes -/
structure Elt (P : Program) (t e k bytes : Nat) : Prop where
  ht : P.underlying t = some (.slice e)
  hi : ∃ i z, P.info? e = some i ∧ i.zero = some z ∧ i.size = k ∧ i.bytes = bytes ∧ z.cells.size = k
  hk : 0 < k
theorem Elt.mk' {P : Program} {t e k bytes : Nat} {z : Value} (ht : P.underlying t = some (.slice e)) (hi : (P.info? e).map (fun i => (i.zero, i.size, i.bytes)) = some (some z, k, bytes)) (hz : z.cells.size = k) (hk : 0 < k) : Elt P t e k bytes := by
  obtain ⟨i, h1, h2, h3, h4⟩ := info_parts hi
  exact ⟨ht, ⟨i, z, h1, h2, h3, h4, hz⟩, hk⟩
theorem owns_ext {w w' : World} {B e k n : Nat} {v : Value} {xs : List Value} (h : w.ownsRow B e k v n xs) (hb : Below w.heap.size w w') : w'.ownsRow B e k v n xs :=
  h.kept (row := none) ⟨hb.os, hb.tape, hb.output, hb.size, fun j hj _ => hb.block j hj⟩ (by cases v.ownBlock <;> simp)
theorem owns_mono {w : World} {B B' e k n : Nat} {v : Value} {xs : List Value} (h : w.ownsRow B e k v n xs) (hB : B' ≤ B) : w.ownsRow B' e k v n xs := by
  obtain ⟨h1, h2⟩ := h
  refine ⟨h1, h2.imp id ?_⟩
  rintro ⟨g, cap, cur, hv, hg, r⟩
  exact ⟨g, cap, cur, hv, by omega, r⟩
/-- out = append(out, x), x built in the block ahead of it -/
theorem wpList_push {P : Program} {ops : Array Oper} {rest : List Oper} {o : Oper} {a : Act} {Q : Exit → Act → World → Prop} {w : World} {T : TypeId} {arr : Array Value} (hgd : o.guard = none) (s x : Operand) (t : TypeId)
    (ho : o.op = .call { callee := .builtin .append, args := #[s, x], argTypes := #[t, t] }) {e k bytes B n c : Nat} (E : Elt P t e k bytes) {v : Value} {xs : List Value}
    (hs : a.eval s = v) (hown : w.ownsRow B e k v n xs) (hx : a.eval x = .slice (some ⟨w.heap.size, 0, none⟩) 1 c) (harr : arr.size = k) (h1 : ∀ u ∈ arr.toList, u.oneCell' = true)
    (hn : n ≤ 100000000) (hby : bytes ≤ 1000) (hB : B ≤ w.heap.size)
    (h : ∀ a' c' w', w'.ownsRow B e k (.slice a' (n + 1) c') (n + 1) (xs ++ arr.toList) → Below B w w' → wpList P ops Q rest (a.put o.dst (.slice a' (n + 1) c')) w') :
    wpList P ops Q (o :: rest) a (w.alloc (.cells arr T)) := by
  obtain ⟨i, z, h2, h3, h4, h5, h6⟩ := E.hi
  refine wpList_append_own (w.alloc (.cells arr T)) hgd s x t ho B e i z k bytes E.ht h2 h3 h4 h5 h6 E.hk v n xs hs (hown.alloc _) ⟨w.heap.size, 0, none⟩ 1 c arr.toList hx (by simpa using harr) ?_ h1 (by unfold maxLen; omega) ?_ (by simp; omega) ?_
  · intro j u hj
    have : (w.alloc (.cells arr T)).cell? ⟨w.heap.size, j, none⟩ = arr[j]? := World.cell?_alloc_new w arr T j
    have e : (⟨w.heap.size, 0, none⟩ : Addr).add j = ⟨w.heap.size, j, none⟩ := by unfold Addr.add; split <;> simp_all
    rw [e, this]; simpa using hj
  · have : (n + 1) * bytes ≤ 100000001 * 1000 := Nat.mul_le_mul (by omega) hby
    omega
  · intro v' w' hown' hg _
    have hb : Below B w w' := ((Below.refl B w).alloc hB _).grown hg (by simp; omega) (fun j hj => (hown.lt j hj).1)
    obtain ⟨hl, h7⟩ := hown'
    rcases h7 with ⟨_, h8⟩ | ⟨g, cap, cur, rfl, h9⟩
    · omega
    · exact h _ _ _ ⟨hl, .inr ⟨g, cap, cur, rfl, h9⟩⟩ hb
theorem flat_get {α : Type} {enc : α → List Value} {k : Nat} (he : ∀ x, (enc x).length = k) : ∀ (xs : List α) (i j : Nat) (hi : i < xs.length), j < k → (xs.flatMap enc)[i * k + j]? = (enc xs[i])[j]?
  | x :: xs, 0, j, _, hj => by simp [List.getElem?_append, he, hj]
  | x :: xs, i + 1, j, hi, hj => by
    have hi' : i < xs.length := by simpa using hi
    have := flat_get he xs i j hi' hj
    simp only [List.flatMap_cons, List.getElem_cons_succ]
    rw [List.getElem?_append_right (by rw [he, Nat.add_mul]; omega), he, ← this]
    congr 1
    rw [Nat.add_mul]; omega
theorem flat_len {α : Type} {enc : α → List Value} {k : Nat} (he : ∀ x, (enc x).length = k) (xs : List α) : (xs.flatMap enc).length = xs.length * k := by
  induction xs with
  | nil => simp
  | cons x xs ih => simp [ih, he, Nat.add_mul]; omega
theorem Rd.of_owns {w : World} {B e k n c : Nat} {a : Option Addr} {α : Type} {enc : α → List Value} {xs : List α} (he : ∀ x, (enc x).length = k) (hk : 0 < k) (h : w.ownsRow B e k (.slice a n c) n (xs.flatMap enc)) : Rd w a n k (xs.map enc) := by
  have hl : xs.length = n := by
    have := h.1
    rw [flat_len he] at this
    exact Nat.eq_of_mul_eq_mul_right hk this
  refine ⟨by simpa using hl, ?_, fun h0 => ?_⟩
  · rcases h.2 with ⟨_, rfl⟩ | ⟨g, cap, cur, hv, _, _, h1, h2, _⟩
    · omega
    · unfold maxLen at h2; omega
  · rcases h.2 with ⟨_, rfl⟩ | ⟨g, cap, cur, hv, hB, hh, h1, h2, h3, h4⟩
    · omega
    · obtain ⟨rfl, _, rfl⟩ : a = some ⟨g, 0, none⟩ ∧ n = n ∧ c = cap := by simpa using hv
      refine ⟨g, 0, rfl, (Array.getElem?_eq_some_iff.1 hh).1, fun i hi j hj => ?_⟩
      have hlt : i * k + j < n * k := by
        have : (i + 1) * k ≤ n * k := Nat.mul_le_mul_right k (by simp at hi; omega)
        rw [Nat.add_mul] at this; omega
      rw [Nat.zero_add, h.cellAt (i * k + j) hlt, flat_get he xs i j (by simpa using hi) hj]
      simp
/-- within, in -/
def inB (n a b : Int) : Bool := decide (a ≤ n ∧ n ≤ b)
theorem inB_eq (n a b : Int) : inB n a b = (decide (a ≤ n) && decide (n ≤ b)) := by unfold inB; simp
theorem inB_iff {n a b : Int} : inB n a b = true ↔ a ≤ n ∧ n ≤ b := by simp [inB]
end Go.Proofs.YtlhnhmimhpcoaaaGreat
namespace Go.Proofs.YtlhnhmimhpcoaaaGreat
open Go.ChangeShapes Go.WideShapes Go.ChangeAt Go.RowKit Go.Joins Go.Deep
set_option linter.unusedSimpArgs false
set_option linter.unusedVariables false
theorem weightsAll_mem {H : Type} {P : Program} {e : TypeId} {d : DataW H} : ∀ {l : List (DataW H)}, d ∈ l → ∀ n ∈ d.weights P e, n ∈ DataW.weightsAll P e l
  | x :: l, hd, n, hn => by
    unfold DataW.weightsAll
    rcases List.mem_cons.1 hd with rfl | hd
    · exact List.mem_append_left _ hn
    · exact List.mem_append_right _ (weightsAll_mem hd n hn)
/-- what a type's cells read as, the reach known -/
def OpensB (P : Program) (t : TypeId) {α : Type} (R : World → List Value → α → Prop) : Prop :=
  ∀ {H : Type} {enc : TypeId × Value → H} {w : World} {base : Nat} {spare : Nat → Bool} {held : Bool} {fuel : Nat} {cs : List Value} {x : DataW H × List MemPlace}, DataW.trod enc P w base spare held fuel t cs = some x → (∀ n ∈ x.1.weights P t, n ≤ reachBytes) → ∃ y, R w cs y
theorem opensB_int {P : Program} {t : TypeId} (ht : P.underlying t = some (.int .i64)) : OpensB P t (fun _ cs (y : Int) => cs = enc1 y ∧ True) := by
  intro H enc w base spare held fuel cs x h _
  obtain ⟨n, e, _⟩ := DataW.trod_int ht h
  exact ⟨n, e, trivial⟩
theorem addB_add (a : Addr) (i : Nat) (h : a.spot = none) : a.add i = ⟨a.block, a.off + i, none⟩ := by
  obtain ⟨b, o, s⟩ := a
  simp only at h
  subst h
  unfold Addr.add; split <;> simp_all
theorem opensB_slice {P : Program} {t e : TypeId} {k : Nat} {α : Type} [Inhabited α] {en : α → List Value} {ok : World → α → Prop} (ht : P.underlying t = some (.slice e)) (hk : P.cellsOf e = k) (hk0 : 0 < k) (he : OpensB P e (fun w cs y => cs = en y ∧ ok w y)) :
    OpensB P t (fun w cs (ys : List α) => ∃ a n c, cs = [.slice a n c] ∧ Rd w a n k (ys.map en) ∧ (∀ y ∈ ys, ok w y) ∧ (n = 0 → (a = none ∧ c = 0) ∨ ∃ ad, a = some ad) ∧ n * P.bytesOf e ≤ reachBytes) := by
  intro H enc w base spare held fuel cs x h hw
  rcases open_slice ht h with ⟨rfl, _⟩ | ⟨a, len, cap, m, n, D, Pl, rfl, hb, hl, hm, hmm, hxe, hx⟩
  · exact ⟨[], none, 0, 0, rfl, Rd.nil w k none, by simp, fun _ => .inl ⟨rfl, rfl⟩, by omega⟩
  · have hlm : len ≤ m := by rw [hmm]; split <;> omega
    rw [hxe] at hw
    simp only [DataW.weights, ht, List.mem_cons, List.mem_append, List.length_map, List.length_range] at hw
    have each : ∀ i, i < len → ∃ y : α, (∀ j, j < k → w.cell? ((a.add (i * k)).add j) = (en y)[j]?) ∧ ok w y := by
      intro i hi
      obtain ⟨cs', h1, h2⟩ := hx i (by omega)
      rw [hk] at h1
      obtain ⟨_, hlen, hcell⟩ := World.cells?_some h1
      obtain ⟨y, rfl, hok⟩ := he h2 (fun q hq => hw q (.inr (.inl (weightsAll_mem (List.mem_map_of_mem (List.mem_range.2 hi)) q hq))))
      exact ⟨y, hcell, hok⟩
    obtain ⟨q, hq⟩ := choose_lt each
    refine ⟨(List.range len).map q, some a, len, cap, rfl, ⟨by simp, by unfold maxLen at hm; omega, fun h0 => ?_⟩, fun y hy => ?_, fun _ => .inr ⟨a, rfl⟩, ?_⟩
    · have c0 := (hq 0 h0).1 0 hk0
      have hne : ∃ v, w.cell? ((a.add (0 * k)).add 0) = some v := by
        obtain ⟨cs', h1, h2⟩ := hx 0 (by omega)
        rw [hk] at h1
        obtain ⟨_, hlen, hcell⟩ := World.cells?_some h1
        rw [hcell 0 hk0]
        exact ⟨cs'[0], by simp [List.getElem?_eq_getElem, hlen, hk0]⟩
      obtain ⟨v, hv⟩ := hne
      have hs0 := World.cell?_spot hv
      have hsp : a.spot = none := by
        obtain ⟨b, o, s⟩ := a
        unfold Addr.add at hs0
        simp at hs0
        exact hs0
      have hblk := World.block_lt_of_cell? w _ hv
      rw [addB_add _ _ hsp, addB_add _ _ rfl] at hblk
      refine ⟨a.block, a.off, by obtain ⟨b, o, s⟩ := a; simp only at hsp; rw [hsp], hblk, fun i hi j hj => ?_⟩
      have hi' : i < len := by simpa using hi
      have := (hq i hi').1 j hj
      rw [addB_add _ _ hsp, addB_add _ _ rfl] at this
      simp only at this
      rw [this]; simp
    · obtain ⟨i, hi, rfl⟩ := List.mem_map.1 hy
      exact (hq i (List.mem_range.1 hi)).2
    · have h1 := hw _ (.inl rfl)
      have h2 : len * P.bytesOf e ≤ (len + (m - len)) * P.bytesOf e := Nat.mul_le_mul_right _ (by omega)
      omega
end Go.Proofs.YtlhnhmimhpcoaaaGreat
namespace Go.Proofs.YtlhnhmimhpcoaaaGreat
open Go.RowKit
set_option linter.unusedSimpArgs false
set_option linter.unusedVariables false
section
variable {α : Type}
/-- x put into a sorted list, from behind -/
def insP (lt : α → α → Bool) (x : α) (s : List α) : List α := (s.reverse.dropWhile (lt x)).reverse ++ x :: (s.reverse.takeWhile (lt x)).reverse
def isortL (lt : α → α → Bool) (xs : List α) : List α := xs.foldl (fun s x => insP lt x s) []
theorem dropWhile_app {f : α → Bool} : ∀ (a b : List α), (∀ y ∈ a, f y = true) → (a ++ b).dropWhile f = b.dropWhile f
  | [], _, _ => rfl
  | x :: a, b, h => by rw [List.cons_append, List.dropWhile_cons_of_pos (h x (by simp))]; exact dropWhile_app a b (fun y hy => h y (by simp [hy]))
theorem takeWhile_app {f : α → Bool} : ∀ (a b : List α), (∀ y ∈ a, f y = true) → (a ++ b).takeWhile f = a ++ b.takeWhile f
  | [], _, _ => rfl
  | x :: a, b, h => by rw [List.cons_append, List.takeWhile_cons_of_pos (h x (by simp)), takeWhile_app a b (fun y hy => h y (by simp [hy]))]; rfl
theorem insP_eq {lt : α → α → Bool} {x : α} {p q : List α} (hq : ∀ y ∈ q, lt x y = true) (hp : ∀ y, p.getLast? = some y → lt x y = false) : insP lt x (p ++ q) = p ++ x :: q := by
  unfold insP
  rw [List.reverse_append, dropWhile_app _ _ (fun y hy => hq y (by simpa using hy)), takeWhile_app _ _ (fun y hy => hq y (by simpa using hy))]
  have h : p.reverse.dropWhile (lt x) = p.reverse ∧ p.reverse.takeWhile (lt x) = [] := by
    cases e : p.reverse with
    | nil => simp
    | cons y r =>
      have : p.getLast? = some y := by
        have : p = r.reverse ++ [y] := by have := congrArg List.reverse e; simpa using this
        rw [this]; simp
      have hy := hp y this
      rw [List.dropWhile_cons_of_neg (by simp [hy]), List.takeWhile_cons_of_neg (by simp [hy])]
      simp
  rw [h.1, h.2]; simp
theorem insP_perm (lt : α → α → Bool) (x : α) (s : List α) : (insP lt x s).Perm (x :: s) := by
  unfold insP
  have h : s = (s.reverse.dropWhile (lt x)).reverse ++ (s.reverse.takeWhile (lt x)).reverse := by
    rw [← List.reverse_append, List.takeWhile_append_dropWhile, List.reverse_reverse]
  refine List.Perm.trans List.perm_middle ?_
  rw [← h]
theorem isort_perm_aux (lt : α → α → Bool) : ∀ (xs s : List α), (xs.foldl (fun s x => insP lt x s) s).Perm (s ++ xs)
  | [], s => by simp
  | x :: xs, s => by
    refine (isort_perm_aux lt xs _).trans ?_
    refine ((insP_perm lt x s).append_right xs).trans ?_
    exact List.perm_middle.symm
theorem isort_perm (lt : α → α → Bool) (xs : List α) : (isortL lt xs).Perm xs := by simpa [isortL] using isort_perm_aux lt xs []
theorem isort_snoc (lt : α → α → Bool) (xs : List α) (x : α) : isortL lt (xs ++ [x]) = insP lt x (isortL lt xs) := by simp [isortL]
/-- sorted by R, if the one that is put in behind keeps R -/
theorem insP_pw {lt : α → α → Bool} {R : α → α → Prop} (htr : ∀ a b c, R a b → R b c → R a c) (hlt : ∀ a b, lt a b = true → R a b) {x : α} {s : List α} (hs : s.Pairwise R) (hx : ∀ y ∈ s, lt x y = false → R y x) : (insP lt x s).Pairwise R := by
  unfold insP
  have h : s = (s.reverse.dropWhile (lt x)).reverse ++ (s.reverse.takeWhile (lt x)).reverse := by
    rw [← List.reverse_append, List.takeWhile_append_dropWhile, List.reverse_reverse]
  generalize hp : (s.reverse.dropWhile (lt x)).reverse = p at *
  generalize hq : (s.reverse.takeWhile (lt x)).reverse = q at *
  have hqt : ∀ y ∈ q, R x y := fun y hy => by
    rw [← hq, List.mem_reverse] at hy
    have hal := List.all_takeWhile (p := lt x) (l := s.reverse)
    rw [List.all_eq_true] at hal
    exact hlt x y (hal y hy)
  have hpx : ∀ y ∈ p, R y x := by
    intro y hy
    rcases List.eq_nil_or_concat p with e | ⟨p', z, e⟩ <;> (try rw [List.concat_eq_append] at e)
    · rw [e] at hy; simp at hy
    · have hz : lt x z = false := by
        have e2 : s.reverse.dropWhile (lt x) = z :: p'.reverse := by have := congrArg List.reverse hp; rw [e] at this; simpa using this
        have := List.head?_dropWhile_not (lt x) s.reverse
        rw [e2] at this
        simpa using this
      have hzs : z ∈ s := by rw [h, e]; simp
      have hzx := hx z hzs hz
      rw [e] at hy
      simp at hy
      rcases hy with hy | rfl
      · rw [h, e] at hs
        have := (List.pairwise_append.1 (List.pairwise_append.1 hs).1).2.2 y hy z (by simp)
        exact htr _ _ _ this hzx
      · exact hzx
  rw [h] at hs
  obtain ⟨h1, h2, h3⟩ := List.pairwise_append.1 hs
  refine List.pairwise_append.2 ⟨h1, List.pairwise_cons.2 ⟨hqt, h2⟩, fun y hy z hz => ?_⟩
  rcases List.mem_cons.1 hz with rfl | hz
  · exact hpx y hy
  · exact h3 y hy z hz
theorem isort_pw_aux {lt : α → α → Bool} {R : α → α → Prop} (htr : ∀ a b c, R a b → R b c → R a c) (hlt : ∀ a b, lt a b = true → R a b) : ∀ (xs s : List α), s.Pairwise R → (∀ y ∈ s, ∀ x ∈ xs, lt x y = false → R y x) → xs.Pairwise (fun y x => lt x y = false → R y x) →
    (xs.foldl (fun s x => insP lt x s) s).Pairwise R
  | [], s, hs, _, _ => hs
  | x :: xs, s, hs, hx, hp => by
    refine isort_pw_aux htr hlt xs _ (insP_pw htr hlt hs (fun y hy => hx y hy x (by simp))) (fun y hy z hz => ?_) (List.pairwise_cons.1 hp).2
    rcases List.mem_cons.1 ((insP_perm lt x s).mem_iff.1 hy) with rfl | hy
    · exact (List.pairwise_cons.1 hp).1 z hz
    · exact hx y hy z (by simp [hz])
theorem isort_pw {lt : α → α → Bool} {R : α → α → Prop} (htr : ∀ a b c, R a b → R b c → R a c) (hlt : ∀ a b, lt a b = true → R a b) {xs : List α} (hp : xs.Pairwise (fun y x => lt x y = false → R y x)) : (isortL lt xs).Pairwise R :=
  isort_pw_aux htr hlt xs [] List.Pairwise.nil (by simp) hp
/-- in a list that is sorted, the place is the number of those ahead -/
theorem pw_place {R : α → α → Prop} {f : α → Bool} {l : List α} {p : Nat} {x : α} (hl : l.Pairwise R) (has : ∀ a b, R a b → ¬ R b a) (hx : l[p]? = some x) (hf : ∀ y, f y = true ↔ R y x) : (l.filter f).length = p := by
  obtain ⟨hp, e⟩ := List.getElem?_eq_some_iff.1 hx
  have hs : l = l.take p ++ x :: l.drop (p + 1) := by
    have := List.take_append_drop p l
    rw [List.drop_eq_getElem_cons hp, e] at this; exact this.symm
  rw [hs] at hl
  obtain ⟨h1, h2, h3⟩ := List.pairwise_append.1 hl
  have hirr : f x = false := by
    cases q : f x with
    | false => rfl
    | true => exact absurd ((hf x).1 q) (has x x ((hf x).1 q))
  rw [hs, List.filter_append, List.filter_cons_of_neg (by simp [hirr]), List.length_append]
  have e1 : (l.take p).filter f = l.take p := List.filter_eq_self.2 (fun y hy => (hf y).2 (h3 y hy x (by simp)))
  have e2 : (l.drop (p + 1)).filter f = [] := List.filter_eq_nil_iff.2 (fun y hy h => has x y ((List.pairwise_cons.1 h2).1 y hy) ((hf y).1 h))
  rw [e1, e2]; simp; omega
end
def idxs (n : Nat) : List Int := (List.range n).map (fun (k : Nat) => (k : Int))
theorem idxs_len (n : Nat) : (idxs n).length = n := by simp [idxs]
theorem idxs_mem {n : Nat} {x : Int} : x ∈ idxs n ↔ 0 ≤ x ∧ x < n := by
  unfold idxs; rw [List.mem_map]
  constructor
  · rintro ⟨k, hk, rfl⟩; simp at hk; omega
  · rintro ⟨h1, h2⟩; exact ⟨x.toNat, by simp; omega, by omega⟩
theorem idxs_get {n k : Nat} (h : k < n) : (idxs n)[k]? = some (k : Int) := by simp [idxs, h]
theorem idxs_pw (n : Nat) : (idxs n).Pairwise (· < ·) := by
  unfold idxs
  rw [List.pairwise_map]
  exact List.pairwise_lt_range.imp (fun h => by omega)
theorem idxs_nodup (n : Nat) : (idxs n).Nodup := (idxs_pw n).imp (fun h => by omega)
end Go.Proofs.YtlhnhmimhpcoaaaGreat
namespace Go.Proofs.YtlhnhmimhpcoaaaGreat
open Go.RowKit
set_option linter.unusedSimpArgs false
set_option linter.unusedVariables false
/-- a task as the document has it -/
structure Ta where
  pri : Int
  dl : Int
  first : Int
  gap : Int
  jit : Int
  pcs : List P2
deriving DecidableEq, Inhabited
def taAt (L : List Ta) (i : Int) : Ta := (L[i.toNat]?).getD default
def priI (L : List Ta) (i : Int) : Int := (taAt L i).pri
theorem taAt_of {L : List Ta} {k : Nat} {t : Ta} (h : L[k]? = some t) : taAt L k = t := by simp [taAt, h]
theorem priI_of {L : List Ta} {k : Nat} {t : Ta} (h : L[k]? = some t) : priI L k = t.pri := by simp [priI, taAt_of h]
/-- task a is ahead of task b -/
def Ahead (L : List Ta) (a b : Int) : Prop := priI L b < priI L a ∨ (priI L a = priI L b ∧ a < b)
instance (L : List Ta) (a b : Int) : Decidable (Ahead L a b) := inferInstanceAs (Decidable (_ ∨ _))
def aheadB (L : List Ta) (a b : Int) : Bool := decide (Ahead L a b)
theorem aheadB_iff {L : List Ta} {a b : Int} : aheadB L a b = true ↔ Ahead L a b := decide_eq_true_iff
theorem aheadB_no {L : List Ta} {a b : Int} : aheadB L a b = false ↔ ¬ Ahead L a b := decide_eq_false_iff_not
theorem ahead_trans {L : List Ta} (a b c : Int) (h : Ahead L a b) (k : Ahead L b c) : Ahead L a c := by unfold Ahead at *; omega
theorem ahead_asym {L : List Ta} (a b : Int) (h : Ahead L a b) : ¬ Ahead L b a := by unfold Ahead at *; omega
theorem ahead_irr {L : List Ta} (a : Int) : ¬ Ahead L a a := by unfold Ahead; omega
theorem ahead_total {L : List Ta} {a b : Int} (h : a ≠ b) : Ahead L a b ∨ Ahead L b a := by unfold Ahead; omega
def ltR (L : List Ta) (a b : Int) : Bool := decide (priI L b < priI L a)
/-- the tasks from the first rank on -/
def rankL (L : List Ta) : List Int := isortL (ltR L) (idxs L.length)
theorem rank_perm (L : List Ta) : (rankL L).Perm (idxs L.length) := isort_perm _ _
theorem rank_len (L : List Ta) : (rankL L).length = L.length := by rw [(rank_perm L).length_eq, idxs_len]
theorem rank_mem {L : List Ta} {x : Int} : x ∈ rankL L ↔ 0 ≤ x ∧ x < L.length := by rw [(rank_perm L).mem_iff, idxs_mem]
theorem rank_pw (L : List Ta) : (rankL L).Pairwise (Ahead L) :=
  isort_pw ahead_trans (fun a b h => .inl (by simpa [ltR] using h)) ((idxs_pw _).imp (fun {a b} hab h => by
    have h2 : ¬ priI L a < priI L b := by simpa [ltR] using h
    unfold Ahead; omega))
/-- the number of those ahead: the rank -/
def cnt (L : List Ta) (i : Int) : Nat := ((idxs L.length).filter (fun j => aheadB L j i)).length
theorem rank_cnt {L : List Ta} {p : Nat} {x : Int} (h : (rankL L)[p]? = some x) : cnt L x = p := by
  have := pw_place (f := fun j => aheadB L j x) (rank_pw L) ahead_asym h (fun y => aheadB_iff)
  rw [← this, cnt]
  exact ((rank_perm L).filter _).length_eq.symm
theorem rank_at {L : List Ta} {x : Int} (h0 : 0 ≤ x) (h1 : x < L.length) : (rankL L)[cnt L x]? = some x := by
  obtain ⟨p, hp, e⟩ := List.mem_iff_getElem.1 (rank_mem.2 ⟨h0, h1⟩)
  have h : (rankL L)[p]? = some x := by rw [List.getElem?_eq_getElem hp, e]
  rw [rank_cnt h]; exact h
theorem cnt_lt {L : List Ta} {x : Int} (h0 : 0 ≤ x) (h1 : x < L.length) : cnt L x < L.length := by
  have := (List.getElem?_eq_some_iff.1 (rank_at h0 h1)).1
  rw [rank_len] at this; exact this
theorem cnt_ahead {L : List Ta} {x y : Int} (h0 : 0 ≤ x) (h1 : x < L.length) (h2 : 0 ≤ y) (h3 : y < L.length) : cnt L x < cnt L y ↔ Ahead L x y := by
  have hx := rank_at h0 h1
  have hy := rank_at h2 h3
  have get : ∀ {i j : Nat} {a b : Int}, (rankL L)[i]? = some a → (rankL L)[j]? = some b → i < j → Ahead L a b := by
    intro i j a b ha hb hij
    obtain ⟨hi, e1⟩ := List.getElem?_eq_some_iff.1 ha
    obtain ⟨hj, e2⟩ := List.getElem?_eq_some_iff.1 hb
    have := List.pairwise_iff_getElem.1 (rank_pw L) i j hi hj hij
    rw [e1, e2] at this; exact this
  constructor
  · exact get hx hy
  · intro h
    rcases Nat.lt_trichotomy (cnt L x) (cnt L y) with q | q | q
    · exact q
    · rw [q, hy] at hx; simp at hx; subst hx; exact absurd h (ahead_irr _)
    · exact absurd h (ahead_asym _ _ (get hy hx q))
/-- as the reference puts them -/
def rankSet (L : List Ta) : Nat → Nat → List Int → List Int
  | 0, _, out => out
  | f + 1, i, out => rankSet L f (i + 1) (out.set (cnt L i) i)
theorem rankSet_len (L : List Ta) : ∀ (f i : Nat) (out : List Int), (rankSet L f i out).length = out.length
  | 0, _, _ => rfl
  | f + 1, i, out => by rw [rankSet, rankSet_len L f]; simp
theorem rankSet_get {L : List Ta} : ∀ (f i : Nat) (out : List Int), f + i = L.length → out.length = L.length → (∀ j : Nat, j < i → out[cnt L j]? = some (j : Int)) → ∀ j : Nat, j < L.length → (rankSet L f i out)[cnt L j]? = some (j : Int)
  | 0, i, out, hf, ho, h, j, hj => h j (by omega)
  | f + 1, i, out, hf, ho, h, j, hj => by
    refine rankSet_get f (i + 1) _ (by omega) (by simpa using ho) (fun m hm => ?_) j hj
    rw [List.getElem?_set]
    by_cases e : cnt L i = cnt L m
    · rw [if_pos e, if_pos (by rw [ho]; exact cnt_lt (by omega) (by omega))]
      have h1 := rank_at (L := L) (x := i) (by omega) (by omega)
      have h2 := rank_at (L := L) (x := m) (by omega) (by omega)
      rw [e, h2] at h1
      exact h1.symm
    · rw [if_neg e]
      have : m ≠ i := fun q => e (by rw [q])
      exact h m (by omega)
theorem rankSet_eq (L : List Ta) : rankSet L L.length 0 (List.replicate L.length 0) = rankL L := by
  apply List.ext_getElem?
  intro p
  by_cases hp : p < L.length
  · have hp' : p < (rankL L).length := by rw [rank_len]; exact hp
    have hx : (rankL L)[p]? = some (rankL L)[p] := List.getElem?_eq_getElem hp'
    obtain ⟨h0, h1⟩ := rank_mem.1 (List.getElem_mem hp')
    obtain ⟨k, hk⟩ := Int.eq_ofNat_of_zero_le h0
    have := rankSet_get (L := L) L.length 0 (List.replicate L.length 0) (by omega) (by simp) (fun j hj => by omega) k (by omega)
    rw [hx]
    rw [hk] at hx ⊢
    rw [rank_cnt hx] at this
    exact this
  · rw [List.getElem?_eq_none (by rw [rankSet_len]; simp; omega), List.getElem?_eq_none (by rw [rank_len]; omega)]
/-- the rank of each task -/
def ofL (L : List Ta) : List Int := (idxs L.length).map (fun i => (cnt L i : Int))
theorem ofL_get {L : List Ta} {k : Nat} (h : k < L.length) : (ofL L)[k]? = some (cnt L k : Int) := by unfold ofL; rw [List.getElem?_map, idxs_get h]; rfl
/-- valid pieces, tasks -/
def pieceB (p : P2) : Bool := inB p.1 1 200 && inB p.2 (-1) 5
def taskB (t : Ta) : Bool := inB t.pri 0 99 && inB t.pcs.length 1 8 && t.pcs.all pieceB
def rightB (L : List Ta) : Bool := decide (L.length ≤ 5) && L.all taskB
structure Right (L : List Ta) : Prop where
  len : L.length ≤ 5
  pri : ∀ t ∈ L, 0 ≤ t.pri ∧ t.pri ≤ 99
  pcs : ∀ t ∈ L, 1 ≤ t.pcs.length ∧ t.pcs.length ≤ 8
  piece : ∀ t ∈ L, ∀ p ∈ t.pcs, (1 ≤ p.1 ∧ p.1 ≤ 200) ∧ (-1 ≤ p.2 ∧ p.2 ≤ 5)
theorem right_of {L : List Ta} (h : rightB L = true) : Right L := by
  unfold rightB at h
  simp only [Bool.and_eq_true, decide_eq_true_eq, List.all_eq_true] at h
  refine ⟨h.1, fun t ht => ?_, fun t ht => ?_, fun t ht p hp => ?_⟩ <;> have h2 := h.2 t ht <;> simp only [taskB, Bool.and_eq_true, List.all_eq_true, inB_iff] at h2
  · exact h2.1.1
  · omega
  · have := h2.2 p hp
    simp only [pieceB, Bool.and_eq_true, inB_iff] at this
    exact this
def uses (L : List Ta) (i lock : Int) : Prop := ∃ p ∈ (taAt L i).pcs, p.2 = lock
def usesB (L : List Ta) (i lock : Int) : Bool := (taAt L i).pcs.any (fun p => p.2 == lock)
theorem usesB_iff {L : List Ta} {i lock : Int} : usesB L i lock = true ↔ uses L i lock := by simp [usesB, uses, List.any_eq_true]
/-- the ceiling as the reference looks for it: over the pieces of task i, b the best so far -/
def ceilP (L : List Ta) (lock i : Int) : Int → List P2 → Int
  | b, [] => b
  | b, p :: ps => ceilP L lock i (if p.2 = lock ∧ (b < 0 ∨ aheadB L i b = true) then i else b) ps
def ceilFrom (L : List Ta) (lock : Int) : Nat → Nat → Int → Int
  | 0, _, b => b
  | f + 1, i, b => ceilFrom L lock f (i + 1) (ceilP L lock i b (taAt L i).pcs)
def ceilG (L : List Ta) (lock : Int) : Int := ceilFrom L lock L.length 0 (-1)
/-- it is the first of those below m that use the lock -/
structure IsCeil (L : List Ta) (lock : Int) (m : Nat) (c : Int) : Prop where
  lo : -1 ≤ c
  hi : c < m
  none_ : c < 0 → ∀ j : Nat, j < m → ¬ uses L j lock
  some_ : 0 ≤ c → uses L c lock ∧ ∀ j : Nat, j < m → uses L j lock → (j : Int) ≠ c → Ahead L c j
theorem ceilP_same {L : List Ta} {lock i : Int} {b : Int} : ∀ (ps : List P2), (∀ p ∈ ps, p.2 ≠ lock) → ceilP L lock i b ps = b
  | [], _ => rfl
  | p :: ps, h => by rw [ceilP, if_neg (fun q => h p (by simp) q.1)]; exact ceilP_same ps (fun q hq => h q (by simp [hq]))
theorem ceilP_own {L : List Ta} {lock i : Int} (h0 : 0 ≤ i) : ∀ (ps : List P2), ceilP L lock i i ps = i
  | [] => rfl
  | p :: ps => by
    rw [ceilP]; split
    · exact ceilP_own h0 ps
    · exact ceilP_own h0 ps
theorem ceilP_eq {L : List Ta} {lock i b : Int} (h0 : 0 ≤ i) : ∀ (ps : List P2), ceilP L lock i b ps = if (∃ p ∈ ps, p.2 = lock) ∧ (b < 0 ∨ aheadB L i b = true) then i else b
  | [] => by simp [ceilP]
  | p :: ps => by
    rw [ceilP]
    by_cases h1 : p.2 = lock
    · by_cases h2 : b < 0 ∨ aheadB L i b = true
      · rw [if_pos ⟨h1, h2⟩, ceilP_own h0, if_pos ⟨⟨p, by simp, h1⟩, h2⟩]
      · rw [if_neg (fun q => h2 q.2), ceilP_eq h0 ps, if_neg (fun q => h2 q.2), if_neg (fun q => h2 q.2)]
    · rw [if_neg (fun q => h1 q.1), ceilP_eq h0 ps]
      have : (∃ q ∈ p :: ps, q.2 = lock) ↔ (∃ q ∈ ps, q.2 = lock) := by
        constructor
        · rintro ⟨q, hq, e⟩
          rcases List.mem_cons.1 hq with rfl | hq
          · exact absurd e h1
          · exact ⟨q, hq, e⟩
        · rintro ⟨q, hq, e⟩; exact ⟨q, by simp [hq], e⟩
      simp only [this]
theorem isCeil_step {L : List Ta} {lock : Int} {i : Nat} {b : Int} (h : IsCeil L lock i b) : IsCeil L lock (i + 1) (ceilP L lock i b (taAt L i).pcs) := by
  obtain ⟨h1, h2, h3, h4⟩ := h
  rw [ceilP_eq (by omega)]
  split
  · rename_i hc
    refine ⟨by omega, by omega, fun h => by omega, fun _ => ⟨hc.1, fun j hj hu hne => ?_⟩⟩
    have hj' : j < i := by
      have : j ≠ i := fun q => hne (by rw [q])
      omega
    rcases hc.2 with hb | hb
    · exact absurd hu (h3 hb j hj')
    · have hb' := aheadB_iff.1 hb
      by_cases hb0 : b < 0
      · exact absurd hu (h3 hb0 j hj')
      · by_cases e : (j : Int) = b
        · rw [e]; exact hb'
        · exact ahead_trans _ _ _ hb' ((h4 (by omega)).2 j hj' hu e)
  · rename_i hc
    refine ⟨h1, by omega, fun hb j hj hu => ?_, fun hb => ⟨(h4 hb).1, fun j hj hu hne => ?_⟩⟩
    · by_cases e : j = i
      · subst e; exact hc ⟨hu, .inl hb⟩
      · exact h3 hb j (by omega) hu
    · by_cases e : j = i
      · subst e
        have : ¬ Ahead L j b := fun q => hc ⟨hu, .inr (aheadB_iff.2 q)⟩
        rcases ahead_total (L := L) hne with q | q
        · exact absurd q this
        · exact q
      · exact (h4 hb).2 j (by omega) hu hne
theorem isCeil_from {L : List Ta} {lock : Int} : ∀ (f i : Nat) (b : Int), IsCeil L lock i b → IsCeil L lock (i + f) (ceilFrom L lock f i b)
  | 0, _, _, h => h
  | f + 1, i, b, h => by
    have := isCeil_from f (i + 1) _ (isCeil_step h)
    rw [show i + (f + 1) = i + 1 + f by omega]; exact this
theorem isCeil (L : List Ta) (lock : Int) : IsCeil L lock L.length (ceilG L lock) := by
  have := isCeil_from (L := L) (lock := lock) L.length 0 (-1) ⟨by omega, by omega, fun _ j hj => by omega, fun h => by omega⟩
  rw [Nat.zero_add] at this; exact this
theorem isCeil_unique {L : List Ta} {lock : Int} {m : Nat} {c d : Int} (h : IsCeil L lock m c) (k : IsCeil L lock m d) : c = d := by
  by_cases h0 : c < 0
  · by_cases h1 : d < 0
    · have := h.lo; have := k.lo; omega
    · obtain ⟨j, hj⟩ := Int.eq_ofNat_of_zero_le (show 0 ≤ d by omega)
      have hu := (k.some_ (by omega)).1
      rw [hj] at hu
      exact absurd hu (h.none_ h0 j (by have := k.hi; omega))
  · by_cases h1 : d < 0
    · obtain ⟨j, hj⟩ := Int.eq_ofNat_of_zero_le (show 0 ≤ c by omega)
      have hu := (h.some_ (by omega)).1
      rw [hj] at hu
      exact absurd hu (k.none_ h1 j (by have := h.hi; omega))
    · by_cases e : c = d
      · exact e
      · exfalso
        obtain ⟨j, hj⟩ := Int.eq_ofNat_of_zero_le (show 0 ≤ c by omega)
        obtain ⟨i, hi⟩ := Int.eq_ofNat_of_zero_le (show 0 ≤ d by omega)
        obtain ⟨u1, a1⟩ := h.some_ (by omega)
        obtain ⟨u2, a2⟩ := k.some_ (by omega)
        have b1 := a1 i (by have := k.hi; omega) (hi ▸ u2) (by rw [← hi]; exact fun q => e q.symm)
        have b2 := a2 j (by have := h.hi; omega) (hj ▸ u1) (by rw [← hj]; exact e)
        rw [← hi] at b1; rw [← hj] at b2
        exact ahead_asym _ _ b1 b2
/-- the ceilings as the program lays them: task k's pieces -/
def layP (k : Int) : List Int → List P2 → List Int
  | C, [] => C
  | C, p :: ps => layP k (if 0 ≤ p.2 ∧ (C[p.2.toNat]?).getD 0 < 0 then C.set p.2.toNat k else C) ps
def layC (L : List Ta) : List Int → List Int → List Int
  | C, [] => C
  | C, k :: ks => layC L (layP k C (taAt L k).pcs) ks
theorem layP_len (k : Int) : ∀ (ps : List P2) (C : List Int), (layP k C ps).length = C.length
  | [], _ => rfl
  | p :: ps, C => by rw [layP, layP_len k ps]; split <;> simp
theorem layC_len (L : List Ta) : ∀ (ks C : List Int), (layC L C ks).length = C.length
  | [], _ => rfl
  | k :: ks, C => by rw [layC, layC_len L ks, layP_len]
def cAt (C : List Int) (x : Nat) : Int := (C[x]?).getD 0
theorem layP_at {k : Int} (hk : 0 ≤ k) {x : Nat} : ∀ (ps : List P2) (C : List Int), x < C.length → cAt (layP k C ps) x = if cAt C x < 0 ∧ (∃ p ∈ ps, p.2 = (x : Int)) then k else cAt C x
  | [], C, h => by simp [layP]
  | p :: ps, C, h => by
    rw [layP, layP_at hk ps _ (by split <;> simpa using h)]
    by_cases h1 : 0 ≤ p.2 ∧ (C[p.2.toNat]?).getD 0 < 0
    · rw [if_pos h1]
      by_cases e : p.2.toNat = x
      · have e' : p.2 = (x : Int) := by omega
        have e2 : cAt (C.set p.2.toNat k) x = k := by simp [cAt, e, h]
        rw [e2, if_neg (by omega), if_pos ⟨by have := h1.2; rw [e] at this; exact this, p, by simp, e'⟩]
      · have e2 : cAt (C.set p.2.toNat k) x = cAt C x := by simp [cAt, List.getElem?_set, e]
        have e3 : (∃ q ∈ p :: ps, q.2 = (x : Int)) ↔ (∃ q ∈ ps, q.2 = (x : Int)) := by
          constructor
          · rintro ⟨q, hq, e4⟩
            rcases List.mem_cons.1 hq with rfl | hq
            · exact absurd (by omega) e
            · exact ⟨q, hq, e4⟩
          · rintro ⟨q, hq, e4⟩; exact ⟨q, by simp [hq], e4⟩
        simp only [e2, e3]
    · rw [if_neg h1]
      by_cases e : p.2 = (x : Int)
      · have : ¬ cAt C x < 0 := fun q => h1 ⟨by omega, by rw [e]; exact q⟩
        rw [if_neg (fun q => this q.1), if_neg (fun q => this q.1)]
      · have e3 : (∃ q ∈ p :: ps, q.2 = (x : Int)) ↔ (∃ q ∈ ps, q.2 = (x : Int)) := by
          constructor
          · rintro ⟨q, hq, e4⟩
            rcases List.mem_cons.1 hq with rfl | hq
            · exact absurd e4 e
            · exact ⟨q, hq, e4⟩
          · rintro ⟨q, hq, e4⟩; exact ⟨q, by simp [hq], e4⟩
        simp only [e3]
theorem layC_at {L : List Ta} {x : Nat} : ∀ (ks C : List Int), (∀ k ∈ ks, 0 ≤ k) → x < C.length → cAt (layC L C ks) x = if cAt C x < 0 then ((ks.find? (fun k => usesB L k x)).getD (cAt C x)) else cAt C x
  | [], C, _, h => by simp [layC]
  | k :: ks, C, hk, h => by
    rw [layC, layC_at ks _ (fun j hj => hk j (by simp [hj])) (by rw [layP_len]; exact h), layP_at (hk k (by simp)) _ _ h]
    have hk0 := hk k (by simp)
    by_cases h0 : cAt C x < 0
    · by_cases hu : usesB L k x = true
      · have hu' : ∃ p ∈ (taAt L k).pcs, p.2 = (x : Int) := usesB_iff.1 hu
        have e1 : (if cAt C x < 0 ∧ (∃ p ∈ (taAt L k).pcs, p.2 = (x : Int)) then k else cAt C x) = k := if_pos ⟨h0, hu'⟩
        rw [e1, if_neg (by omega), if_pos h0, List.find?_cons_of_pos (p := fun k => usesB L k x) hu]; rfl
      · have hu' : ¬ ∃ p ∈ (taAt L k).pcs, p.2 = (x : Int) := fun q => hu (usesB_iff.2 q)
        have e1 : (if cAt C x < 0 ∧ (∃ p ∈ (taAt L k).pcs, p.2 = (x : Int)) then k else cAt C x) = cAt C x := if_neg (fun q => hu' q.2)
        rw [e1, if_pos h0, if_pos h0, List.find?_cons_of_neg (p := fun k => usesB L k x) hu]
    · have e1 : (if cAt C x < 0 ∧ (∃ p ∈ (taAt L k).pcs, p.2 = (x : Int)) then k else cAt C x) = cAt C x := if_neg (fun q => h0 q.1)
      rw [e1, if_neg h0, if_neg h0]
theorem layC_ceil {L : List Ta} {x : Nat} (hx : x < 6) : cAt (layC L (List.replicate 6 (-1)) (rankL L)) x = ceilG L x := by
  have e0 : cAt (List.replicate 6 (-1)) x = -1 := by unfold cAt; rw [List.getElem?_replicate, if_pos hx]; rfl
  rw [layC_at _ _ (fun k hk => (rank_mem.1 hk).1) (by simpa using hx), e0, if_pos (by omega)]
  refine isCeil_unique (m := L.length) ?_ (isCeil L x)
  cases hf : (rankL L).find? (fun k => usesB L k x) with
  | none =>
    rw [List.find?_eq_none] at hf
    refine ⟨by simp, by simp; omega, fun _ j hj hu => ?_, fun h => by simp at h⟩
    exact hf j (rank_mem.2 ⟨by omega, by omega⟩) (usesB_iff.2 hu)
  | some k =>
    rw [List.find?_eq_some_iff_append] at hf
    obtain ⟨hu, u1, u2, e, ha⟩ := hf
    have hm : k ∈ rankL L := by rw [e]; simp
    obtain ⟨k0, k1⟩ := rank_mem.1 hm
    show IsCeil L x L.length k
    refine ⟨by omega, k1, fun h => by omega, fun _ => ⟨usesB_iff.1 hu, fun j hj hju hne => ?_⟩⟩
    have hjm : (j : Int) ∈ rankL L := rank_mem.2 ⟨by omega, by omega⟩
    have hp := rank_pw L
    rw [e] at hjm hp
    rcases List.mem_append.1 hjm with q | q
    · have := ha _ q
      rw [usesB_iff.2 hju] at this
      simp at this
    · rcases List.mem_cons.1 q with q | q
      · exact absurd q hne
      · exact (List.pairwise_cons.1 (List.pairwise_append.1 hp).2.1).1 _ q
/-- the pieces that can block task t: those of task j -/
def blkP (L : List Ta) (t j : Int) : Nat → List P2 → List P2
  | _, [] => []
  | k, p :: ps => if 0 ≤ p.2 ∧ aheadB L t (ceilG L p.2) = false then (j, (k : Int)) :: blkP L t j (k + 1) ps else blkP L t j (k + 1) ps
def blkFrom (L : List Ta) (t : Int) : Nat → Nat → List P2
  | 0, _ => []
  | f + 1, j => (if aheadB L t j = true then blkP L t j 0 (taAt L j).pcs else []) ++ blkFrom L t f (j + 1)
def blockL (L : List Ta) (t : Int) : List P2 := blkFrom L t L.length 0
def ticksAt (L : List Ta) (b : P2) : Int := ((((taAt L b.1).pcs)[b.2.toNat]?).getD default).1
def blockN (L : List Ta) (t : Int) : Int := (blockL L t).foldl (fun m b => max m (ticksAt L b)) 0
/-- a piece of task j that can block task t -/
structure IsBlk (L : List Ta) (t : Int) (b : P2) : Prop where
  j0 : 0 ≤ b.1
  j1 : b.1 < L.length
  k0 : 0 ≤ b.2
  k1 : b.2 < (taAt L b.1).pcs.length
  ah : Ahead L t b.1
  lk : 0 ≤ ((((taAt L b.1).pcs)[b.2.toNat]?).getD default).2 ∧ ¬ Ahead L t (ceilG L ((((taAt L b.1).pcs)[b.2.toNat]?).getD default).2)
theorem blkP_mem {L : List Ta} {t : Int} {j : Nat} {b : P2} : ∀ (ps : List P2) (k : Nat), (taAt L j).pcs.drop k = ps → j < L.length → Ahead L t j → b ∈ blkP L t j k ps → IsBlk L t b ∧ b.1 = j
  | [], _, _, _, _, h => by simp [blkP] at h
  | p :: ps, k, hd, hj, ha, h => by
    have hd' : (taAt L j).pcs.drop (k + 1) = ps := by rw [← List.drop_drop, hd]; rfl
    have hg : (taAt L j).pcs[k]? = some p := by have := List.getElem?_drop (xs := (taAt L j).pcs) (i := k) (j := 0); rw [hd] at this; simpa using this.symm
    rw [blkP] at h
    split at h
    · rename_i hc
      rcases List.mem_cons.1 h with rfl | h
      · refine ⟨⟨by simp, by simp; omega, by simp, ?_, ha, ?_⟩, rfl⟩
        · have := (List.getElem?_eq_some_iff.1 hg).1; simp; omega
        · simp [hg]; exact ⟨hc.1, aheadB_no.1 hc.2⟩
      · exact blkP_mem ps (k + 1) hd' hj ha h
    · exact blkP_mem ps (k + 1) hd' hj ha h
theorem blkFrom_mem {L : List Ta} {t : Int} {b : P2} : ∀ (f j : Nat), j + f ≤ L.length → b ∈ blkFrom L t f j → IsBlk L t b
  | 0, _, _, h => by simp [blkFrom] at h
  | f + 1, j, hj, h => by
    rw [blkFrom] at h
    rcases List.mem_append.1 h with h | h
    · split at h
      · rename_i ha
        exact (blkP_mem _ 0 rfl (by omega) (aheadB_iff.1 ha) h).1
      · simp at h
    · exact blkFrom_mem f (j + 1) (by omega) h
theorem blockL_mem {L : List Ta} {t : Int} {b : P2} (h : b ∈ blockL L t) : IsBlk L t b := blkFrom_mem _ _ (by omega) h
end Go.Proofs.YtlhnhmimhpcoaaaGreat
namespace Go.Proofs.YtlhnhmimhpcoaaaGreat
open Go.RowKit
theorem Rd.next2 {w a n} {xs : List P2} (h : Rd w a n 2 (xs.map enc2)) (k : Nat) (hk : k < n) : ∃ (x : P2) (b off : Nat), a = some ⟨b, off, none⟩ ∧ b < w.heap.size ∧ w.cell? ⟨b, off + k * 2, none⟩ = some (.int .i64 x.1) ∧ w.cell? ⟨b, off + k * 2 + 1, none⟩ = some (.int .i64 x.2) ∧ Hid (xs.drop k = x :: xs.drop (k + 1)) := by
  obtain ⟨hx, b, off, e, hb, h1, h2⟩ := h.two k hk
  exact ⟨xs[k], b, off, e, hb, h1, h2, List.drop_eq_getElem_cons hx⟩
theorem Rd.next1 {w a n} {xs : List Int} (h : Rd w a n 1 (xs.map enc1)) (k : Nat) (hk : k < n) : ∃ (x : Int) (b off : Nat), a = some ⟨b, off, none⟩ ∧ b < w.heap.size ∧ w.cell? ⟨b, off + k, none⟩ = some (.int .i64 x) ∧ Hid (xs.drop k = x :: xs.drop (k + 1)) := by
  obtain ⟨hx, b, off, e, hb, h1⟩ := h.one k hk
  exact ⟨xs[k], b, off, e, hb, h1, List.drop_eq_getElem_cons hx⟩
theorem Rd.nextV {w a n} {α : Type} {val : α → Value} {xs : List α} (h : Rd w a n 1 (xs.map fun x => [val x])) (k : Nat) (hk : k < n) : ∃ (x : α) (b off : Nat), a = some ⟨b, off, none⟩ ∧ b < w.heap.size ∧ w.cell? ⟨b, off + k, none⟩ = some (val x) ∧ Hid (xs.drop k = x :: xs.drop (k + 1)) := by
  have hl : k < xs.length := by have := h.len; simp at this; omega
  obtain ⟨b, off, rfl, hlt, hc⟩ := h.at_ (by omega)
  have h0 := hc k (by simpa using hl) 0 (by omega)
  simp at h0
  exact ⟨xs[k], b, off, rfl, hlt, h0, List.drop_eq_getElem_cons hl⟩
theorem later_rd {w w1 : World} {x : After w1} {a n k xs} (h : Rd w a n k xs) (hb : Below w.heap.size w w1) : Rd (World.later w1 x) a n k xs := (h.ext hb).ext x.below
theorem drop_end {α : Type} {xs : List α} {n k : Nat} (h : xs.length = n) (hk : n ≤ k) : xs.drop k = [] := List.drop_of_length_le (by omega)
/-- append(out, l...): whatever l, nil too -/
theorem wpList_pushAll {P : Program} {ops : Array Oper} {rest : List Oper} {o : Oper} {a : Act} {Q : Exit → Act → World → Prop} {w : World} (hgd : o.guard = none) (s x : Operand) (t : TypeId)
    (ho : o.op = .call { callee := .builtin .append, args := #[s, x], argTypes := #[t, t] }) {e k bytes B n m c : Nat} (E : Elt P t e k bytes) {v : Value} {xs : List Value} {l : Option Addr} {α : Type} {enc : α → List Value} {ys : List α}
    (he : ∀ y, (enc y).length = k) (h1 : ∀ y, ∀ u ∈ enc y, u.oneCell' = true)
    (hs : a.eval s = v) (hown : w.ownsRow B e k v n xs) (hx : a.eval x = .slice l m c) (hR : Rd w l m k (ys.map enc)) (hnil : m = 0 → (l = none ∧ c = 0) ∨ ∃ ad, l = some ad)
    (hn : n + m ≤ 100000000) (hby : bytes ≤ 1000) (hB : B ≤ w.heap.size)
    (h : ∀ v' w', w'.ownsRow B e k v' (n + m) (xs ++ ys.flatMap enc) → (∃ a' c', v' = .slice a' (n + m) c') → Below B w w' → wpList P ops Q rest (a.put o.dst v') w') :
    wpList P ops Q (o :: rest) a w := by
  obtain ⟨i, z, h2, h3, h4, h5, h6⟩ := E.hi
  have hlen : ys.length = m := hR.length
  have fin : ∀ v' w', w'.ownsRow B e k v' (n + m) (xs ++ ys.flatMap enc) → w.grownBy w' v.ownBlock → wpList P ops Q rest (a.put o.dst v') w' := by
    intro v' w' hown' hg
    have hb : Below B w w' := (Below.refl B w).grown hg hB (fun j hj => (hown.lt j hj).1)
    refine h v' w' hown' ?_ hb
    rcases hown'.2 with ⟨rfl, h8⟩ | ⟨g, cap, cur, rfl, h9⟩
    · exact ⟨none, 0, by rw [h8]⟩
    · exact ⟨_, _, rfl⟩
  have go : ∀ ad, l = some ad → wpList P ops Q (o :: rest) a w := by
    rintro ad rfl
    refine wpList_append_own w hgd s x t ho B e i z k bytes E.ht h2 h3 h4 h5 h6 E.hk v n xs hs hown ad m c (ys.flatMap enc) hx (by rw [flat_len he, hlen]) ?_ ?_ (by unfold maxLen; omega) ?_ hB (fun v' w' q1 q2 _ => fin v' w' q1 q2)
    · intro j u hj
      have hj' : j < m * k := by
        have := (List.getElem?_eq_some_iff.1 hj).1
        rwa [flat_len he, hlen] at this
      have hk := E.hk
      have hm0 : 0 < m := by
        rcases Nat.eq_zero_or_pos m with h0 | h0
        · rw [h0] at hj'; omega
        · exact h0
      obtain ⟨b, off, e0, hb, hc⟩ := hR.at_ hm0
      obtain rfl : ad = ⟨b, off, none⟩ := by simpa using e0
      have hq : j / k < ys.length := by rw [hlen]; exact (Nat.div_lt_iff_lt_mul hk).2 hj'
      have hr := Nat.mod_lt j hk
      have hjj : j / k * k + j % k = j := by rw [Nat.mul_comm]; exact Nat.div_add_mod j k
      have g1 := hc (j / k) (by simpa using hq) (j % k) hr
      have g2 := flat_get he ys (j / k) (j % k) hq hr
      rw [hjj, hj] at g2
      have e : (⟨b, off, none⟩ : Addr).add j = ⟨b, off + j, none⟩ := by unfold Addr.add; split <;> simp_all
      rw [e]
      rw [show off + j / k * k + j % k = off + j by omega] at g1
      rw [g1, g2]; simp
    · intro u hu
      obtain ⟨y, _, hy⟩ := List.mem_flatMap.1 hu
      exact h1 y u hy
    · have : (n + m) * bytes ≤ 100000000 * 1000 := Nat.mul_le_mul hn hby
      omega
  by_cases h0 : m = 0
  · rcases hnil h0 with ⟨rfl, rfl⟩ | ⟨ad, hl⟩
    · subst h0
      obtain rfl : ys = [] := List.length_eq_zero_iff.1 hlen
      refine wpList_append_own_none hgd s x t ho B e i k E.ht h2 v n xs hs hown hx (h v w (by simpa using hown) ?_ (Below.refl B w))
      rcases hown.2 with ⟨rfl, h8⟩ | ⟨g, cap, cur, rfl, h9⟩
      · exact ⟨none, 0, by rw [h8]⟩
      · exact ⟨_, _, rfl⟩
    · exact go ad hl
  · obtain ⟨b, off, e0, _⟩ := hR.at_ (by omega)
    exact go _ e0
/-- make([]T, 0, n) -/
theorem wpList_mk0 {P : Program} {ops : Array Oper} {rest : List Oper} {o : Oper} {a : Act} {Q : Exit → Act → World → Prop} {w : World} (hg : o.guard = none) (l c : Operand) (t : TypeId) (hop : o.op = Op.makeSlice t l c)
    {e k bytes B : Nat} (E : Elt P t e k bytes) {kl kc : IntKind} {C : Int} (n : Nat) (hl : a.eval l = .int kl 0) (hc : a.eval c = .int kc C) (hC : C = (n : Int)) (hn : n ≤ 100000000) (hby : bytes ≤ 1000) (hB : B ≤ w.heap.size)
    (hK : ∀ w', w'.ownsRow B e k (.slice (some ⟨w.heap.size, 0, none⟩) 0 n) 0 [] → Below B w w' → wpList P ops Q rest (a.put o.dst (.slice (some ⟨w.heap.size, 0, none⟩) 0 n)) w') : wpList P ops Q (o :: rest) a w := by
  obtain ⟨i, z, h2, h3, h4, h5, h6⟩ := E.hi
  refine wpList_make_own w hg l c t hop B e i z k E.ht h2 h3 h4 kl kc C n hl hc hC ?_ (by unfold maxLen; omega) hB fun w' q1 q2 => hK w' q1 ((Below.refl B w).grown q2 hB (by simp))
  have : i.bytes * n ≤ 1000 * 100000000 := Nat.mul_le_mul (by omega) hn
  omega
end Go.Proofs.YtlhnhmimhpcoaaaGreat
namespace Go.Proofs.YtlhnhmimhpcoaaaGreat
open Go.RowKit
set_option linter.unusedSimpArgs false
set_option linter.unusedVariables false
def idxGo {α : Type} (p : α → Bool) : Nat → List α → Int
  | _, [] => -1
  | k, x :: xs => if p x then k else idxGo p (k + 1) xs
theorem idxGo_any {α : Type} (p : α → Bool) : ∀ (xs : List α) (k : Nat), decide (0 ≤ idxGo p k xs) = xs.any p
  | [], k => by simp [idxGo]
  | x :: xs, k => by
    have := idxGo_any p xs (k + 1)
    cases h : p x
    · simp [idxGo, h, this]
    · simp [idxGo, h]
/-- what is asked of a predicate handed over as a function value: it can be called, and at every element of the list, in every later world, it gives p -/
structure PredIn (g : Nat) (lb : Array Value) {α : Type} (val : α → Value) (p : α → Bool) (xs : List α) (w : World) : Prop where
  eg : ∀ args w, (callFunc g args).run Tryz.prog w = .ok (.enter g args) w
  gives : ∀ (x : α), x ∈ xs → ∀ (w' : World), Below w.heap.size w w' → Calls Tryz.prog g (#[val x] ++ lb) w' fun e w'' => e = .returned (.bool (p x)) ∧ Below w'.heap.size w' w''
theorem Rd.nextK {w a n k} {α : Type} {enc : α → List Value} {xs : List α} (h : Rd w a n k (xs.map enc)) (i : Nat) (hi : i < n) : ∃ (x : α) (b off : Nat), a = some ⟨b, off, none⟩ ∧ b < w.heap.size ∧ (∀ j, j < k → w.cell? ⟨b, off + i * k + j, none⟩ = (enc x)[j]?) ∧ x ∈ xs ∧ xs[i]? = some x ∧ Hid (xs.drop i = x :: xs.drop (i + 1)) := by
  have hl : i < xs.length := by rw [h.length]; exact hi
  obtain ⟨b, off, rfl, hlt, hc⟩ := h.at_ (by omega)
  refine ⟨xs[i], b, off, rfl, hlt, fun j hj => ?_, List.getElem_mem hl, by simp, List.drop_eq_getElem_cons hl⟩
  have := hc i (by simpa using hl) j hj
  simpa using this
end Go.Proofs.YtlhnhmimhpcoaaaGreat
namespace Go.Proofs.YtlhnhmimhpcoaaaGreat
open Go.RowKit
set_option linter.unusedSimpArgs false
set_option linter.unusedVariables false
/-- the cells that are appended -/
def News (w : World) (l : Option Addr) (m c : Nat) (news : List Value) : Prop := (l = none ∧ m = 0 ∧ c = 0) ∨ ∃ ad, l = some ad ∧ ∀ j u, news[j]? = some u → w.cell? (ad.add j) = some u
theorem News.rd {w : World} {l : Option Addr} {m c k : Nat} {α : Type} {enc : α → List Value} {ys : List α} (he : ∀ y, (enc y).length = k) (hk : 0 < k) (hR : Rd w l m k (ys.map enc)) (hnil : m = 0 → (l = none ∧ c = 0) ∨ ∃ ad, l = some ad) : News w l m c (ys.flatMap enc) := by
  have hlen : ys.length = m := hR.length
  have go : ∀ ad, l = some ad → News w l m c (ys.flatMap enc) := by
    rintro ad rfl
    refine .inr ⟨ad, rfl, fun j u hj => ?_⟩
    have hj' : j < m * k := by
      have := (List.getElem?_eq_some_iff.1 hj).1
      rwa [flat_len he, hlen] at this
    have hm0 : 0 < m := by
      rcases Nat.eq_zero_or_pos m with h0 | h0
      · rw [h0] at hj'; omega
      · exact h0
    obtain ⟨b, off, e0, hb, hc⟩ := hR.at_ hm0
    obtain rfl : ad = ⟨b, off, none⟩ := by simpa using e0
    have hq : j / k < ys.length := by rw [hlen]; exact (Nat.div_lt_iff_lt_mul hk).2 hj'
    have hr := Nat.mod_lt j hk
    have hjj : j / k * k + j % k = j := by rw [Nat.mul_comm]; exact Nat.div_add_mod j k
    have g1 := hc (j / k) (by simpa using hq) (j % k) hr
    have g2 := flat_get he ys (j / k) (j % k) hq hr
    rw [hjj, hj] at g2
    have e : (⟨b, off, none⟩ : Addr).add j = ⟨b, off + j, none⟩ := by unfold Addr.add; split <;> simp_all
    rw [e]
    rw [show off + j / k * k + j % k = off + j by omega] at g1
    rw [g1, g2]; simp
  by_cases h0 : m = 0
  · rcases hnil h0 with ⟨rfl, rfl⟩ | ⟨ad, hl⟩
    · exact .inl ⟨rfl, h0, rfl⟩
    · exact go ad hl
  · obtain ⟨b, off, e0, _⟩ := hR.at_ (by omega)
    exact go _ e0
theorem run_app {P : Program} {w : World} {t ty e k bytes B n m c : Nat} (E : Elt P t e k bytes) {v : Value} {xs news : List Value} {l : Option Addr} (hown : w.ownsRow B e k v n xs)
    (hl : news.length = m * k) (hnews : News w l m c news) (h1 : ∀ u ∈ news, u.oneCell' = true) (hn : n + m ≤ 100000000) (hby : bytes ≤ 1000) (hB : B ≤ w.heap.size) :
    ∃ v' w', (Builtin.append_ #[t, t] ty #[v, .slice l m c]).run P w = .ok v' w' ∧ w'.ownsRow B e k v' (n + m) (xs ++ news) ∧ w.grownBy w' v.ownBlock ∧ (∃ a' c', v' = .slice a' (n + m) c') := by
  obtain ⟨i, z, h2, h3, h4, h5, h6⟩ := E.hi
  rcases hnews with ⟨rfl, rfl, rfl⟩ | ⟨ad, rfl, hc⟩
  · obtain rfl : news = [] := by simpa using hl
    refine ⟨v, w, run_append_owned_none (P := P) (w := w) B t ty e i k E.ht h2 v n xs hown, by simpa using hown, World.grownBy.refl _ _, ?_⟩
    rcases hown.2 with ⟨rfl, h8⟩ | ⟨g, cap, cur, rfl, h9⟩
    · exact ⟨none, 0, by rw [h8]⟩
    · exact ⟨_, _, rfl⟩
  · obtain ⟨v', w', hr, q1, q2, _, _⟩ := run_append_own_at (P := P) w B t ty e i z k bytes E.ht h2 h3 h4 h5 h6 E.hk v n xs hown ad m c news hl hc h1 (by unfold maxLen; omega) (by have : (n + m) * bytes ≤ 100000000 * 1000 := Nat.mul_le_mul hn hby; omega) hB
    refine ⟨v', w', hr, q1, q2, ?_⟩
    rcases q1.2 with ⟨rfl, h8⟩ | ⟨g, cap, cur, rfl, h9⟩
    · exact ⟨none, 0, by rw [h8]⟩
    · exact ⟨_, _, rfl⟩
theorem step_app {P : Program} {ops : Array Oper} {o : Oper} {a : Act} {w : World} {K : Act → World → Prop} {Q : Exit → Act → World → Prop} {EE : Prop} (hgd : o.guard = none) (s x : Operand) (t : TypeId)
    (ho : o.op = .call { callee := .builtin .append, args := #[s, x], argTypes := #[t, t] }) {e k bytes B n m c : Nat} (E : Elt P t e k bytes) {v : Value} {xs news : List Value} {l : Option Addr}
    (hs : a.eval s = v) (hown : w.ownsRow B e k v n xs) (hx : a.eval x = .slice l m c) (hl : news.length = m * k) (hnews : News w l m c news) (h1 : ∀ u ∈ news, u.oneCell' = true) (hn : n + m ≤ 100000000) (hby : bytes ≤ 1000) (hB : B ≤ w.heap.size)
    (h : ∀ a' c' w', w'.ownsRow B e k (.slice a' (n + m) c') (n + m) (xs ++ news) → w.grownBy w' v.ownBlock → K (a.put o.dst (.slice a' (n + m) c')) w') :
    if Region.wanted o (yielded ops a.tmps) = true then Oper.wp P o a w K Q else EE := by
  have hw : Region.wanted o (yielded ops a.tmps) = true := by simp [Region.wanted, hgd]
  rw [if_pos hw]
  obtain ⟨v', w', hr, q1, q2, a', c', rfl⟩ := run_app (P := P) (ty := o.type) E hown hl hnews h1 hn hby hB
  unfold Oper.wp execOp
  simp only [ho, resolve, invoke, builtin, Sem.run_bind, Sem.run_pure, Result.andThen_ok, List.map_toArray, List.map_cons, List.map_nil, hs, hx, hr]
  exact h _ _ w' q1 q2
theorem grown_below {w w' : World} {B : Nat} {v : Value} {e k n : Nat} {xs : List Value} (hown : w.ownsRow B e k v n xs) (hg : w.grownBy w' v.ownBlock) (hB : B ≤ w.heap.size) : Below B w w' := (Below.refl B w).grown hg hB (fun j hj => (hown.lt j hj).1)
/-- rows of another type stay -/
theorem owns_kept {w w' : World} {B B' e e' k k' n n' : Nat} {v v' : Value} {xs xs' : List Value} (h : w.ownsRow B e k v n xs) (hown : w.ownsRow B' e' k' v' n' xs') (hne : e ≠ e') (hg : w.grownBy w' v'.ownBlock) : w'.ownsRow B e k v n xs := by
  refine h.kept hg ?_
  rcases h.2 with ⟨rfl, _⟩ | ⟨g, cap, cur, rfl, _, hh, _⟩
  · exact .inl rfl
  · right
    rcases hown.2 with ⟨rfl, _⟩ | ⟨g', cap', cur', rfl, _, hh', _⟩
    · simp [Value.ownBlock]
    · simp only [Value.ownBlock, ne_eq, Option.some.injEq]
      rintro rfl
      rw [hh] at hh'
      simp at hh'
      exact hne hh'.2
end Go.Proofs.YtlhnhmimhpcoaaaGreat
