/- Small lemmas that the walks of this seat use: what a slice reads as, what lay below stays, endings. No condition: plain lemmas. Plain facts: insertion into a sorted list, and the list of the first numbers. No condition: plain lemmas. Plain facts: tasks, who is ahead, ranks, ceilings, blockers. No condition: plain lemmas. A run of tasks, in plain Lean: the machine of the scheduler, what holds of it, who is chosen. No condition: plain lemmas. What holds of the machine of the scheduler stays so. No condition: plain lemmas. The order of the reference's events, and the queues of the machine. No condition: plain lemmas. -/
import Derived.Test.YtmahagcghpoekaaRows
import Derived.WalkKit
import Derived.ProofKit
import Derived.OpenShut
import Derived.ShutString
import Derived.ChangeOld
import Derived.Below
import Derived.WalkSpells
import Derived.WalkLawsBesides
import Derived.Lib.Hide
import Derived.Lib.SmallJoins
import Derived.Deep.QuietTactic
import Derived.Deep.Slices
import Derived.BigQuiet
import Derived.Outline
import Derived.Handy
import Derived.Deep.DeepFit
namespace Go.Proofs.Ytmahagcghpoekaa
open Go.RowKit
set_option linter.unusedSimpArgs false
set_option linter.unusedVariables false
theorem ret_bool {a b : Bool} (h : a = b) : Ending.returned (.bool a) = .returned (.bool b) := by rw [h]
theorem ret_int {k : IntKind} {a b : Int} (h : a = b) : Ending.returned (.int k a) = .returned (.int k b) := by rw [h]
/-- two results: an int and an error number -/
abbrev rII (a b : Int) : Ending := .returned (.tuple #[.int .i64 a, .int .i64 b])
abbrev rBI (a : Bool) (b : Int) : Ending := .returned (.tuple #[.bool a, .int .i64 b])
abbrev rP (p : Int × Int) : Ending := rII p.1 p.2
abbrev rBP (p : Bool × Int) : Ending := rBI p.1 p.2
theorem rII_eq {a b c d : Int} (h : a = c) (h' : b = d) : Ending.returned (.tuple #[.int .i64 a, .int .i64 b]) = rII c d := by rw [h, h']
theorem rBI_eq {a c : Bool} {b d : Int} (h : a = c) (h' : b = d) : Ending.returned (.tuple #[.bool a, .int .i64 b]) = rBI c d := by rw [h, h']
theorem bcell {W w1 : World} (hb : Below W.heap.size W w1) : (∀ b o, b < W.heap.size → w1.cell? ⟨b, o, none⟩ = W.cell? ⟨b, o, none⟩) ∧ (∀ b o, b < W.heap.size → w1.frozen? ⟨b, o, none⟩ = W.frozen? ⟨b, o, none⟩) :=
  ⟨fun b o h => hb.cell (p := ⟨b, o, none⟩) h, fun b o h => hb.frozen (p := ⟨b, o, none⟩) h⟩
theorem bfacts {W w1 : World} (hb : Below W.heap.size W w1) : (∀ b o, b < W.heap.size → w1.cell? ⟨b, o, none⟩ = W.cell? ⟨b, o, none⟩) ∧ (∀ b o, b < W.heap.size → w1.frozen? ⟨b, o, none⟩ = W.frozen? ⟨b, o, none⟩) ∧ W.heap.size ≤ w1.heap.size ∧ (∀ n, n < W.heap.size → n < w1.heap.size) :=
  ⟨fun b o h => hb.cell (p := ⟨b, o, none⟩) h, fun b o h => hb.frozen (p := ⟨b, o, none⟩) h, hb.size, fun _ h => Nat.lt_of_lt_of_le h hb.size⟩
theorem World.size_drewN (w : World) (n : Nat) : (w.drewN n).heap.size = w.heap.size := rfl
theorem Below.draws {B : Nat} {a w : World} (h : Below B a w) (n : Nat) : Below B a (w.drewN n) := ⟨h.os, h.tape, h.output, h.size, h.block⟩
theorem below_draws {B : Nat} {w : World} (n : Nat) : Below B w (w.drewN n) := ⟨rfl, rfl, rfl, Nat.le_refl _, fun _ _ => rfl⟩
/-- then: a later world, from a world that lies above -/
theorem Below.then {a b c : World} (h : Below a.heap.size a b) (k : Below b.heap.size b c) : Below a.heap.size a c := h.trans (k.mono h.size)
/-- w, or a later world in which all that was in w stays as it was -/
structure After (w : World) where
  to : World
  below : Below w.heap.size w to
instance afterNonempty (w : World) : Nonempty (After w) := ⟨⟨w, Below.refl _ _⟩⟩
def World.later (w : World) (x : After w) : World := x.to
@[go_sem] theorem cell?_later {w : World} {x : After w} {b o : Nat} (h : b < w.heap.size) : (World.later w x).cell? ⟨b, o, none⟩ = w.cell? ⟨b, o, none⟩ := x.below.cell (p := ⟨b, o, none⟩) h
@[go_sem] theorem frozen?_later {w : World} {x : After w} {b o : Nat} (h : b < w.heap.size) : (World.later w x).frozen? ⟨b, o, none⟩ = w.frozen? ⟨b, o, none⟩ := x.below.frozen (p := ⟨b, o, none⟩) h
/-- a region that draws its order, whose callees only make memory: one walk, in the order of the text -/
theorem wp_region_later_lit {P : Program} {id : Nat} {Q : Exit → Act → World → Prop} {a : Act} {w : World} {l : List Oper} (hm : P.follows .mixedOrders = true) (hB : Region.lexB .any l.toArray = true)
    (h : wpQuiet P l.toArray (fun w' => ∃ x, w' = World.later w x) (fun a' => ∀ w', Below w.heap.size w w' → Q .normal a' w') l a) : (Code.region id l.toArray true).wp P Q a w := by
  refine wp_region_quiet (C := fun w' => ∃ x, w' = World.later w x) hm hB ⟨⟨_, (Below.refl _ w).drew⟩, rfl⟩ ?_
  have e : (fun a' : Act => ∀ w', (∃ x, w' = World.later w x) → Q .normal a' w') = (fun a' => ∀ w', Below w.heap.size w w' → Q .normal a' w') := by
    funext a'
    exact propext ⟨fun k w' hb => k w' ⟨⟨w', hb⟩, rfl⟩, fun k w' ⟨x, hx⟩ => hx ▸ k _ x.below⟩
  rw [e]; simpa using h
theorem later_of {P : Program} {f : FuncId} {args : Array Value} {w : World} {x : After w} {v : Value}
    (h : Calls P f args (World.later w x) fun e w' => e = .returned v ∧ Below (World.later w x).heap.size (World.later w x) w') : Calls P f args (World.later w x) fun e w'' => e = .returned v ∧ ∃ y, w'' = World.later w y :=
  h.mono fun _ w' ⟨he, hb⟩ => ⟨he, ⟨w', Below.then x.below hb⟩, rfl⟩
theorem later_same {P : Program} {f : FuncId} {args : Array Value} {w : World} {x : After w} {v : Value}
    (h : Calls P f args (World.later w x) fun e w' => e = .returned v ∧ World.later w x = w') : Calls P f args (World.later w x) fun e w'' => e = .returned v ∧ ∃ y, w'' = World.later w y :=
  h.mono fun _ w' ⟨he, hb⟩ => ⟨he, x, hb.symm⟩
abbrev P2 := Int × Int
def enc2 (p : P2) : List Value := [.int .i64 p.1, .int .i64 p.2]
def enc1 (p : Int) : List Value := [.int .i64 p]
/-- a slice of n elements, each of k cells, at address a reads as xs in w -/
structure Rd (w : World) (a : Option Addr) (n k : Nat) (xs : List (List Value)) : Prop where
  len : xs.length = n
  small : n ≤ 9223372036854775807
  at_ : 0 < n → ∃ b off, a = some ⟨b, off, none⟩ ∧ b < w.heap.size ∧ ∀ i (hi : i < xs.length), ∀ j, j < k → w.cell? ⟨b, off + i * k + j, none⟩ = (xs[i])[j]?
theorem Rd.ext {w w' : World} {a n k xs} (h : Rd w a n k xs) (hb : Below w.heap.size w w') : Rd w' a n k xs :=
  ⟨h.len, h.small, fun h0 => by
    obtain ⟨b, off, rfl, hlt, hc⟩ := h.at_ h0
    exact ⟨b, off, rfl, Nat.lt_of_lt_of_le hlt hb.size, fun i hi j hj => by rw [hb.cell (p := ⟨b, _, none⟩) hlt]; exact hc i hi j hj⟩⟩
theorem Rd.nil (w : World) (k : Nat) (a : Option Addr) : Rd w a 0 k [] := ⟨rfl, by omega, fun h => by omega⟩
theorem Rd.two {w a n} {xs : List P2} (h : Rd w a n 2 (xs.map enc2)) (k : Nat) (hk : k < n) : ∃ (hl : k < xs.length) (b off : Nat), a = some ⟨b, off, none⟩ ∧ b < w.heap.size ∧ w.cell? ⟨b, off + k * 2, none⟩ = some (.int .i64 xs[k].1) ∧ w.cell? ⟨b, off + k * 2 + 1, none⟩ = some (.int .i64 xs[k].2) := by
  have hl : k < xs.length := by have := h.len; simp at this; omega
  obtain ⟨b, off, rfl, hlt, hc⟩ := h.at_ (by omega)
  have h0 := hc k (by simpa using hl) 0 (by omega)
  have h1 := hc k (by simpa using hl) 1 (by omega)
  simp [enc2] at h0 h1
  exact ⟨hl, b, off, rfl, hlt, h0, h1⟩
theorem Rd.one {w a n} {xs : List Int} (h : Rd w a n 1 (xs.map enc1)) (k : Nat) (hk : k < n) : ∃ (hl : k < xs.length) (b off : Nat), a = some ⟨b, off, none⟩ ∧ b < w.heap.size ∧ w.cell? ⟨b, off + k, none⟩ = some (.int .i64 xs[k]) := by
  have hl : k < xs.length := by have := h.len; simp at this; omega
  obtain ⟨b, off, rfl, hlt, hc⟩ := h.at_ (by omega)
  have h0 := hc k (by simpa using hl) 0 (by omega)
  simp [enc1] at h0
  exact ⟨hl, b, off, rfl, hlt, h0⟩
theorem Rd.length {w a n k} {α : Type} {f : α → List Value} {xs : List α} (h : Rd w a n k (xs.map f)) : xs.length = n := by have := h.len; simpa using this
theorem equalIn_pair {P : Program} (t e : TypeId) (d : Nat) (ht : P.underlying t = some (.array 2 e)) (he : P.underlying e = some (.int .i64)) (hz : ∀ w, (sizeOf e).run P w = .ok 1 w) (hp : ∀ w, (isAgg e).run P w = .ok false w) (a b x y : Int) (w : World) :
    (Op.equalIn (d + 2) t (.agg #[.int .i64 a, .int .i64 b]) (.agg #[.int .i64 x, .int .i64 y])).run P w = .ok (a == x && b == y) w := by
  have h1 : ∀ (p q : Int) (w : World), (Op.equalIn (d + 1) e (.int .i64 p) (.int .i64 q)).run P w = .ok (p == q) w := fun p q w => run_equalIn_int w d e .i64 .i64 p q he
  have p0 : ∀ (u v : Value) (w : World), (part e #[u, v] 0).run P w = .ok u w := fun u v w => by simp [part, hp]
  have p1 : ∀ (u v : Value) (w : World), (part e #[u, v] 1).run P w = .ok v w := fun u v w => by simp [part, hp]
  rw [Op.equalIn]
  simp only [Sem.run_bind, run_underlying ht, Result.andThen_ok, hz]
  by_cases e1 : a = x <;> by_cases e2 : b = y <;>
  simp [List.range'_succ, Std.Legacy.Range.forIn_eq_forIn_range', p0, p1, h1, e1, e2, Std.Legacy.Range.size]
/-- the row of an element type in the table: a slice type t of elements e of k cells and 'by' bytes -/
structure Elt (P : Program) (t e k bytes : Nat) : Prop where
  ht : P.underlying t = some (.slice e)
  hi : ∃ i z, P.info? e = some i ∧ i.zero = some z ∧ i.size = k ∧ i.bytes = bytes ∧ z.cells.size = k
  hk : 0 < k
theorem Elt.mk' {P : Program} {t e k bytes : Nat} {z : Value} (ht : P.underlying t = some (.slice e)) (hi : (P.info? e).map (fun i => (i.zero, i.size, i.bytes)) = some (some z, k, bytes)) (hz : z.cells.size = k) (hk : 0 < k) : Elt P t e k bytes := by
  obtain ⟨i, h1, h2, h3, h4⟩ := info_parts hi
  exact ⟨ht, ⟨i, z, h1, h2, h3, h4, hz⟩, hk⟩
theorem owns_ext {w w' : World} {B e k n : Nat} {v : Value} {xs : List Value} (h : w.ownsRow B e k v n xs) (hb : Below w.heap.size w w') : w'.ownsRow B e k v n xs :=
  h.kept (row := none) ⟨hb.os, hb.tape, hb.output, hb.size, fun j hj _ => hb.block j hj⟩ (by cases v.ownBlock <;> simp)
theorem owns_mono {w : World} {B B' e k n : Nat} {v : Value} {xs : List Value} (h : w.ownsRow B e k v n xs) (hB : B' ≤ B) : w.ownsRow B' e k v n xs := by
  obtain ⟨h1, h2⟩ := h
  refine ⟨h1, h2.imp id ?_⟩
  rintro ⟨g, cap, cur, hv, hg, r⟩
  exact ⟨g, cap, cur, hv, by omega, r⟩
/-- out = append(out, x), x built in the block ahead of it -/
theorem wpList_push {P : Program} {ops : Array Oper} {rest : List Oper} {o : Oper} {a : Act} {Q : Exit → Act → World → Prop} {w : World} {T : TypeId} {arr : Array Value} (hgd : o.guard = none) (s x : Operand) (t : TypeId)
    (ho : o.op = .call { callee := .builtin .append, args := #[s, x], argTypes := #[t, t] }) {e k bytes B n c : Nat} (E : Elt P t e k bytes) {v : Value} {xs : List Value}
    (hs : a.eval s = v) (hown : w.ownsRow B e k v n xs) (hx : a.eval x = .slice (some ⟨w.heap.size, 0, none⟩) 1 c) (harr : arr.size = k) (h1 : ∀ u ∈ arr.toList, u.oneCell' = true)
    (hn : n ≤ 100000000) (hby : bytes ≤ 1000) (hB : B ≤ w.heap.size)
    (h : ∀ a' c' w', w'.ownsRow B e k (.slice a' (n + 1) c') (n + 1) (xs ++ arr.toList) → Below B w w' → wpList P ops Q rest (a.put o.dst (.slice a' (n + 1) c')) w') :
    wpList P ops Q (o :: rest) a (w.alloc (.cells arr T)) := by
  obtain ⟨i, z, h2, h3, h4, h5, h6⟩ := E.hi
  refine wpList_append_own (w.alloc (.cells arr T)) hgd s x t ho B e i z k bytes E.ht h2 h3 h4 h5 h6 E.hk v n xs hs (hown.alloc _) ⟨w.heap.size, 0, none⟩ 1 c arr.toList hx (by simpa using harr) ?_ h1 (by unfold maxLen; omega) ?_ (by simp; omega) ?_
  · intro j u hj
    have : (w.alloc (.cells arr T)).cell? ⟨w.heap.size, j, none⟩ = arr[j]? := World.cell?_alloc_new w arr T j
    have e : (⟨w.heap.size, 0, none⟩ : Addr).add j = ⟨w.heap.size, j, none⟩ := by unfold Addr.add; split <;> simp_all
    rw [e, this]; simpa using hj
  · have : (n + 1) * bytes ≤ 100000001 * 1000 := Nat.mul_le_mul (by omega) hby
    omega
  · intro v' w' hown' hg _
    have hb : Below B w w' := ((Below.refl B w).alloc hB _).grown hg (by simp; omega) (fun j hj => (hown.lt j hj).1)
    obtain ⟨hl, h7⟩ := hown'
    rcases h7 with ⟨_, h8⟩ | ⟨g, cap, cur, rfl, h9⟩
    · omega
    · exact h _ _ _ ⟨hl, .inr ⟨g, cap, cur, rfl, h9⟩⟩ hb
theorem flat_get {α : Type} {enc : α → List Value} {k : Nat} (he : ∀ x, (enc x).length = k) : ∀ (xs : List α) (i j : Nat) (hi : i < xs.length), j < k → (xs.flatMap enc)[i * k + j]? = (enc xs[i])[j]?
  | x :: xs, 0, j, _, hj => by simp [List.getElem?_append, he, hj]
  | x :: xs, i + 1, j, hi, hj => by
    have hi' : i < xs.length := by simpa using hi
    have := flat_get he xs i j hi' hj
    simp only [List.flatMap_cons, List.getElem_cons_succ]
    rw [List.getElem?_append_right (by rw [he, Nat.add_mul]; omega), he, ← this]
    congr 1
    rw [Nat.add_mul]; omega
theorem flat_len {α : Type} {enc : α → List Value} {k : Nat} (he : ∀ x, (enc x).length = k) (xs : List α) : (xs.flatMap enc).length = xs.length * k := by
  induction xs with
  | nil => simp
  | cons x xs ih => simp [ih, he, Nat.add_mul]; omega
theorem Rd.of_owns {w : World} {B e k n c : Nat} {a : Option Addr} {α : Type} {enc : α → List Value} {xs : List α} (he : ∀ x, (enc x).length = k) (hk : 0 < k) (h : w.ownsRow B e k (.slice a n c) n (xs.flatMap enc)) : Rd w a n k (xs.map enc) := by
  have hl : xs.length = n := by
    have := h.1
    rw [flat_len he] at this
    exact Nat.eq_of_mul_eq_mul_right hk this
  refine ⟨by simpa using hl, ?_, fun h0 => ?_⟩
  · rcases h.2 with ⟨_, rfl⟩ | ⟨g, cap, cur, hv, _, _, h1, h2, _⟩
    · omega
    · unfold maxLen at h2; omega
  · rcases h.2 with ⟨_, rfl⟩ | ⟨g, cap, cur, hv, hB, hh, h1, h2, h3, h4⟩
    · omega
    · obtain ⟨rfl, _, rfl⟩ : a = some ⟨g, 0, none⟩ ∧ n = n ∧ c = cap := by simpa using hv
      refine ⟨g, 0, rfl, (Array.getElem?_eq_some_iff.1 hh).1, fun i hi j hj => ?_⟩
      have hlt : i * k + j < n * k := by
        have : (i + 1) * k ≤ n * k := Nat.mul_le_mul_right k (by simp at hi; omega)
        rw [Nat.add_mul] at this; omega
      rw [Nat.zero_add, h.cellAt (i * k + j) hlt, flat_get he xs i j (by simpa using hi) hj]
      simp
/-- within, in -/
def inB (n a b : Int) : Bool := decide (a ≤ n ∧ n ≤ b)
theorem inB_eq (n a b : Int) : inB n a b = (decide (a ≤ n) && decide (n ≤ b)) := by unfold inB; simp
theorem inB_iff {n a b : Int} : inB n a b = true ↔ a ≤ n ∧ n ≤ b := by simp [inB]
end Go.Proofs.Ytmahagcghpoekaa
namespace Go.Proofs.Ytmahagcghpoekaa
open Go.RowKit
set_option linter.unusedSimpArgs false
set_option linter.unusedVariables false
section
variable {α : Type}
/-- x put into a sorted list, from behind -/
def insP (lt : α → α → Bool) (x : α) (s : List α) : List α := (s.reverse.dropWhile (lt x)).reverse ++ x :: (s.reverse.takeWhile (lt x)).reverse
def isortL (lt : α → α → Bool) (xs : List α) : List α := xs.foldl (fun s x => insP lt x s) []
theorem dropWhile_app {f : α → Bool} : ∀ (a b : List α), (∀ y ∈ a, f y = true) → (a ++ b).dropWhile f = b.dropWhile f
  | [], _, _ => rfl
  | x :: a, b, h => by rw [List.cons_append, List.dropWhile_cons_of_pos (h x (by simp))]; exact dropWhile_app a b (fun y hy => h y (by simp [hy]))
theorem takeWhile_app {f : α → Bool} : ∀ (a b : List α), (∀ y ∈ a, f y = true) → (a ++ b).takeWhile f = a ++ b.takeWhile f
  | [], _, _ => rfl
  | x :: a, b, h => by rw [List.cons_append, List.takeWhile_cons_of_pos (h x (by simp)), takeWhile_app a b (fun y hy => h y (by simp [hy]))]; rfl
theorem insP_eq {lt : α → α → Bool} {x : α} {p q : List α} (hq : ∀ y ∈ q, lt x y = true) (hp : ∀ y, p.getLast? = some y → lt x y = false) : insP lt x (p ++ q) = p ++ x :: q := by
  unfold insP
  rw [List.reverse_append, dropWhile_app _ _ (fun y hy => hq y (by simpa using hy)), takeWhile_app _ _ (fun y hy => hq y (by simpa using hy))]
  have h : p.reverse.dropWhile (lt x) = p.reverse ∧ p.reverse.takeWhile (lt x) = [] := by
    cases e : p.reverse with
    | nil => simp
    | cons y r =>
      have : p.getLast? = some y := by
        have : p = r.reverse ++ [y] := by have := congrArg List.reverse e; simpa using this
        rw [this]; simp
      have hy := hp y this
      rw [List.dropWhile_cons_of_neg (by simp [hy]), List.takeWhile_cons_of_neg (by simp [hy])]
      simp
  rw [h.1, h.2]; simp
theorem insP_perm (lt : α → α → Bool) (x : α) (s : List α) : (insP lt x s).Perm (x :: s) := by
  unfold insP
  have h : s = (s.reverse.dropWhile (lt x)).reverse ++ (s.reverse.takeWhile (lt x)).reverse := by
    rw [← List.reverse_append, List.takeWhile_append_dropWhile, List.reverse_reverse]
  refine List.Perm.trans List.perm_middle ?_
  rw [← h]
theorem isort_perm_aux (lt : α → α → Bool) : ∀ (xs s : List α), (xs.foldl (fun s x => insP lt x s) s).Perm (s ++ xs)
  | [], s => by simp
  | x :: xs, s => by
    refine (isort_perm_aux lt xs _).trans ?_
    refine ((insP_perm lt x s).append_right xs).trans ?_
    exact List.perm_middle.symm
theorem isort_perm (lt : α → α → Bool) (xs : List α) : (isortL lt xs).Perm xs := by simpa [isortL] using isort_perm_aux lt xs []
theorem isort_snoc (lt : α → α → Bool) (xs : List α) (x : α) : isortL lt (xs ++ [x]) = insP lt x (isortL lt xs) := by simp [isortL]
/-- sorted by R, if the one that is put in behind keeps R -/
theorem insP_pw {lt : α → α → Bool} {R : α → α → Prop} (htr : ∀ a b c, R a b → R b c → R a c) (hlt : ∀ a b, lt a b = true → R a b) {x : α} {s : List α} (hs : s.Pairwise R) (hx : ∀ y ∈ s, lt x y = false → R y x) : (insP lt x s).Pairwise R := by
  unfold insP
  have h : s = (s.reverse.dropWhile (lt x)).reverse ++ (s.reverse.takeWhile (lt x)).reverse := by
    rw [← List.reverse_append, List.takeWhile_append_dropWhile, List.reverse_reverse]
  generalize hp : (s.reverse.dropWhile (lt x)).reverse = p at *
  generalize hq : (s.reverse.takeWhile (lt x)).reverse = q at *
  have hqt : ∀ y ∈ q, R x y := fun y hy => by
    rw [← hq, List.mem_reverse] at hy
    have hal := List.all_takeWhile (p := lt x) (l := s.reverse)
    rw [List.all_eq_true] at hal
    exact hlt x y (hal y hy)
  have hpx : ∀ y ∈ p, R y x := by
    intro y hy
    rcases List.eq_nil_or_concat p with e | ⟨p', z, e⟩ <;> (try rw [List.concat_eq_append] at e)
    · rw [e] at hy; simp at hy
    · have hz : lt x z = false := by
        have e2 : s.reverse.dropWhile (lt x) = z :: p'.reverse := by have := congrArg List.reverse hp; rw [e] at this; simpa using this
        have := List.head?_dropWhile_not (lt x) s.reverse
        rw [e2] at this
        simpa using this
      have hzs : z ∈ s := by rw [h, e]; simp
      have hzx := hx z hzs hz
      rw [e] at hy
      simp at hy
      rcases hy with hy | rfl
      · rw [h, e] at hs
        have := (List.pairwise_append.1 (List.pairwise_append.1 hs).1).2.2 y hy z (by simp)
        exact htr _ _ _ this hzx
      · exact hzx
  rw [h] at hs
  obtain ⟨h1, h2, h3⟩ := List.pairwise_append.1 hs
  refine List.pairwise_append.2 ⟨h1, List.pairwise_cons.2 ⟨hqt, h2⟩, fun y hy z hz => ?_⟩
  rcases List.mem_cons.1 hz with rfl | hz
  · exact hpx y hy
  · exact h3 y hy z hz
theorem isort_pw_aux {lt : α → α → Bool} {R : α → α → Prop} (htr : ∀ a b c, R a b → R b c → R a c) (hlt : ∀ a b, lt a b = true → R a b) : ∀ (xs s : List α), s.Pairwise R → (∀ y ∈ s, ∀ x ∈ xs, lt x y = false → R y x) → xs.Pairwise (fun y x => lt x y = false → R y x) →
    (xs.foldl (fun s x => insP lt x s) s).Pairwise R
  | [], s, hs, _, _ => hs
  | x :: xs, s, hs, hx, hp => by
    refine isort_pw_aux htr hlt xs _ (insP_pw htr hlt hs (fun y hy => hx y hy x (by simp))) (fun y hy z hz => ?_) (List.pairwise_cons.1 hp).2
    rcases List.mem_cons.1 ((insP_perm lt x s).mem_iff.1 hy) with rfl | hy
    · exact (List.pairwise_cons.1 hp).1 z hz
    · exact hx y hy z (by simp [hz])
theorem isort_pw {lt : α → α → Bool} {R : α → α → Prop} (htr : ∀ a b c, R a b → R b c → R a c) (hlt : ∀ a b, lt a b = true → R a b) {xs : List α} (hp : xs.Pairwise (fun y x => lt x y = false → R y x)) : (isortL lt xs).Pairwise R :=
  isort_pw_aux htr hlt xs [] List.Pairwise.nil (by simp) hp
/-- in a list that is sorted, the place is the number of those ahead -/
theorem pw_place {R : α → α → Prop} {f : α → Bool} {l : List α} {p : Nat} {x : α} (hl : l.Pairwise R) (has : ∀ a b, R a b → ¬ R b a) (hx : l[p]? = some x) (hf : ∀ y, f y = true ↔ R y x) : (l.filter f).length = p := by
  obtain ⟨hp, e⟩ := List.getElem?_eq_some_iff.1 hx
  have hs : l = l.take p ++ x :: l.drop (p + 1) := by
    have := List.take_append_drop p l
    rw [List.drop_eq_getElem_cons hp, e] at this; exact this.symm
  rw [hs] at hl
  obtain ⟨h1, h2, h3⟩ := List.pairwise_append.1 hl
  have hirr : f x = false := by
    cases q : f x with
    | false => rfl
    | true => exact absurd ((hf x).1 q) (has x x ((hf x).1 q))
  rw [hs, List.filter_append, List.filter_cons_of_neg (by simp [hirr]), List.length_append]
  have e1 : (l.take p).filter f = l.take p := List.filter_eq_self.2 (fun y hy => (hf y).2 (h3 y hy x (by simp)))
  have e2 : (l.drop (p + 1)).filter f = [] := List.filter_eq_nil_iff.2 (fun y hy h => has x y ((List.pairwise_cons.1 h2).1 y hy) ((hf y).1 h))
  rw [e1, e2]; simp; omega
end
def idxs (n : Nat) : List Int := (List.range n).map (fun (k : Nat) => (k : Int))
theorem idxs_len (n : Nat) : (idxs n).length = n := by simp [idxs]
theorem idxs_mem {n : Nat} {x : Int} : x ∈ idxs n ↔ 0 ≤ x ∧ x < n := by
  unfold idxs; rw [List.mem_map]
  constructor
  · rintro ⟨k, hk, rfl⟩; simp at hk; omega
  · rintro ⟨h1, h2⟩; exact ⟨x.toNat, by simp; omega, by omega⟩
theorem idxs_get {n k : Nat} (h : k < n) : (idxs n)[k]? = some (k : Int) := by simp [idxs, h]
theorem idxs_pw (n : Nat) : (idxs n).Pairwise (· < ·) := by
  unfold idxs
  rw [List.pairwise_map]
  exact List.pairwise_lt_range.imp (fun h => by omega)
theorem idxs_nodup (n : Nat) : (idxs n).Nodup := (idxs_pw n).imp (fun h => by omega)
end Go.Proofs.Ytmahagcghpoekaa
namespace Go.Proofs.Ytmahagcghpoekaa
open Go.RowKit
set_option linter.unusedSimpArgs false
set_option linter.unusedVariables false
/-- a task as the document has it -/
structure Ta where
  pri : Int
  dl : Int
  first : Int
  gap : Int
  jit : Int
  pcs : List P2
deriving DecidableEq, Inhabited
def taAt (L : List Ta) (i : Int) : Ta := (L[i.toNat]?).getD default
def priI (L : List Ta) (i : Int) : Int := (taAt L i).pri
theorem taAt_of {L : List Ta} {k : Nat} {t : Ta} (h : L[k]? = some t) : taAt L k = t := by simp [taAt, h]
theorem priI_of {L : List Ta} {k : Nat} {t : Ta} (h : L[k]? = some t) : priI L k = t.pri := by simp [priI, taAt_of h]
/-- task a is ahead of task b -/
def Ahead (L : List Ta) (a b : Int) : Prop := priI L b < priI L a ∨ (priI L a = priI L b ∧ a < b)
instance (L : List Ta) (a b : Int) : Decidable (Ahead L a b) := inferInstanceAs (Decidable (_ ∨ _))
def aheadB (L : List Ta) (a b : Int) : Bool := decide (Ahead L a b)
theorem aheadB_iff {L : List Ta} {a b : Int} : aheadB L a b = true ↔ Ahead L a b := decide_eq_true_iff
theorem aheadB_no {L : List Ta} {a b : Int} : aheadB L a b = false ↔ ¬ Ahead L a b := decide_eq_false_iff_not
theorem ahead_trans {L : List Ta} (a b c : Int) (h : Ahead L a b) (k : Ahead L b c) : Ahead L a c := by unfold Ahead at *; omega
theorem ahead_asym {L : List Ta} (a b : Int) (h : Ahead L a b) : ¬ Ahead L b a := by unfold Ahead at *; omega
theorem ahead_irr {L : List Ta} (a : Int) : ¬ Ahead L a a := by unfold Ahead; omega
theorem ahead_total {L : List Ta} {a b : Int} (h : a ≠ b) : Ahead L a b ∨ Ahead L b a := by unfold Ahead; omega
def ltR (L : List Ta) (a b : Int) : Bool := decide (priI L b < priI L a)
/-- the tasks from the first rank on -/
def rankL (L : List Ta) : List Int := isortL (ltR L) (idxs L.length)
theorem rank_perm (L : List Ta) : (rankL L).Perm (idxs L.length) := isort_perm _ _
theorem rank_len (L : List Ta) : (rankL L).length = L.length := by rw [(rank_perm L).length_eq, idxs_len]
theorem rank_mem {L : List Ta} {x : Int} : x ∈ rankL L ↔ 0 ≤ x ∧ x < L.length := by rw [(rank_perm L).mem_iff, idxs_mem]
theorem rank_pw (L : List Ta) : (rankL L).Pairwise (Ahead L) :=
  isort_pw ahead_trans (fun a b h => .inl (by simpa [ltR] using h)) ((idxs_pw _).imp (fun {a b} hab h => by
    have h2 : ¬ priI L a < priI L b := by simpa [ltR] using h
    unfold Ahead; omega))
/-- the number of those ahead: the rank -/
def cnt (L : List Ta) (i : Int) : Nat := ((idxs L.length).filter (fun j => aheadB L j i)).length
theorem rank_cnt {L : List Ta} {p : Nat} {x : Int} (h : (rankL L)[p]? = some x) : cnt L x = p := by
  have := pw_place (f := fun j => aheadB L j x) (rank_pw L) ahead_asym h (fun y => aheadB_iff)
  rw [← this, cnt]
  exact ((rank_perm L).filter _).length_eq.symm
theorem rank_at {L : List Ta} {x : Int} (h0 : 0 ≤ x) (h1 : x < L.length) : (rankL L)[cnt L x]? = some x := by
  obtain ⟨p, hp, e⟩ := List.mem_iff_getElem.1 (rank_mem.2 ⟨h0, h1⟩)
  have h : (rankL L)[p]? = some x := by rw [List.getElem?_eq_getElem hp, e]
  rw [rank_cnt h]; exact h
theorem cnt_lt {L : List Ta} {x : Int} (h0 : 0 ≤ x) (h1 : x < L.length) : cnt L x < L.length := by
  have := (List.getElem?_eq_some_iff.1 (rank_at h0 h1)).1
  rw [rank_len] at this; exact this
theorem cnt_ahead {L : List Ta} {x y : Int} (h0 : 0 ≤ x) (h1 : x < L.length) (h2 : 0 ≤ y) (h3 : y < L.length) : cnt L x < cnt L y ↔ Ahead L x y := by
  have hx := rank_at h0 h1
  have hy := rank_at h2 h3
  have get : ∀ {i j : Nat} {a b : Int}, (rankL L)[i]? = some a → (rankL L)[j]? = some b → i < j → Ahead L a b := by
    intro i j a b ha hb hij
    obtain ⟨hi, e1⟩ := List.getElem?_eq_some_iff.1 ha
    obtain ⟨hj, e2⟩ := List.getElem?_eq_some_iff.1 hb
    have := List.pairwise_iff_getElem.1 (rank_pw L) i j hi hj hij
    rw [e1, e2] at this; exact this
  constructor
  · exact get hx hy
  · intro h
    rcases Nat.lt_trichotomy (cnt L x) (cnt L y) with q | q | q
    · exact q
    · rw [q, hy] at hx; simp at hx; subst hx; exact absurd h (ahead_irr _)
    · exact absurd h (ahead_asym _ _ (get hy hx q))
/-- as the reference puts them -/
def rankSet (L : List Ta) : Nat → Nat → List Int → List Int
  | 0, _, out => out
  | f + 1, i, out => rankSet L f (i + 1) (out.set (cnt L i) i)
theorem rankSet_len (L : List Ta) : ∀ (f i : Nat) (out : List Int), (rankSet L f i out).length = out.length
  | 0, _, _ => rfl
  | f + 1, i, out => by rw [rankSet, rankSet_len L f]; simp
theorem rankSet_get {L : List Ta} : ∀ (f i : Nat) (out : List Int), f + i = L.length → out.length = L.length → (∀ j : Nat, j < i → out[cnt L j]? = some (j : Int)) → ∀ j : Nat, j < L.length → (rankSet L f i out)[cnt L j]? = some (j : Int)
  | 0, i, out, hf, ho, h, j, hj => h j (by omega)
  | f + 1, i, out, hf, ho, h, j, hj => by
    refine rankSet_get f (i + 1) _ (by omega) (by simpa using ho) (fun m hm => ?_) j hj
    rw [List.getElem?_set]
    by_cases e : cnt L i = cnt L m
    · rw [if_pos e, if_pos (by rw [ho]; exact cnt_lt (by omega) (by omega))]
      have h1 := rank_at (L := L) (x := i) (by omega) (by omega)
      have h2 := rank_at (L := L) (x := m) (by omega) (by omega)
      rw [e, h2] at h1
      exact h1.symm
    · rw [if_neg e]
      have : m ≠ i := fun q => e (by rw [q])
      exact h m (by omega)
theorem rankSet_eq (L : List Ta) : rankSet L L.length 0 (List.replicate L.length 0) = rankL L := by
  apply List.ext_getElem?
  intro p
  by_cases hp : p < L.length
  · have hp' : p < (rankL L).length := by rw [rank_len]; exact hp
    have hx : (rankL L)[p]? = some (rankL L)[p] := List.getElem?_eq_getElem hp'
    obtain ⟨h0, h1⟩ := rank_mem.1 (List.getElem_mem hp')
    obtain ⟨k, hk⟩ := Int.eq_ofNat_of_zero_le h0
    have := rankSet_get (L := L) L.length 0 (List.replicate L.length 0) (by omega) (by simp) (fun j hj => by omega) k (by omega)
    rw [hx]
    rw [hk] at hx ⊢
    rw [rank_cnt hx] at this
    exact this
  · rw [List.getElem?_eq_none (by rw [rankSet_len]; simp; omega), List.getElem?_eq_none (by rw [rank_len]; omega)]
/-- the rank of each task -/
def ofL (L : List Ta) : List Int := (idxs L.length).map (fun i => (cnt L i : Int))
theorem ofL_get {L : List Ta} {k : Nat} (h : k < L.length) : (ofL L)[k]? = some (cnt L k : Int) := by unfold ofL; rw [List.getElem?_map, idxs_get h]; rfl
/-- valid pieces, tasks -/
def pieceB (p : P2) : Bool := inB p.1 1 200 && inB p.2 (-1) 5
def taskB (t : Ta) : Bool := inB t.pri 0 99 && inB t.pcs.length 1 8 && t.pcs.all pieceB
def rightB (L : List Ta) : Bool := decide (L.length ≤ 5) && L.all taskB
structure Right (L : List Ta) : Prop where
  len : L.length ≤ 5
  pri : ∀ t ∈ L, 0 ≤ t.pri ∧ t.pri ≤ 99
  pcs : ∀ t ∈ L, 1 ≤ t.pcs.length ∧ t.pcs.length ≤ 8
  piece : ∀ t ∈ L, ∀ p ∈ t.pcs, (1 ≤ p.1 ∧ p.1 ≤ 200) ∧ (-1 ≤ p.2 ∧ p.2 ≤ 5)
theorem right_of {L : List Ta} (h : rightB L = true) : Right L := by
  unfold rightB at h
  simp only [Bool.and_eq_true, decide_eq_true_eq, List.all_eq_true] at h
  refine ⟨h.1, fun t ht => ?_, fun t ht => ?_, fun t ht p hp => ?_⟩ <;> have h2 := h.2 t ht <;> simp only [taskB, Bool.and_eq_true, List.all_eq_true, inB_iff] at h2
  · exact h2.1.1
  · omega
  · have := h2.2 p hp
    simp only [pieceB, Bool.and_eq_true, inB_iff] at this
    exact this
def uses (L : List Ta) (i lock : Int) : Prop := ∃ p ∈ (taAt L i).pcs, p.2 = lock
def usesB (L : List Ta) (i lock : Int) : Bool := (taAt L i).pcs.any (fun p => p.2 == lock)
theorem usesB_iff {L : List Ta} {i lock : Int} : usesB L i lock = true ↔ uses L i lock := by simp [usesB, uses, List.any_eq_true]
/-- the ceiling as the reference looks for it: over the pieces of task i, b the best so far -/
def ceilP (L : List Ta) (lock i : Int) : Int → List P2 → Int
  | b, [] => b
  | b, p :: ps => ceilP L lock i (if p.2 = lock ∧ (b < 0 ∨ aheadB L i b = true) then i else b) ps
def ceilFrom (L : List Ta) (lock : Int) : Nat → Nat → Int → Int
  | 0, _, b => b
  | f + 1, i, b => ceilFrom L lock f (i + 1) (ceilP L lock i b (taAt L i).pcs)
def ceilG (L : List Ta) (lock : Int) : Int := ceilFrom L lock L.length 0 (-1)
/-- it is the first of those below m that use the lock -/
structure IsCeil (L : List Ta) (lock : Int) (m : Nat) (c : Int) : Prop where
  lo : -1 ≤ c
  hi : c < m
  none_ : c < 0 → ∀ j : Nat, j < m → ¬ uses L j lock
  some_ : 0 ≤ c → uses L c lock ∧ ∀ j : Nat, j < m → uses L j lock → (j : Int) ≠ c → Ahead L c j
theorem ceilP_same {L : List Ta} {lock i : Int} {b : Int} : ∀ (ps : List P2), (∀ p ∈ ps, p.2 ≠ lock) → ceilP L lock i b ps = b
  | [], _ => rfl
  | p :: ps, h => by rw [ceilP, if_neg (fun q => h p (by simp) q.1)]; exact ceilP_same ps (fun q hq => h q (by simp [hq]))
theorem ceilP_own {L : List Ta} {lock i : Int} (h0 : 0 ≤ i) : ∀ (ps : List P2), ceilP L lock i i ps = i
  | [] => rfl
  | p :: ps => by
    rw [ceilP]; split
    · exact ceilP_own h0 ps
    · exact ceilP_own h0 ps
theorem ceilP_eq {L : List Ta} {lock i b : Int} (h0 : 0 ≤ i) : ∀ (ps : List P2), ceilP L lock i b ps = if (∃ p ∈ ps, p.2 = lock) ∧ (b < 0 ∨ aheadB L i b = true) then i else b
  | [] => by simp [ceilP]
  | p :: ps => by
    rw [ceilP]
    by_cases h1 : p.2 = lock
    · by_cases h2 : b < 0 ∨ aheadB L i b = true
      · rw [if_pos ⟨h1, h2⟩, ceilP_own h0, if_pos ⟨⟨p, by simp, h1⟩, h2⟩]
      · rw [if_neg (fun q => h2 q.2), ceilP_eq h0 ps, if_neg (fun q => h2 q.2), if_neg (fun q => h2 q.2)]
    · rw [if_neg (fun q => h1 q.1), ceilP_eq h0 ps]
      have : (∃ q ∈ p :: ps, q.2 = lock) ↔ (∃ q ∈ ps, q.2 = lock) := by
        constructor
        · rintro ⟨q, hq, e⟩
          rcases List.mem_cons.1 hq with rfl | hq
          · exact absurd e h1
          · exact ⟨q, hq, e⟩
        · rintro ⟨q, hq, e⟩; exact ⟨q, by simp [hq], e⟩
      simp only [this]
theorem isCeil_step {L : List Ta} {lock : Int} {i : Nat} {b : Int} (h : IsCeil L lock i b) : IsCeil L lock (i + 1) (ceilP L lock i b (taAt L i).pcs) := by
  obtain ⟨h1, h2, h3, h4⟩ := h
  rw [ceilP_eq (by omega)]
  split
  · rename_i hc
    refine ⟨by omega, by omega, fun h => by omega, fun _ => ⟨hc.1, fun j hj hu hne => ?_⟩⟩
    have hj' : j < i := by
      have : j ≠ i := fun q => hne (by rw [q])
      omega
    rcases hc.2 with hb | hb
    · exact absurd hu (h3 hb j hj')
    · have hb' := aheadB_iff.1 hb
      by_cases hb0 : b < 0
      · exact absurd hu (h3 hb0 j hj')
      · by_cases e : (j : Int) = b
        · rw [e]; exact hb'
        · exact ahead_trans _ _ _ hb' ((h4 (by omega)).2 j hj' hu e)
  · rename_i hc
    refine ⟨h1, by omega, fun hb j hj hu => ?_, fun hb => ⟨(h4 hb).1, fun j hj hu hne => ?_⟩⟩
    · by_cases e : j = i
      · subst e; exact hc ⟨hu, .inl hb⟩
      · exact h3 hb j (by omega) hu
    · by_cases e : j = i
      · subst e
        have : ¬ Ahead L j b := fun q => hc ⟨hu, .inr (aheadB_iff.2 q)⟩
        rcases ahead_total (L := L) hne with q | q
        · exact absurd q this
        · exact q
      · exact (h4 hb).2 j (by omega) hu hne
theorem isCeil_from {L : List Ta} {lock : Int} : ∀ (f i : Nat) (b : Int), IsCeil L lock i b → IsCeil L lock (i + f) (ceilFrom L lock f i b)
  | 0, _, _, h => h
  | f + 1, i, b, h => by
    have := isCeil_from f (i + 1) _ (isCeil_step h)
    rw [show i + (f + 1) = i + 1 + f by omega]; exact this
theorem isCeil (L : List Ta) (lock : Int) : IsCeil L lock L.length (ceilG L lock) := by
  have := isCeil_from (L := L) (lock := lock) L.length 0 (-1) ⟨by omega, by omega, fun _ j hj => by omega, fun h => by omega⟩
  rw [Nat.zero_add] at this; exact this
theorem isCeil_unique {L : List Ta} {lock : Int} {m : Nat} {c d : Int} (h : IsCeil L lock m c) (k : IsCeil L lock m d) : c = d := by
  by_cases h0 : c < 0
  · by_cases h1 : d < 0
    · have := h.lo; have := k.lo; omega
    · obtain ⟨j, hj⟩ := Int.eq_ofNat_of_zero_le (show 0 ≤ d by omega)
      have hu := (k.some_ (by omega)).1
      rw [hj] at hu
      exact absurd hu (h.none_ h0 j (by have := k.hi; omega))
  · by_cases h1 : d < 0
    · obtain ⟨j, hj⟩ := Int.eq_ofNat_of_zero_le (show 0 ≤ c by omega)
      have hu := (h.some_ (by omega)).1
      rw [hj] at hu
      exact absurd hu (k.none_ h1 j (by have := h.hi; omega))
    · by_cases e : c = d
      · exact e
      · exfalso
        obtain ⟨j, hj⟩ := Int.eq_ofNat_of_zero_le (show 0 ≤ c by omega)
        obtain ⟨i, hi⟩ := Int.eq_ofNat_of_zero_le (show 0 ≤ d by omega)
        obtain ⟨u1, a1⟩ := h.some_ (by omega)
        obtain ⟨u2, a2⟩ := k.some_ (by omega)
        have b1 := a1 i (by have := k.hi; omega) (hi ▸ u2) (by rw [← hi]; exact fun q => e q.symm)
        have b2 := a2 j (by have := h.hi; omega) (hj ▸ u1) (by rw [← hj]; exact e)
        rw [← hi] at b1; rw [← hj] at b2
        exact ahead_asym _ _ b1 b2
/-- the ceilings as the program lays them: task k's pieces -/
def layP (k : Int) : List Int → List P2 → List Int
  | C, [] => C
  | C, p :: ps => layP k (if 0 ≤ p.2 ∧ (C[p.2.toNat]?).getD 0 < 0 then C.set p.2.toNat k else C) ps
def layC (L : List Ta) : List Int → List Int → List Int
  | C, [] => C
  | C, k :: ks => layC L (layP k C (taAt L k).pcs) ks
theorem layP_len (k : Int) : ∀ (ps : List P2) (C : List Int), (layP k C ps).length = C.length
  | [], _ => rfl
  | p :: ps, C => by rw [layP, layP_len k ps]; split <;> simp
theorem layC_len (L : List Ta) : ∀ (ks C : List Int), (layC L C ks).length = C.length
  | [], _ => rfl
  | k :: ks, C => by rw [layC, layC_len L ks, layP_len]
def cAt (C : List Int) (x : Nat) : Int := (C[x]?).getD 0
theorem layP_at {k : Int} (hk : 0 ≤ k) {x : Nat} : ∀ (ps : List P2) (C : List Int), x < C.length → cAt (layP k C ps) x = if cAt C x < 0 ∧ (∃ p ∈ ps, p.2 = (x : Int)) then k else cAt C x
  | [], C, h => by simp [layP]
  | p :: ps, C, h => by
    rw [layP, layP_at hk ps _ (by split <;> simpa using h)]
    by_cases h1 : 0 ≤ p.2 ∧ (C[p.2.toNat]?).getD 0 < 0
    · rw [if_pos h1]
      by_cases e : p.2.toNat = x
      · have e' : p.2 = (x : Int) := by omega
        have e2 : cAt (C.set p.2.toNat k) x = k := by simp [cAt, e, h]
        rw [e2, if_neg (by omega), if_pos ⟨by have := h1.2; rw [e] at this; exact this, p, by simp, e'⟩]
      · have e2 : cAt (C.set p.2.toNat k) x = cAt C x := by simp [cAt, List.getElem?_set, e]
        have e3 : (∃ q ∈ p :: ps, q.2 = (x : Int)) ↔ (∃ q ∈ ps, q.2 = (x : Int)) := by
          constructor
          · rintro ⟨q, hq, e4⟩
            rcases List.mem_cons.1 hq with rfl | hq
            · exact absurd (by omega) e
            · exact ⟨q, hq, e4⟩
          · rintro ⟨q, hq, e4⟩; exact ⟨q, by simp [hq], e4⟩
        simp only [e2, e3]
    · rw [if_neg h1]
      by_cases e : p.2 = (x : Int)
      · have : ¬ cAt C x < 0 := fun q => h1 ⟨by omega, by rw [e]; exact q⟩
        rw [if_neg (fun q => this q.1), if_neg (fun q => this q.1)]
      · have e3 : (∃ q ∈ p :: ps, q.2 = (x : Int)) ↔ (∃ q ∈ ps, q.2 = (x : Int)) := by
          constructor
          · rintro ⟨q, hq, e4⟩
            rcases List.mem_cons.1 hq with rfl | hq
            · exact absurd e4 e
            · exact ⟨q, hq, e4⟩
          · rintro ⟨q, hq, e4⟩; exact ⟨q, by simp [hq], e4⟩
        simp only [e3]
theorem layC_at {L : List Ta} {x : Nat} : ∀ (ks C : List Int), (∀ k ∈ ks, 0 ≤ k) → x < C.length → cAt (layC L C ks) x = if cAt C x < 0 then ((ks.find? (fun k => usesB L k x)).getD (cAt C x)) else cAt C x
  | [], C, _, h => by simp [layC]
  | k :: ks, C, hk, h => by
    rw [layC, layC_at ks _ (fun j hj => hk j (by simp [hj])) (by rw [layP_len]; exact h), layP_at (hk k (by simp)) _ _ h]
    have hk0 := hk k (by simp)
    by_cases h0 : cAt C x < 0
    · by_cases hu : usesB L k x = true
      · have hu' : ∃ p ∈ (taAt L k).pcs, p.2 = (x : Int) := usesB_iff.1 hu
        have e1 : (if cAt C x < 0 ∧ (∃ p ∈ (taAt L k).pcs, p.2 = (x : Int)) then k else cAt C x) = k := if_pos ⟨h0, hu'⟩
        rw [e1, if_neg (by omega), if_pos h0, List.find?_cons_of_pos (p := fun k => usesB L k x) hu]; rfl
      · have hu' : ¬ ∃ p ∈ (taAt L k).pcs, p.2 = (x : Int) := fun q => hu (usesB_iff.2 q)
        have e1 : (if cAt C x < 0 ∧ (∃ p ∈ (taAt L k).pcs, p.2 = (x : Int)) then k else cAt C x) = cAt C x := if_neg (fun q => hu' q.2)
        rw [e1, if_pos h0, if_pos h0, List.find?_cons_of_neg (p := fun k => usesB L k x) hu]
    · have e1 : (if cAt C x < 0 ∧ (∃ p ∈ (taAt L k).pcs, p.2 = (x : Int)) then k else cAt C x) = cAt C x := if_neg (fun q => h0 q.1)
      rw [e1, if_neg h0, if_neg h0]
theorem layC_ceil {L : List Ta} {x : Nat} (hx : x < 6) : cAt (layC L (List.replicate 6 (-1)) (rankL L)) x = ceilG L x := by
  have e0 : cAt (List.replicate 6 (-1)) x = -1 := by unfold cAt; rw [List.getElem?_replicate, if_pos hx]; rfl
  rw [layC_at _ _ (fun k hk => (rank_mem.1 hk).1) (by simpa using hx), e0, if_pos (by omega)]
  refine isCeil_unique (m := L.length) ?_ (isCeil L x)
  cases hf : (rankL L).find? (fun k => usesB L k x) with
  | none =>
    rw [List.find?_eq_none] at hf
    refine ⟨by simp, by simp; omega, fun _ j hj hu => ?_, fun h => by simp at h⟩
    exact hf j (rank_mem.2 ⟨by omega, by omega⟩) (usesB_iff.2 hu)
  | some k =>
    rw [List.find?_eq_some_iff_append] at hf
    obtain ⟨hu, u1, u2, e, ha⟩ := hf
    have hm : k ∈ rankL L := by rw [e]; simp
    obtain ⟨k0, k1⟩ := rank_mem.1 hm
    show IsCeil L x L.length k
    refine ⟨by omega, k1, fun h => by omega, fun _ => ⟨usesB_iff.1 hu, fun j hj hju hne => ?_⟩⟩
    have hjm : (j : Int) ∈ rankL L := rank_mem.2 ⟨by omega, by omega⟩
    have hp := rank_pw L
    rw [e] at hjm hp
    rcases List.mem_append.1 hjm with q | q
    · have := ha _ q
      rw [usesB_iff.2 hju] at this
      simp at this
    · rcases List.mem_cons.1 q with q | q
      · exact absurd q hne
      · exact (List.pairwise_cons.1 (List.pairwise_append.1 hp).2.1).1 _ q
/-- the pieces that can block task t: those of task j -/
def blkP (L : List Ta) (t j : Int) : Nat → List P2 → List P2
  | _, [] => []
  | k, p :: ps => if 0 ≤ p.2 ∧ aheadB L t (ceilG L p.2) = false then (j, (k : Int)) :: blkP L t j (k + 1) ps else blkP L t j (k + 1) ps
def blkFrom (L : List Ta) (t : Int) : Nat → Nat → List P2
  | 0, _ => []
  | f + 1, j => (if aheadB L t j = true then blkP L t j 0 (taAt L j).pcs else []) ++ blkFrom L t f (j + 1)
def blockL (L : List Ta) (t : Int) : List P2 := blkFrom L t L.length 0
def ticksAt (L : List Ta) (b : P2) : Int := ((((taAt L b.1).pcs)[b.2.toNat]?).getD default).1
def blockN (L : List Ta) (t : Int) : Int := (blockL L t).foldl (fun m b => max m (ticksAt L b)) 0
/-- a piece of task j that can block task t -/
structure IsBlk (L : List Ta) (t : Int) (b : P2) : Prop where
  j0 : 0 ≤ b.1
  j1 : b.1 < L.length
  k0 : 0 ≤ b.2
  k1 : b.2 < (taAt L b.1).pcs.length
  ah : Ahead L t b.1
  lk : 0 ≤ ((((taAt L b.1).pcs)[b.2.toNat]?).getD default).2 ∧ ¬ Ahead L t (ceilG L ((((taAt L b.1).pcs)[b.2.toNat]?).getD default).2)
theorem blkP_mem {L : List Ta} {t : Int} {j : Nat} {b : P2} : ∀ (ps : List P2) (k : Nat), (taAt L j).pcs.drop k = ps → j < L.length → Ahead L t j → b ∈ blkP L t j k ps → IsBlk L t b ∧ b.1 = j
  | [], _, _, _, _, h => by simp [blkP] at h
  | p :: ps, k, hd, hj, ha, h => by
    have hd' : (taAt L j).pcs.drop (k + 1) = ps := by rw [← List.drop_drop, hd]; rfl
    have hg : (taAt L j).pcs[k]? = some p := by have := List.getElem?_drop (xs := (taAt L j).pcs) (i := k) (j := 0); rw [hd] at this; simpa using this.symm
    rw [blkP] at h
    split at h
    · rename_i hc
      rcases List.mem_cons.1 h with rfl | h
      · refine ⟨⟨by simp, by simp; omega, by simp, ?_, ha, ?_⟩, rfl⟩
        · have := (List.getElem?_eq_some_iff.1 hg).1; simp; omega
        · simp [hg]; exact ⟨hc.1, aheadB_no.1 hc.2⟩
      · exact blkP_mem ps (k + 1) hd' hj ha h
    · exact blkP_mem ps (k + 1) hd' hj ha h
theorem blkFrom_mem {L : List Ta} {t : Int} {b : P2} : ∀ (f j : Nat), j + f ≤ L.length → b ∈ blkFrom L t f j → IsBlk L t b
  | 0, _, _, h => by simp [blkFrom] at h
  | f + 1, j, hj, h => by
    rw [blkFrom] at h
    rcases List.mem_append.1 h with h | h
    · split at h
      · rename_i ha
        exact (blkP_mem _ 0 rfl (by omega) (aheadB_iff.1 ha) h).1
      · simp at h
    · exact blkFrom_mem f (j + 1) (by omega) h
theorem blockL_mem {L : List Ta} {t : Int} {b : P2} (h : b ∈ blockL L t) : IsBlk L t b := blkFrom_mem _ _ (by omega) h
end Go.Proofs.Ytmahagcghpoekaa
namespace Go.Proofs.Ytmahagcghpoekaa
open Go.RowKit
set_option linter.unusedSimpArgs false
set_option linter.unusedVariables false
/-- a job: its piece, the ticks of it, all its ticks, whether it has been told to end -/
structure Jb where
  p : Nat
  t : Nat
  d : Nat
  s : Bool
deriving DecidableEq
def Jb.zero : Jb := ⟨0, 0, 0, false⟩
/-- an entry -/
structure En where
  m : Int
  k : Int
  w : Int
  a : Int
  b : Int
deriving DecidableEq, Inhabited
/-- a run -/
structure Rn where
  L : List Ta
  fr : Int
  sl : Int
  ev : List (List P2)
  bu : List Int
  sg : List P2
/-- the machine: of each task the events that wait, the job; what has been written -/
structure Ms where
  q : List (List Int)
  j : List Jb
  o : List En
def Ms.qa (s : Ms) (i : Nat) : List Int := (s.q[i]?).getD []
def Ms.ja (s : Ms) (i : Nat) : Jb := (s.j[i]?).getD Jb.zero
def Ms.hd (s : Ms) (i : Nat) : Int := (s.qa i).headD 0
def pcA (L : List Ta) (i p : Nat) : P2 := (((taAt L i).pcs)[p]?).getD default
def lkA (L : List Ta) (i p : Nat) : Int := (pcA L i p).2
def tkA (L : List Ta) (i p : Nat) : Int := (pcA L i p).1
/-- within a piece with a lock -/
def insB (L : List Ta) (s : Ms) (i : Nat) : Bool := decide (0 < (s.ja i).t) && decide (0 ≤ lkA L i (s.ja i).p)
def toI (L : List Ta) (s : Ms) (i : Nat) : Int := if insB L s i = true then ceilG L (lkA L i (s.ja i).p) else i
def ownI (L : List Ta) (s : Ms) (i : Nat) : Nat := if toI L s i = (i : Int) then 1 else 0
def keyI (L : List Ta) (s : Ms) (i : Nat) : Nat := 2 * cnt L (toI L s i) + ownI L s i
def Ms.wr (s : Ms) (e : En) : Ms := { s with o := s.o ++ [e] }
def rel1 (t : Int) (i : Nat) (k : Nat) (s : Ms) : Ms := { s with q := s.q.set i (s.qa i ++ [(k : Int)]), o := s.o ++ [⟨t, i, 1, k, 0⟩] }
def relE (t : Int) (i : Nat) : Nat → List P2 → Ms → Ms
  | _, [], s => s
  | k, e :: es, s => relE t i (k + 1) es (if e.1 + e.2 = t then rel1 t i k s else s)
def relA (t : Int) : Nat → List (List P2) → Ms → Ms
  | _, [], s => s
  | i, l :: ls, s => relA t (i + 1) ls (relE t i 0 l s)
def sig1 (t : Int) (i : Nat) (s : Ms) : Ms := { s with j := s.j.set i { s.ja i with s := true }, o := s.o ++ [⟨t, i, 2, 0, 0⟩] }
def sigS (t : Int) (g : P2) (s : Ms) : Ms := if g.1 = t ∧ s.qa g.2.toNat ≠ [] then sig1 t g.2.toNat s else s
def sigA (t : Int) : List P2 → Ms → Ms
  | [], s => s
  | g :: gs, s => sigA t gs (sigS t g s)
def fin1 (m : Int) (i : Nat) (how : Int) (s : Ms) : Ms := { q := s.q.set i (s.qa i).tail, j := s.j.set i Jb.zero, o := s.o ++ [⟨m, i, 5, s.hd i, how⟩] }
def endS (L : List Ta) (t : Int) (i : Nat) (s : Ms) : Ms := if s.qa i ≠ [] ∧ (s.ja i).s = true ∧ insB L s i = false then fin1 t i 1 s else s
def endA (L : List Ta) (t : Int) : Nat → Nat → Ms → Ms
  | 0, _, s => s
  | f + 1, i, s => endA L t f (i + 1) (endS L t i s)
def arrA (R : Rn) (t : Int) (s : Ms) : Ms := endA R.L t R.L.length 0 (sigA t R.sg (relA t 0 R.ev s))
/-- who is chosen -/
def chF (L : List Ta) (s : Ms) : Nat → Nat → Int → Int
  | 0, _, b => b
  | f + 1, i, b => chF L s f (i + 1) (if s.qa i ≠ [] ∧ (b < 0 ∨ keyI L s i < keyI L s b.toNat) then i else b)
def chM (L : List Ta) (s : Ms) : Int := chF L s L.length 0 (-1)
/-- the job behind a tick -/
def jbN (L : List Ta) (i : Nat) (j : Jb) : Jb := if ((j.t : Nat) : Int) + 1 = tkA L i j.p then ⟨j.p + 1, 0, j.d + 1, j.s⟩ else ⟨j.p, j.t + 1, j.d + 1, j.s⟩
def wkA (R : Rn) (t : Int) (i : Nat) (s : Ms) : Ms :=
  if (jbN R.L i (s.ja i)).p = (taAt R.L i).pcs.length then fin1 (t + 1) i 0 { s with o := s.o ++ [⟨t, i, 4, (s.ja i).p, s.hd i⟩], j := s.j.set i (jbN R.L i (s.ja i)) }
  else if (((jbN R.L i (s.ja i)).d : Nat) : Int) = (R.bu[i]?).getD 0 then { s with j := s.j.set i { jbN R.L i (s.ja i) with s := true }, o := s.o ++ [⟨t, i, 4, (s.ja i).p, s.hd i⟩] ++ [⟨t + 1, i, 6, s.hd i, 0⟩] }
  else { s with j := s.j.set i (jbN R.L i (s.ja i)), o := s.o ++ [⟨t, i, 4, (s.ja i).p, s.hd i⟩] }
def tckB (R : Rn) (t : Int) (s : Ms) : Ms := if t % R.fr < R.sl then s.wr ⟨t, -1, 3, 0, 0⟩ else if 0 ≤ chM R.L s then wkA R t (chM R.L s).toNat s else s
def tckA (R : Rn) (t : Int) (s : Ms) : Ms := tckB R t (arrA R t s)
def ms0 (n : Nat) : Ms := ⟨List.replicate n [], List.replicate n Jb.zero, []⟩
def plM (R : Rn) : Nat → Ms
  | 0 => ms0 R.L.length
  | t + 1 => tckA R t (plM R t)
/-- a run that may be -/
structure RnOk (R : Rn) : Prop where
  r : Right R.L
  f : 1 ≤ R.fr
  ev : R.ev.length = R.L.length
  bu : R.bu.length = R.L.length
  el : ∀ l ∈ R.ev, l.length ≤ 40 ∧ ∀ e ∈ l, (0 ≤ e.1 ∧ e.1 ≤ 1000000) ∧ (0 ≤ e.2 ∧ e.2 ≤ 1000000)
  sl : R.sg.length ≤ 40
  sg : ∀ g ∈ R.sg, 0 ≤ g.2 ∧ g.2 < R.L.length
  b0 : ∀ b ∈ R.bu, 0 ≤ b ∧ b ≤ 1000
/-- what holds of the machine -/
structure MOk (R : Rn) (s : Ms) : Prop where
  ql : s.q.length = R.L.length
  jl : s.j.length = R.L.length
  pc : ∀ i, i < R.L.length → (s.ja i).p < (taAt R.L i).pcs.length
  tk : ∀ i, i < R.L.length → ((s.ja i).t : Int) < tkA R.L i (s.ja i).p
  rd : ∀ i, i < R.L.length → s.qa i = [] → s.ja i = Jb.zero
  ce : ∀ a b, a < R.L.length → b < R.L.length → a ≠ b → insB R.L s a = true → insB R.L s b = true → cnt R.L a < cnt R.L (toI R.L s b) ∨ cnt R.L b < cnt R.L (toI R.L s a)
theorem qa_set {s : Ms} {i k : Nat} {x : List Int} {q : List (List Int)} {o : List En} {j : List Jb} (h : i < s.q.length) : Ms.qa ⟨s.q.set i x, j, o⟩ k = if k = i then x else s.qa k := by
  unfold Ms.qa
  simp only [List.getElem?_set]
  by_cases e : k = i
  · subst e; simp [h]
  · rw [if_neg (fun q => e q.symm), if_neg e]
theorem ja_set {s : Ms} {i k : Nat} {x : Jb} {q : List (List Int)} {o : List En} (h : i < s.j.length) : Ms.ja ⟨q, s.j.set i x, o⟩ k = if k = i then x else s.ja k := by
  unfold Ms.ja
  simp only [List.getElem?_set]
  by_cases e : k = i
  · subst e; simp [h]
  · rw [if_neg (fun q => e q.symm), if_neg e]
theorem insB_iff {L : List Ta} {s : Ms} {i : Nat} : insB L s i = true ↔ 0 < (s.ja i).t ∧ 0 ≤ lkA L i (s.ja i).p := by unfold insB; simp
theorem insB_eq {L : List Ta} {s s' : Ms} {i : Nat} (h : s.ja i = s'.ja i) : insB L s i = insB L s' i := by unfold insB; rw [h]
theorem toI_eq {L : List Ta} {s s' : Ms} {i : Nat} (h : s.ja i = s'.ja i) : toI L s i = toI L s' i := by unfold toI; rw [insB_eq h, h]
theorem keyI_eq {L : List Ta} {s s' : Ms} {i : Nat} (h : s.ja i = s'.ja i) : keyI L s i = keyI L s' i := by unfold keyI ownI; rw [toI_eq h]
theorem ins_zero {L : List Ta} {s : Ms} {i : Nat} (h : s.ja i = Jb.zero) : insB L s i = false := by unfold insB; rw [h]; rfl
theorem toI_no {L : List Ta} {s : Ms} {i : Nat} (h : insB L s i = false) : toI L s i = i := by unfold toI; rw [h]; rfl
theorem pc_uses {L : List Ta} {i p : Nat} (h : p < (taAt L i).pcs.length) : uses L i (lkA L i p) := by
  refine ⟨(taAt L i).pcs[p], List.getElem_mem h, ?_⟩
  unfold lkA pcA; rw [List.getElem?_eq_getElem h]; rfl
theorem ceil_le {L : List Ta} {lock : Int} {i : Nat} (hi : i < L.length) (h : uses L i lock) : (0 ≤ ceilG L lock ∧ ceilG L lock < L.length) ∧ cnt L (ceilG L lock) ≤ cnt L i := by
  have hc := isCeil L lock
  have h0 : 0 ≤ ceilG L lock := by
    by_cases h0 : ceilG L lock < 0
    · exact absurd h (hc.none_ h0 i hi)
    · omega
  have hh := hc.hi
  refine ⟨⟨h0, hh⟩, ?_⟩
  by_cases e : (i : Int) = ceilG L lock
  · rw [e]; exact Nat.le_refl _
  · exact Nat.le_of_lt ((cnt_ahead h0 hh (by omega) (by omega)).2 ((hc.some_ h0).2 i hi h e))
theorem MOk.to_ {R : Rn} {s : Ms} (h : MOk R s) {i : Nat} (hi : i < R.L.length) : (0 ≤ toI R.L s i ∧ toI R.L s i < R.L.length) ∧ cnt R.L (toI R.L s i) ≤ cnt R.L i := by
  unfold toI
  split
  · exact ceil_le hi (pc_uses (h.pc i hi))
  · exact ⟨by omega, Nat.le_refl _⟩
theorem cnt_inj {L : List Ta} {x y : Int} (h0 : 0 ≤ x) (h1 : x < L.length) (h2 : 0 ≤ y) (h3 : y < L.length) (h : cnt L x = cnt L y) : x = y := by
  have a := rank_at h0 h1
  have b := rank_at h2 h3
  rw [h, b] at a; simpa using a.symm
/-- how the reference compares -/
theorem MOk.cmp {R : Rn} {s : Ms} (h : MOk R s) {i b : Nat} (hi : i < R.L.length) (hb : b < R.L.length) (hne : i ≠ b) :
    keyI R.L s i < keyI R.L s b ↔ cnt R.L (toI R.L s i) < cnt R.L (toI R.L s b) ∨ (cnt R.L (toI R.L s i) = cnt R.L (toI R.L s b) ∧ insB R.L s i = true) := by
  have hti := h.to_ hi
  have htb := h.to_ hb
  unfold keyI ownI
  constructor
  · intro k
    by_cases e : cnt R.L (toI R.L s i) < cnt R.L (toI R.L s b)
    · exact .inl e
    · right
      have h1 : toI R.L s i ≠ (i : Int) := by
        intro q
        rw [if_pos q] at k
        split at k <;> omega
      refine ⟨by split at k <;> split at k <;> omega, ?_⟩
      cases hc : insB R.L s i
      · exact absurd (toI_no hc) h1
      · rfl
  · rintro (k | ⟨k, hc⟩)
    · split <;> split <;> omega
    · have e := cnt_inj hti.1.1 hti.1.2 htb.1.1 htb.1.2 k
      have hcb : insB R.L s b = false := by
        cases hcb : insB R.L s b
        · rfl
        · rcases h.ce i b hi hb hne hc hcb with q | q <;> omega
      have hb' := toI_no hcb
      have : toI R.L s i ≠ (i : Int) := by rw [e, hb']; omega
      rw [if_neg this, if_pos hb']; omega
/-- the reference's choice -/
def chR (L : List Ta) (s : Ms) : Nat → Nat → Int → Int → Int
  | 0, _, b, _ => b
  | f + 1, i, b, r => if s.qa i = [] then chR L s f (i + 1) b r
    else if b < 0 ∨ (cnt L (toI L s i) : Int) < r ∨ ((cnt L (toI L s i) : Int) = r ∧ insB L s i = true) then chR L s f (i + 1) i (cnt L (toI L s i)) else chR L s f (i + 1) b r
theorem chR_eq {R : Rn} {s : Ms} (h : MOk R s) : ∀ (f i : Nat) (b r : Int), i + f = R.L.length → b < i → (b < 0 ∨ (r = (cnt R.L (toI R.L s b.toNat) : Int))) → chR R.L s f i b r = chF R.L s f i b
  | 0, _, _, _, _, _, _ => rfl
  | f + 1, i, b, r, hf, hb, hr => by
    rw [chR, chF]
    by_cases hq : s.qa i = []
    · rw [if_pos hq, if_neg (fun q => q.1 hq)]
      exact chR_eq h f (i + 1) b r (by omega) (by omega) hr
    · rw [if_neg hq]
      have hc : (b < 0 ∨ (cnt R.L (toI R.L s i) : Int) < r ∨ ((cnt R.L (toI R.L s i) : Int) = r ∧ insB R.L s i = true)) ↔ (s.qa i ≠ [] ∧ (b < 0 ∨ keyI R.L s i < keyI R.L s b.toNat)) := by
        by_cases hb0 : b < 0
        · simp [hb0, hq]
        · have e := hr.resolve_left hb0
          have := h.cmp (i := i) (b := b.toNat) (by omega) (by omega) (by omega)
          rw [this, e]
          constructor
          · rintro (k | k | ⟨k, c⟩)
            · omega
            · exact ⟨hq, .inr (.inl (by omega))⟩
            · exact ⟨hq, .inr (.inr ⟨by omega, c⟩)⟩
          · rintro ⟨_, k | k | ⟨k, c⟩⟩
            · omega
            · exact .inr (.inl (by omega))
            · exact .inr (.inr ⟨by omega, c⟩)
      by_cases hk : s.qa i ≠ [] ∧ (b < 0 ∨ keyI R.L s i < keyI R.L s b.toNat)
      · rw [if_pos hk, if_pos (hc.2 hk)]
        exact chR_eq h f (i + 1) i _ (by omega) (by omega) (.inr (by rw [Int.toNat_natCast]))
      · rw [if_neg hk, if_neg (fun q => hk (hc.1 q))]
        exact chR_eq h f (i + 1) b r (by omega) (by omega) hr
/-- the choice is a first one -/
theorem chF_spec {L : List Ta} {s : Ms} : ∀ (f i : Nat) (b : Int), -1 ≤ b → b < i → (∀ k : Nat, k < i → s.qa k ≠ [] → 0 ≤ b ∧ keyI L s b.toNat ≤ keyI L s k) → (0 ≤ b → s.qa b.toNat ≠ []) →
    -1 ≤ chF L s f i b ∧ chF L s f i b < (i + f : Nat) ∧ (∀ k : Nat, k < i + f → s.qa k ≠ [] → 0 ≤ chF L s f i b ∧ keyI L s (chF L s f i b).toNat ≤ keyI L s k) ∧ (0 ≤ chF L s f i b → s.qa (chF L s f i b).toNat ≠ [])
  | 0, i, b, h1, h2, h3, h4 => ⟨h1, by simpa [chF] using h2, by simpa [chF] using h3, h4⟩
  | f + 1, i, b, h1, h2, h3, h4 => by
    rw [chF, show i + (f + 1) = i + 1 + f by omega]
    by_cases hk : s.qa i ≠ [] ∧ (b < 0 ∨ keyI L s i < keyI L s b.toNat)
    · rw [if_pos hk]
      refine chF_spec f (i + 1) i (by omega) (by omega) (fun k hki hq => ⟨by omega, ?_⟩) (fun _ => by rw [Int.toNat_natCast]; exact hk.1)
      rw [Int.toNat_natCast]
      rcases Nat.lt_succ_iff_lt_or_eq.1 hki with hki | rfl
      · have := h3 k hki hq
        rcases hk.2 with q | q
        · omega
        · omega
      · exact Nat.le_refl _
    · rw [if_neg hk]
      refine chF_spec f (i + 1) b h1 (by omega) (fun k hki hq => ?_) h4
      rcases Nat.lt_succ_iff_lt_or_eq.1 hki with hki | rfl
      · exact h3 k hki hq
      · have : ¬ (b < 0 ∨ keyI L s k < keyI L s b.toNat) := fun q => hk ⟨hq, q⟩
        omega
theorem chM_spec (L : List Ta) (s : Ms) : -1 ≤ chM L s ∧ chM L s < L.length ∧ (∀ k : Nat, k < L.length → s.qa k ≠ [] → 0 ≤ chM L s ∧ keyI L s (chM L s).toNat ≤ keyI L s k) ∧ (0 ≤ chM L s → s.qa (chM L s).toNat ≠ []) := by
  have := chF_spec (L := L) (s := s) L.length 0 (-1) (by omega) (by omega) (fun k hk => by omega) (fun h => by omega)
  unfold chM
  simpa using this
end Go.Proofs.Ytmahagcghpoekaa
namespace Go.Proofs.Ytmahagcghpoekaa
open Go.RowKit
set_option linter.unusedSimpArgs false
set_option linter.unusedVariables false
theorem ta_mem {L : List Ta} {i : Nat} (h : i < L.length) : taAt L i ∈ L := by
  rw [taAt_of (List.getElem?_eq_getElem h)]; exact List.getElem_mem h
theorem pcA_mem {L : List Ta} {i p : Nat} (h : p < (taAt L i).pcs.length) : pcA L i p ∈ (taAt L i).pcs := by
  unfold pcA; rw [List.getElem?_eq_getElem h]; exact List.getElem_mem h
theorem pc_lim {L : List Ta} (h : Right L) {i p : Nat} (hi : i < L.length) (hp : p < (taAt L i).pcs.length) : (1 ≤ tkA L i p ∧ tkA L i p ≤ 200) ∧ (-1 ≤ lkA L i p ∧ lkA L i p ≤ 5) :=
  h.piece _ (ta_mem hi) _ (pcA_mem hp)
theorem pcs_pos {L : List Ta} (h : Right L) {i : Nat} (hi : i < L.length) : 0 < (taAt L i).pcs.length ∧ (taAt L i).pcs.length ≤ 8 := by
  have := h.pcs _ (ta_mem hi); omega
theorem MOk.same {R : Rn} {s s' : Ms} (h : MOk R s) (hq : s'.q.length = s.q.length) (hl : s'.j.length = s.j.length) (hp : ∀ i, i < R.L.length → (s'.ja i).p = (s.ja i).p ∧ (s'.ja i).t = (s.ja i).t) (hr : ∀ i, i < R.L.length → s'.qa i = [] → s'.ja i = Jb.zero) : MOk R s' := by
  have hi : ∀ i, i < R.L.length → insB R.L s' i = insB R.L s i := fun i hi => by unfold insB; rw [(hp i hi).1, (hp i hi).2]
  have ht : ∀ i, i < R.L.length → toI R.L s' i = toI R.L s i := fun i hx => by unfold toI; rw [hi i hx, (hp i hx).1]
  exact ⟨hq.trans h.ql, hl.trans h.jl, fun i hx => by rw [(hp i hx).1]; exact h.pc i hx, fun i hx => by rw [(hp i hx).1, (hp i hx).2]; exact h.tk i hx, hr,
    fun a b ha hb hne h1 h2 => by rw [ht a ha, ht b hb]; exact h.ce a b ha hb hne (by rw [← hi a ha]; exact h1) (by rw [← hi b hb]; exact h2)⟩
/-- the events that are released at t -/
def relK (t : Int) : Nat → List P2 → List Int
  | _, [] => []
  | k, e :: es => (if e.1 + e.2 = t then [(k : Int)] else []) ++ relK t (k + 1) es
theorem set_qa {s : Ms} {i : Nat} (h : i < s.q.length) : s.q.set i (s.qa i) = s.q := by
  apply List.ext_getElem?
  intro k
  rw [List.getElem?_set]
  split
  · rename_i e
    subst e
    unfold Ms.qa
    rw [List.getElem?_eq_getElem h]; rfl
  · rfl
theorem qa_self {q : List (List Int)} {j : List Jb} {o : List En} {i : Nat} {x : List Int} (h : i < q.length) : Ms.qa ⟨q.set i x, j, o⟩ i = x := by
  unfold Ms.qa; simp [h]
theorem relE_eq (t : Int) (i : Nat) : ∀ (es : List P2) (k : Nat) (s : Ms), i < s.q.length → relE t i k es s = ⟨s.q.set i (s.qa i ++ relK t k es), s.j, s.o ++ (relK t k es).map (fun x => ⟨t, i, 1, x, 0⟩)⟩
  | [], k, s, h => by simp [relE, relK, set_qa h]
  | e :: es, k, s, h => by
    rw [relE, relK]
    by_cases he : e.1 + e.2 = t
    · rw [if_pos he, if_pos he, relE_eq t i es (k + 1) _ (by simpa [rel1] using h)]
      have : (rel1 t i k s).qa i = s.qa i ++ [(k : Int)] := qa_self h
      rw [this]
      simp [rel1]
    · rw [if_neg he, if_neg he, relE_eq t i es (k + 1) _ h]
      simp
theorem relA_spec (t : Int) : ∀ (ls : List (List P2)) (i : Nat) (s : Ms), i + ls.length ≤ s.q.length →
    (relA t i ls s).q.length = s.q.length ∧ (relA t i ls s).j = s.j ∧ (∀ x, (relA t i ls s).qa x = s.qa x ++ (if i ≤ x then relK t 0 ((ls[x - i]?).getD []) else []))
  | [], i, s, h => ⟨rfl, rfl, fun x => by
    simp [relA, relK]⟩
  | l :: ls, i, s, h => by
    rw [relA]
    simp only [List.length_cons] at h
    have e := relE_eq t i l 0 s (by omega)
    obtain ⟨h1, h2, h3⟩ := relA_spec t ls (i + 1) (relE t i 0 l s) (by rw [e]; simp; omega)
    refine ⟨by rw [h1, e]; simp, by rw [h2, e], fun x => ?_⟩
    rw [h3 x, e, qa_set (q := s.q) (by omega)]
    rcases Nat.lt_trichotomy x i with hx | hx | hx
    · rw [if_neg (by omega), if_neg (by omega), if_neg (by omega)]
    · subst hx
      rw [if_pos rfl, if_neg (by omega), if_pos (Nat.le_refl _), Nat.sub_self]
      simp
    · rw [if_neg (by omega), if_pos (by omega), if_pos (by omega)]
      congr 3
      rw [show x - i = (x - (i + 1)) + 1 by omega, List.getElem?_cons_succ]
theorem MOk.relA {R : Rn} {s : Ms} (h : MOk R s) (hr : RnOk R) (t : Int) : MOk R (relA t 0 R.ev s) := by
  obtain ⟨h1, h2, h3⟩ := relA_spec t R.ev 0 s (by rw [h.ql, hr.ev]; omega)
  have hj : ∀ i, (Go.Proofs.Ytmahagcghpoekaa.relA t 0 R.ev s).ja i = s.ja i := fun i => by unfold Ms.ja; rw [h2]
  refine h.same h1 (by rw [h2]) (fun i _ => by rw [hj]; exact ⟨rfl, rfl⟩) (fun i hi hq => ?_)
  rw [hj]
  rw [h3] at hq
  exact h.rd i hi (List.append_eq_nil_iff.1 hq).1
theorem sigS_spec {t : Int} {g : P2} {s : Ms} : (sigS t g s).q = s.q ∧ (sigS t g s).j.length = s.j.length := by
  unfold sigS; split
  · exact ⟨rfl, by simp [sig1]⟩
  · exact ⟨rfl, rfl⟩
theorem MOk.sigS {R : Rn} {s : Ms} (h : MOk R s) (t : Int) {g : P2} (hg : 0 ≤ g.2 ∧ g.2 < R.L.length) : MOk R (sigS t g s) := by
  unfold Go.Proofs.Ytmahagcghpoekaa.sigS
  split
  · rename_i hc
    have hl : g.2.toNat < s.j.length := by rw [h.jl]; omega
    have hj : ∀ i, (sig1 t g.2.toNat s).ja i = if i = g.2.toNat then { s.ja g.2.toNat with s := true } else s.ja i := fun i => ja_set hl
    refine h.same rfl (by simp [sig1]) (fun i _ => ?_) (fun i hi hq => ?_)
    · rw [hj]; split
      · rename_i e; subst e; exact ⟨rfl, rfl⟩
      · exact ⟨rfl, rfl⟩
    · rw [hj]
      have hq' : s.qa i = [] := hq
      rw [if_neg (fun e => by subst e; exact hc.2 hq')]
      exact h.rd i hi hq'
  · exact h
theorem MOk.sigA {R : Rn} (t : Int) : ∀ (gs : List P2) {s : Ms}, MOk R s → (∀ g ∈ gs, 0 ≤ g.2 ∧ g.2 < R.L.length) → MOk R (sigA t gs s)
  | [], s, h, _ => h
  | g :: gs, s, h, hg => MOk.sigA t gs (h.sigS t (hg g (by simp))) (fun x hx => hg x (by simp [hx]))
theorem fin_ja {m how : Int} {i k : Nat} {s : Ms} (h : i < s.j.length) : (fin1 m i how s).ja k = if k = i then Jb.zero else s.ja k := ja_set h
theorem fin_qa {m how : Int} {i k : Nat} {s : Ms} (h : i < s.q.length) : (fin1 m i how s).qa k = if k = i then (s.qa i).tail else s.qa k := qa_set (q := s.q) h
theorem MOk.fin {R : Rn} {s : Ms} (h : MOk R s) (hr : RnOk R) (m how : Int) {i : Nat} (hi : i < R.L.length) : MOk R (fin1 m i how s) := by
  have hj := fun k => fin_ja (m := m) (how := how) (i := i) (k := k) (s := s) (by rw [h.jl]; exact hi)
  have hq := fun k => fin_qa (m := m) (how := how) (i := i) (k := k) (s := s) (by rw [h.ql]; exact hi)
  have hz : ∀ k, insB R.L (fin1 m i how s) k = true → k ≠ i ∧ insB R.L s k = true := fun k hk => by
    by_cases e : k = i
    · rw [ins_zero (by rw [hj, if_pos e])] at hk; cases hk
    · exact ⟨e, by rw [← insB_eq (by rw [hj, if_neg e])]; exact hk⟩
  have ht : ∀ k, k ≠ i → toI R.L (fin1 m i how s) k = toI R.L s k := fun k hk => toI_eq (by rw [hj, if_neg hk])
  refine ⟨by simp [fin1, h.ql], by simp [fin1, h.jl], fun k hk => ?_, fun k hk => ?_, fun k hk hq' => ?_, fun a b ha hb hne h1 h2 => ?_⟩
  · rw [hj]; split
    · exact (pcs_pos hr.r hk).1
    · exact h.pc k hk
  · rw [hj]; split
    · have := (pc_lim hr.r hk (pcs_pos hr.r hk).1).1.1
      show ((0 : Nat) : Int) < tkA R.L k 0
      omega
    · exact h.tk k hk
  · rw [hj]; split
    · rfl
    · rename_i e
      rw [hq, if_neg e] at hq'
      exact h.rd k hk hq'
  · obtain ⟨e1, i1⟩ := hz a h1
    obtain ⟨e2, i2⟩ := hz b h2
    rw [ht a e1, ht b e2]
    exact h.ce a b ha hb hne i1 i2
theorem MOk.endS {R : Rn} {s : Ms} (h : MOk R s) (hr : RnOk R) (t : Int) {i : Nat} (hi : i < R.L.length) : MOk R (endS R.L t i s) := by
  unfold Go.Proofs.Ytmahagcghpoekaa.endS
  split
  · exact h.fin hr t 1 hi
  · exact h
theorem MOk.endA {R : Rn} (hr : RnOk R) (t : Int) : ∀ (f i : Nat) {s : Ms}, MOk R s → i + f = R.L.length → MOk R (endA R.L t f i s)
  | 0, _, _, h, _ => h
  | f + 1, i, s, h, e => MOk.endA hr t f (i + 1) (h.endS hr t (by omega)) (by omega)
theorem MOk.arrA {R : Rn} {s : Ms} (h : MOk R s) (hr : RnOk R) (t : Int) : MOk R (arrA R t s) :=
  MOk.endA hr t _ _ (MOk.sigA t _ (h.relA hr t) hr.sg) (by omega)
theorem MOk.wr {R : Rn} {s : Ms} (h : MOk R s) (e : En) : MOk R (s.wr e) :=
  h.same rfl rfl (fun _ _ => ⟨rfl, rfl⟩) (fun i hi hq => h.rd i hi hq)
/-- a tick of work within the job -/
theorem MOk.work {R : Rn} {s : Ms} (h : MOk R s) (hr : RnOk R) {i : Nat} (hi : i < R.L.length) (hk : ∀ k, k < R.L.length → s.qa k ≠ [] → keyI R.L s i ≤ keyI R.L s k) (hq : s.qa i ≠ []) (hp : (jbN R.L i (s.ja i)).p < (taAt R.L i).pcs.length) (o : List En) :
    MOk R { s with j := s.j.set i (jbN R.L i (s.ja i)), o := o } := by
  have hj : ∀ k, Ms.ja ⟨s.q, s.j.set i (jbN R.L i (s.ja i)), o⟩ k = if k = i then jbN R.L i (s.ja i) else s.ja k := fun k => ja_set (by rw [h.jl]; exact hi)
  obtain ⟨s', hs'⟩ : ∃ s', (⟨s.q, s.j.set i (jbN R.L i (s.ja i)), o⟩ : Ms) = s' := ⟨_, rfl⟩
  have hq' : ∀ k, s'.qa k = s.qa k := fun k => by subst hs'; rfl
  rw [hs'] at hj ⊢
  have hto : ∀ k, k ≠ i → toI R.L s' k = toI R.L s k := fun k hk => toI_eq (by rw [hj, if_neg hk])
  have hin : ∀ k, k ≠ i → insB R.L s' k = insB R.L s k := fun k hk => insB_eq (by rw [hj, if_neg hk])
  have htk := h.tk i hi
  have hpi := h.pc i hi
  -- against another one that is inside
  have key : ∀ b, b < R.L.length → b ≠ i → insB R.L s b = true → insB R.L s' i = true → cnt R.L i < cnt R.L (toI R.L s b) ∨ cnt R.L b < cnt R.L (toI R.L s' i) := by
    intro b hb hne h1 h2
    cases hc : insB R.L s i
    · left
      have hqb : s.qa b ≠ [] := fun e => by rw [ins_zero (h.rd b hb e)] at h1; cases h1
      have hkb := hk b hb hqb
      unfold keyI ownI at hkb
      rw [toI_no hc, if_pos rfl] at hkb
      have htb := h.to_ hb
      by_cases e : cnt R.L i < cnt R.L (toI R.L s b)
      · exact e
      · exfalso
        split at hkb
        · rename_i e2
          have : cnt R.L (i : Int) = cnt R.L (toI R.L s b) := by omega
          have := cnt_inj (by omega) (by omega) htb.1.1 htb.1.2 this
          rw [e2] at this
          omega
        · omega
    · have e : toI R.L s' i = toI R.L s i := by
        have hp2 : (s'.ja i).p = (s.ja i).p := by
          have h3 := (insB_iff.1 h2).1
          rw [hj, if_pos rfl] at h3 ⊢
          unfold jbN at h3 ⊢
          split
          · rename_i hx
            rw [if_pos hx] at h3
            exact absurd h3 (Nat.lt_irrefl 0)
          · rfl
        unfold toI; rw [h2, hc, hp2]
      rw [e]
      exact h.ce i b hi hb (fun e => hne e.symm) hc h1
  clear hk
  refine ⟨by subst hs'; exact h.ql, by subst hs'; simp [h.jl], fun k hk => ?_, fun k hk => ?_, fun k hk hqk => ?_, fun a b ha hb hne h1 h2 => ?_⟩
  · rw [hj]; split
    · rename_i e; subst e; exact hp
    · exact h.pc k hk
  · rw [hj]; split
    · rename_i e; subst e
      have h5 := (pc_lim hr.r hk hp).1.1
      unfold jbN at h5 hp ⊢
      split
      · rename_i hx
        rw [if_pos hx] at h5
        show ((0 : Nat) : Int) < _
        simp only [] at h5
        exact Int.lt_of_lt_of_le (by omega) h5
      · rename_i hx
        show ((((s.ja k).t + 1 : Nat)) : Int) < tkA R.L k (s.ja k).p
        omega
    · exact h.tk k hk
  · rw [hq'] at hqk
    by_cases e : k = i
    · subst e; exact absurd hqk hq
    · rw [hj, if_neg e]; exact h.rd k hk hqk
  · by_cases ea : a = i
    · subst ea
      have hb' : b ≠ a := fun e => hne e.symm
      rw [hin b hb'] at h2
      rw [hto b hb']
      exact key b hb hb' h2 h1
    · by_cases eb : b = i
      · subst eb
        rw [hin a ea] at h1
        rw [hto a ea]
        exact (key a ha ea h1 h2).symm
      · rw [hin a ea] at h1
        rw [hin b eb] at h2
        rw [hto a ea, hto b eb]
        exact h.ce a b ha hb hne h1 h2
theorem MOk.wkA {R : Rn} {s : Ms} (h : MOk R s) (hr : RnOk R) (t : Int) {i : Nat} (hi : i < R.L.length) (hk : ∀ k, k < R.L.length → s.qa k ≠ [] → keyI R.L s i ≤ keyI R.L s k) (hq : s.qa i ≠ []) : MOk R (wkA R t i s) := by
  have hjl : i < s.j.length := by rw [h.jl]; exact hi
  unfold Go.Proofs.Ytmahagcghpoekaa.wkA
  have hpi := h.pc i hi
  have hle : (jbN R.L i (s.ja i)).p ≤ (taAt R.L i).pcs.length := by unfold jbN; split <;> simp only [] <;> omega
  by_cases h1 : (jbN R.L i (s.ja i)).p = (taAt R.L i).pcs.length
  · rw [if_pos h1]
    have := h.fin hr (t + 1) 0 hi
    have e : fin1 (t + 1) i 0 { s with o := s.o ++ [⟨t, i, 4, (s.ja i).p, s.hd i⟩], j := s.j.set i (jbN R.L i (s.ja i)) } = { fin1 (t + 1) i 0 s with o := s.o ++ [⟨t, i, 4, (s.ja i).p, s.hd i⟩] ++ [⟨t + 1, i, 5, s.hd i, 0⟩] } := by
      unfold fin1; simp; exact ⟨rfl, rfl⟩
    rw [e]
    exact this.same rfl rfl (fun _ _ => ⟨rfl, rfl⟩) (fun k hk hq => this.rd k hk hq)
  · rw [if_neg h1]
    have hw := fun o => h.work hr hi hk hq (by omega) o
    split
    · refine (hw s.o).same rfl (by simp) (fun k hk => ?_) (fun k hk hq' => ?_)
      · rw [ja_set hjl, ja_set hjl]
        split <;> exact ⟨rfl, rfl⟩
      · rw [ja_set hjl]
        have hq2 : s.qa k = [] := hq'
        split
        · rename_i e; subst e; exact absurd hq2 hq
        · exact h.rd k hk hq2
    · exact hw _
theorem MOk.tckB {R : Rn} {s : Ms} (h : MOk R s) (hr : RnOk R) (t : Int) : MOk R (tckB R t s) := by
  unfold Go.Proofs.Ytmahagcghpoekaa.tckB
  split
  · exact h.wr _
  · split
    · rename_i hc
      obtain ⟨h1, h2, h3, h4⟩ := chM_spec R.L s
      exact h.wkA hr t (by omega) (fun k hk hq => (h3 k hk hq).2) (h4 hc)
    · exact h
theorem MOk.tckA {R : Rn} {s : Ms} (h : MOk R s) (hr : RnOk R) (t : Int) : MOk R (tckA R t s) := (h.arrA hr t).tckB hr t
theorem MOk.zero {R : Rn} (hr : RnOk R) : MOk R (ms0 R.L.length) := by
  have hj : ∀ i, (ms0 R.L.length).ja i = Jb.zero := fun i => by
    unfold Ms.ja ms0; simp only [List.getElem?_replicate]; split <;> rfl
  refine ⟨by simp [ms0], by simp [ms0], fun i hi => by rw [hj]; exact (pcs_pos hr.r hi).1, fun i hi => ?_, fun i _ _ => hj i, fun a b _ _ _ h1 _ => by rw [ins_zero (hj a)] at h1; cases h1⟩
  rw [hj]
  have := (pc_lim hr.r hi (pcs_pos hr.r hi).1).1.1
  show ((0 : Nat) : Int) < tkA R.L i 0
  omega
theorem plM_ok {R : Rn} (hr : RnOk R) : ∀ t, MOk R (plM R t)
  | 0 => MOk.zero hr
  | t + 1 => (plM_ok hr t).tckA hr t
end Go.Proofs.Ytmahagcghpoekaa
namespace Go.Proofs.Ytmahagcghpoekaa
open Go.RowKit
set_option linter.unusedSimpArgs false
set_option linter.unusedVariables false
theorem mem_pw_eq {α : Type} {R : α → α → Prop} (has : ∀ a b, R a b → ¬ R b a) : ∀ {a b : List α}, (∀ x, x ∈ a ↔ x ∈ b) → a.Pairwise R → b.Pairwise R → a = b
  | [], [], _, _, _ => rfl
  | [], y :: b, h, _, _ => absurd ((h y).2 (by simp)) (by simp)
  | x :: a, [], h, _, _ => absurd ((h x).1 (by simp)) (by simp)
  | x :: a, y :: b, h, ha, hb => by
    rw [List.pairwise_cons] at ha hb
    have e : x = y := by
      rcases List.mem_cons.1 ((h x).1 (by simp)) with e | h1
      · exact e
      · rcases List.mem_cons.1 ((h y).2 (by simp)) with e | h2
        · exact e.symm
        · exact absurd (hb.1 x h1) (has _ _ (ha.1 y h2))
    subst e
    have hn : ∀ {c : List α}, (∀ z ∈ c, R x z) → x ∉ c := fun hc hx => has _ _ (hc x hx) (hc x hx)
    rw [mem_pw_eq has (fun z => ?_) ha.2 hb.2]
    constructor
    · intro hz
      rcases List.mem_cons.1 ((h z).1 (by simp [hz])) with e | h1
      · subst e; exact absurd hz (hn ha.1)
      · exact h1
    · intro hz
      rcases List.mem_cons.1 ((h z).2 (by simp [hz])) with e | h1
      · subst e; exact absurd hz (hn hb.1)
      · exact h1
theorem filter_takeE {α : Type} {R : α → α → Prop} {p : α → Bool} (hm : ∀ a b, R a b → p b = true → p a = true) : ∀ l : List α, l.Pairwise R → l.filter p = l.take (l.filter p).length ∧ ∀ (i : Nat) (x : α), l[i]? = some x → (p x = true ↔ i < (l.filter p).length)
  | [], _ => ⟨rfl, fun i x h => by simp at h⟩
  | x :: l, h => by
    rw [List.pairwise_cons] at h
    obtain ⟨h1, h2⟩ := filter_takeE hm l h.2
    by_cases hx : p x = true
    · rw [List.filter_cons_of_pos hx]
      refine ⟨by rw [List.length_cons, List.take_succ_cons, ← h1], fun i y hi => ?_⟩
      cases i with
      | zero => simp at hi; subst hi; simp [hx]
      | succ i => rw [List.getElem?_cons_succ] at hi; rw [h2 i y hi, List.length_cons]; omega
    · have hn : l.filter p = [] := List.filter_eq_nil_iff.2 (fun y hy hp => hx (hm _ _ (h.1 y hy) hp))
      rw [List.filter_cons_of_neg hx, hn]
      refine ⟨rfl, fun i y hi => ?_⟩
      have hy : ¬ p y = true := by
        cases i with
        | zero => simp at hi; subst hi; exact hx
        | succ i =>
          rw [List.getElem?_cons_succ] at hi
          exact fun hp => hx (hm _ _ (h.1 y (List.mem_of_getElem? hi)) hp)
      simp [hy]
def relT (l : List P2) (k : Int) : Int := ((l[k.toNat]?).getD default).1 + ((l[k.toNat]?).getD default).2
theorem relT_of {l : List P2} {k : Nat} {e : P2} (h : l[k]? = some e) : relT l k = e.1 + e.2 := by simp [relT, h]
def ltE (l : List P2) (a b : Int) : Bool := decide (relT l a < relT l b)
/-- the order of the events -/
def ordE (l : List P2) : List Int := isortL (ltE l) (idxs l.length)
def Bef (l : List P2) (a b : Int) : Prop := relT l a < relT l b ∨ (relT l a = relT l b ∧ a < b)
theorem bef_asym {l : List P2} (a b : Int) (h : Bef l a b) : ¬ Bef l b a := by unfold Bef at *; omega
theorem ordE_perm (l : List P2) : (ordE l).Perm (idxs l.length) := isort_perm _ _
theorem ordE_len (l : List P2) : (ordE l).length = l.length := by rw [(ordE_perm l).length_eq, idxs_len]
theorem ordE_mem {l : List P2} {x : Int} : x ∈ ordE l ↔ 0 ≤ x ∧ x < l.length := by rw [(ordE_perm l).mem_iff, idxs_mem]
theorem ordE_pw (l : List P2) : (ordE l).Pairwise (Bef l) :=
  isort_pw (fun a b c h k => by unfold Bef at *; omega) (fun a b h => .inl (by simpa [ltE] using h)) ((idxs_pw _).imp (fun {a b} hab h => by
    have h2 : ¬ relT l b < relT l a := by simpa [ltE] using h
    unfold Bef; omega))
/-- those that have been released -/
def outE (l : List P2) (t : Int) : List Int := (ordE l).filter (fun k => decide (relT l k ≤ t))
theorem outE_facts (l : List P2) (t : Int) : outE l t = (ordE l).take (outE l t).length ∧ ∀ (i : Nat) (x : Int), (ordE l)[i]? = some x → (relT l x ≤ t ↔ i < (outE l t).length) := by
  have := filter_takeE (R := Bef l) (p := fun k => decide (relT l k ≤ t)) (fun a b h k => by simp at k ⊢; unfold Bef at h; omega) (ordE l) (ordE_pw l)
  refine ⟨this.1, fun i x h => ?_⟩
  have h2 := this.2 i x h
  rw [decide_eq_true_iff] at h2
  exact h2
theorem outE_mem {l : List P2} {t x : Int} : x ∈ outE l t ↔ (0 ≤ x ∧ x < l.length) ∧ relT l x ≤ t := by
  unfold outE; rw [List.mem_filter, ordE_mem]; simp
theorem relK_mem {t x : Int} : ∀ (es : List P2) (k : Nat), x ∈ relK t k es ↔ ∃ j : Nat, x = ((k + j : Nat) : Int) ∧ ∃ e, es[j]? = some e ∧ e.1 + e.2 = t
  | [], k => by simp [relK]
  | e :: es, k => by
    rw [relK, List.mem_append, relK_mem es (k + 1)]
    constructor
    · rintro (h | ⟨j, rfl, e', h1, h2⟩)
      · split at h
        · rename_i he
          simp at h
          exact ⟨0, by simpa using h, e, rfl, he⟩
        · simp at h
      · exact ⟨j + 1, by omega, e', by simpa using h1, h2⟩
    · rintro ⟨j, rfl, e', h1, h2⟩
      cases j with
      | zero => simp at h1; subst h1; left; rw [if_pos h2]; simp
      | succ j => right; exact ⟨j, by omega, e', by simpa using h1, h2⟩
theorem relK_pw {t : Int} : ∀ (es : List P2) (k : Nat), (relK t k es).Pairwise (· < ·)
  | [], k => List.Pairwise.nil
  | e :: es, k => by
    rw [relK]
    refine List.pairwise_append.2 ⟨by split <;> simp, relK_pw es (k + 1), fun a ha b hb => ?_⟩
    obtain ⟨j, rfl, _⟩ := (relK_mem es (k + 1)).1 hb
    split at ha
    · simp at ha; subst ha; omega
    · simp at ha
theorem relK_iff {l : List P2} {t x : Int} : x ∈ relK t 0 l ↔ (0 ≤ x ∧ x < l.length) ∧ relT l x = t := by
  rw [relK_mem]
  constructor
  · rintro ⟨j, rfl, e, h1, h2⟩
    have := (List.getElem?_eq_some_iff.1 h1).1
    rw [Nat.zero_add]
    exact ⟨⟨by omega, by omega⟩, by rw [relT_of h1]; exact h2⟩
  · rintro ⟨⟨h1, h2⟩, h3⟩
    obtain ⟨n, rfl⟩ := Int.eq_ofNat_of_zero_le h1
    have hn : n < l.length := by omega
    refine ⟨n, by simp, l[n], List.getElem?_eq_getElem hn, ?_⟩
    rw [relT_of (List.getElem?_eq_getElem hn)] at h3; exact h3
theorem outE_step (l : List P2) (t : Int) : outE l t = outE l (t - 1) ++ relK t 0 l := by
  refine mem_pw_eq bef_asym (fun x => ?_) ((ordE_pw l).filter _) (List.pairwise_append.2 ⟨(ordE_pw l).filter _, ?_, fun a ha b hb => ?_⟩)
  · rw [List.mem_append, outE_mem, outE_mem, relK_iff]
    constructor
    · rintro ⟨h1, h2⟩
      by_cases e : relT l x = t
      · exact .inr ⟨h1, e⟩
      · exact .inl ⟨h1, by omega⟩
    · rintro (⟨h1, h2⟩ | ⟨h1, h2⟩)
      · exact ⟨h1, by omega⟩
      · exact ⟨h1, by omega⟩
  · refine List.Pairwise.imp_of_mem (fun {a b} ha hb hab => ?_) (relK_pw l 0)
    have h1 := (relK_iff.1 ha).2
    have h2 := (relK_iff.1 hb).2
    exact .inr ⟨by omega, hab⟩
  · have h1 := (outE_mem.1 ha).2
    have h2 := (relK_iff.1 hb).2
    exact .inl (by omega)
theorem outE_none {l : List P2} (h : ∀ e ∈ l, 0 ≤ e.1 ∧ 0 ≤ e.2) {t : Int} (ht : t < 0) : outE l t = [] := by
  apply List.filter_eq_nil_iff.2
  intro x hx hh
  obtain ⟨h1, h2⟩ := ordE_mem.1 hx
  obtain ⟨n, rfl⟩ := Int.eq_ofNat_of_zero_le h1
  have hn : n < l.length := by omega
  have := h _ (List.getElem_mem hn)
  rw [relT_of (List.getElem?_eq_getElem hn)] at hh
  simp at hh; omega
def evA (R : Rn) (i : Nat) : List P2 := (R.ev[i]?).getD []
/-- the queues against the reference's places in the order -/
structure QR (R : Rn) (t : Int) (s : Ms) (at_ : List Nat) : Prop where
  len : at_.length = R.L.length
  q : ∀ i a, at_[i]? = some a → s.qa i = (outE (evA R i) t).drop a ∧ a ≤ (outE (evA R i) t).length
section
variable {R : Rn} {t : Int} {s : Ms} {at_ : List Nat}
theorem QR.rel (h : QR R (t - 1) s at_) (hr : RnOk R) (hm : MOk R s) : QR R t (relA t 0 R.ev s) at_ := by
  obtain ⟨h1, h2, h3⟩ := relA_spec t R.ev 0 s (by rw [hm.ql, hr.ev]; omega)
  refine ⟨h.len, fun i a ha => ?_⟩
  obtain ⟨g1, g2⟩ := h.q i a ha
  rw [h3 i, if_pos (Nat.zero_le _), Nat.sub_zero, g1, outE_step (evA R i) t]
  refine ⟨?_, by rw [List.length_append]; omega⟩
  rw [List.drop_append_of_le_length g2]; rfl
theorem QR.of (h : QR R t s at_) {s' : Ms} (hq : s'.q = s.q) : QR R t s' at_ := ⟨h.len, fun i a ha => by
  have : s'.qa i = s.qa i := by unfold Ms.qa; rw [hq]
  rw [this]; exact h.q i a ha⟩
theorem QR.fin (h : QR R t s at_) (hm : MOk R s) {i a : Nat} (ha : at_[i]? = some a) (hq : s.qa i ≠ []) (m how : Int) : QR R t (fin1 m i how s) (at_.set i (a + 1)) := by
  have hi := (List.getElem?_eq_some_iff.1 ha).1
  have hil : i < R.L.length := by rw [← h.len]; exact hi
  obtain ⟨g1, g2⟩ := h.q i a ha
  refine ⟨by simp [h.len], fun k b hb => ?_⟩
  rw [fin_qa (by rw [hm.ql]; exact hil)]
  rw [List.getElem?_set] at hb
  by_cases e : i = k
  · subst e
    rw [if_pos rfl, if_pos hi] at hb
    simp at hb; subst hb
    rw [if_pos rfl, g1, List.tail_drop]
    refine ⟨rfl, ?_⟩
    rw [g1] at hq
    by_cases e2 : a = (outE (evA R i) t).length
    · rw [e2, List.drop_length] at hq; exact absurd rfl hq
    · omega
  · rw [if_neg e] at hb
    rw [if_neg (fun q => e q.symm)]
    exact h.q k b hb
/-- is a job ready? -/
theorem QR.ready (h : QR R t s at_) {i a : Nat} (ha : at_[i]? = some a) : s.qa i ≠ [] ↔ ∃ x, (ordE (evA R i))[a]? = some x ∧ relT (evA R i) x ≤ t := by
  obtain ⟨g1, g2⟩ := h.q i a ha
  obtain ⟨f1, f2⟩ := outE_facts (evA R i) t
  rw [g1]
  constructor
  · intro hne
    have hlt : a < (outE (evA R i) t).length := by
      by_cases e : a < (outE (evA R i) t).length
      · exact e
      · exact absurd (List.drop_of_length_le (by omega)) hne
    have hl2 : a < (ordE (evA R i)).length := Nat.lt_of_lt_of_le hlt (by unfold outE; exact List.length_filter_le _ _)
    exact ⟨_, List.getElem?_eq_getElem hl2, (f2 a _ (List.getElem?_eq_getElem hl2)).2 hlt⟩
  · rintro ⟨x, hx, hle⟩ hn
    have := (f2 a x hx).1 hle
    have h2 := congrArg List.length hn
    rw [List.length_drop] at h2
    simp at h2
    omega
theorem QR.event (h : QR R t s at_) {i a : Nat} (ha : at_[i]? = some a) (hq : s.qa i ≠ []) : (ordE (evA R i))[a]? = some (s.hd i) := by
  obtain ⟨x, hx, hle⟩ := (h.ready ha).1 hq
  obtain ⟨g1, g2⟩ := h.q i a ha
  obtain ⟨f1, f2⟩ := outE_facts (evA R i) t
  have hlt := (f2 a x hx).1 hle
  rw [hx]
  have e : (outE (evA R i) t)[a]? = some x := by rw [f1, List.getElem?_take, if_pos hlt]; exact hx
  obtain ⟨_, e2⟩ := List.getElem?_eq_some_iff.1 e
  unfold Ms.hd
  rw [g1, List.drop_eq_getElem_cons hlt, e2]; rfl
end
end Go.Proofs.Ytmahagcghpoekaa
