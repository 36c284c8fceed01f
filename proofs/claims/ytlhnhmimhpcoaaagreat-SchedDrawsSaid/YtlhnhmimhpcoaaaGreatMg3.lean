/- The order of the reference's events, and the queues of the machine. No condition: plain lemmas. Rows of ints: what a call lays, reads and writes. No condition: plain lemmas. Several rows of ints that a call made, each in a block of its own; append to one of them. No condition: plain lemmas. The contracts of Tasks, Ahead, Ceiling of the reference. The conditions: the tasks read as named. The contracts of slices.SortStableFunc at less than 20 ints, at a row that the call made, and of cmp.Compare. The conditions: the row is the caller's own; the comparison leaves it alone. -/
import Derived.Test.YtlhnhmimhpcoaaaGreatMg2
import Derived.Test.YtlhnhmimhpcoaaaGreatMg1
import Derived.Laws.OwnMore
import Derived.OwnWalk
import Derived.BigRegion
namespace Go.Proofs.YtlhnhmimhpcoaaaGreat
open Go.RowKit
set_option linter.unusedSimpArgs false
set_option linter.unusedVariables false
theorem mem_pw_eq {α : Type} {R : α → α → Prop} (has : ∀ a b, R a b → ¬ R b a) : ∀ {a b : List α}, (∀ x, x ∈ a ↔ x ∈ b) → a.Pairwise R → b.Pairwise R → a = b
  | [], [], _, _, _ => rfl
  | [], y :: b, h, _, _ => absurd ((h y).2 (by simp)) (by simp)
  | x :: a, [], h, _, _ => absurd ((h x).1 (by simp)) (by simp)
  | x :: a, y :: b, h, ha, hb => by
    rw [List.pairwise_cons] at ha hb
    have e : x = y := by
      rcases List.mem_cons.1 ((h x).1 (by simp)) with e | h1
      · exact e
      · rcases List.mem_cons.1 ((h y).2 (by simp)) with e | h2
        · exact e.symm
        · exact absurd (hb.1 x h1) (has _ _ (ha.1 y h2))
    subst e
    have hn : ∀ {c : List α}, (∀ z ∈ c, R x z) → x ∉ c := fun hc hx => has _ _ (hc x hx) (hc x hx)
    rw [mem_pw_eq has (fun z => ?_) ha.2 hb.2]
    constructor
    · intro hz
      rcases List.mem_cons.1 ((h z).1 (by simp [hz])) with e | h1
      · subst e; exact absurd hz (hn ha.1)
      · exact h1
    · intro hz
      rcases List.mem_cons.1 ((h z).2 (by simp [hz])) with e | h1
      · subst e; exact absurd hz (hn hb.1)
      · exact h1
theorem filter_takeE {α : Type} {R : α → α → Prop} {p : α → Bool} (hm : ∀ a b, R a b → p b = true → p a = true) : ∀ l : List α, l.Pairwise R → l.filter p = l.take (l.filter p).length ∧ ∀ (i : Nat) (x : α), l[i]? = some x → (p x = true ↔ i < (l.filter p).length)
  | [], _ => ⟨rfl, fun i x h => by simp at h⟩
  | x :: l, h => by
    rw [List.pairwise_cons] at h
    obtain ⟨h1, h2⟩ := filter_takeE hm l h.2
    by_cases hx : p x = true
    · rw [List.filter_cons_of_pos hx]
      refine ⟨by rw [List.length_cons, List.take_succ_cons, ← h1], fun i y hi => ?_⟩
      cases i with
      | zero => simp at hi; subst hi; simp [hx]
      | succ i => rw [List.getElem?_cons_succ] at hi; rw [h2 i y hi, List.length_cons]; omega
    · have hn : l.filter p = [] := List.filter_eq_nil_iff.2 (fun y hy hp => hx (hm _ _ (h.1 y hy) hp))
      rw [List.filter_cons_of_neg hx, hn]
      refine ⟨rfl, fun i y hi => ?_⟩
      have hy : ¬ p y = true := by
        cases i with
        | zero => simp at hi; subst hi; exact hx
        | succ i =>
          rw [List.getElem?_cons_succ] at hi
          exact fun hp => hx (hm _ _ (h.1 y (List.mem_of_getElem? hi)) hp)
      simp [hy]
def relT (l : List P2) (k : Int) : Int := ((l[k.toNat]?).getD default).1 + ((l[k.toNat]?).getD default).2
theorem relT_of {l : List P2} {k : Nat} {e : P2} (h : l[k]? = some e) : relT l k = e.1 + e.2 := by simp [relT, h]
def ltE (l : List P2) (a b : Int) : Bool := decide (relT l a < relT l b)
/-- the order of the events -/
def ordE (l : List P2) : List Int := isortL (ltE l) (idxs l.length)
def Bef (l : List P2) (a b : Int) : Prop := relT l a < relT l b ∨ (relT l a = relT l b ∧ a < b)
theorem bef_asym {l : List P2} (a b : Int) (h : Bef l a b) : ¬ Bef l b a := by unfold Bef at *; omega
theorem ordE_perm (l : List P2) : (ordE l).Perm (idxs l.length) := isort_perm _ _
theorem ordE_len (l : List P2) : (ordE l).length = l.length := by rw [(ordE_perm l).length_eq, idxs_len]
theorem ordE_mem {l : List P2} {x : Int} : x ∈ ordE l ↔ 0 ≤ x ∧ x < l.length := by rw [(ordE_perm l).mem_iff, idxs_mem]
theorem ordE_pw (l : List P2) : (ordE l).Pairwise (Bef l) :=
  isort_pw (fun a b c h k => by unfold Bef at *; omega) (fun a b h => .inl (by simpa [ltE] using h)) ((idxs_pw _).imp (fun {a b} hab h => by
    have h2 : ¬ relT l b < relT l a := by simpa [ltE] using h
    unfold Bef; omega))
/-- those that have been released -/
def outE (l : List P2) (t : Int) : List Int := (ordE l).filter (fun k => decide (relT l k ≤ t))
theorem outE_facts (l : List P2) (t : Int) : outE l t = (ordE l).take (outE l t).length ∧ ∀ (i : Nat) (x : Int), (ordE l)[i]? = some x → (relT l x ≤ t ↔ i < (outE l t).length) := by
  have := filter_takeE (R := Bef l) (p := fun k => decide (relT l k ≤ t)) (fun a b h k => by simp at k ⊢; unfold Bef at h; omega) (ordE l) (ordE_pw l)
  refine ⟨this.1, fun i x h => ?_⟩
  have h2 := this.2 i x h
  rw [decide_eq_true_iff] at h2
  exact h2
theorem outE_mem {l : List P2} {t x : Int} : x ∈ outE l t ↔ (0 ≤ x ∧ x < l.length) ∧ relT l x ≤ t := by
  unfold outE; rw [List.mem_filter, ordE_mem]; simp
theorem relK_mem {t x : Int} : ∀ (es : List P2) (k : Nat), x ∈ relK t k es ↔ ∃ j : Nat, x = ((k + j : Nat) : Int) ∧ ∃ e, es[j]? = some e ∧ e.1 + e.2 = t
  | [], k => by simp [relK]
  | e :: es, k => by
    rw [relK, List.mem_append, relK_mem es (k + 1)]
    constructor
    · rintro (h | ⟨j, rfl, e', h1, h2⟩)
      · split at h
        · rename_i he
          simp at h
          exact ⟨0, by simpa using h, e, rfl, he⟩
        · simp at h
      · exact ⟨j + 1, by omega, e', by simpa using h1, h2⟩
    · rintro ⟨j, rfl, e', h1, h2⟩
      cases j with
      | zero => simp at h1; subst h1; left; rw [if_pos h2]; simp
      | succ j => right; exact ⟨j, by omega, e', by simpa using h1, h2⟩
theorem relK_pw {t : Int} : ∀ (es : List P2) (k : Nat), (relK t k es).Pairwise (· < ·)
  | [], k => List.Pairwise.nil
  | e :: es, k => by
    rw [relK]
    refine List.pairwise_append.2 ⟨by split <;> simp, relK_pw es (k + 1), fun a ha b hb => ?_⟩
    obtain ⟨j, rfl, _⟩ := (relK_mem es (k + 1)).1 hb
    split at ha
    · simp at ha; subst ha; omega
    · simp at ha
theorem relK_iff {l : List P2} {t x : Int} : x ∈ relK t 0 l ↔ (0 ≤ x ∧ x < l.length) ∧ relT l x = t := by
  rw [relK_mem]
  constructor
  · rintro ⟨j, rfl, e, h1, h2⟩
    have := (List.getElem?_eq_some_iff.1 h1).1
    rw [Nat.zero_add]
    exact ⟨⟨by omega, by omega⟩, by rw [relT_of h1]; exact h2⟩
  · rintro ⟨⟨h1, h2⟩, h3⟩
    obtain ⟨n, rfl⟩ := Int.eq_ofNat_of_zero_le h1
    have hn : n < l.length := by omega
    refine ⟨n, by simp, l[n], List.getElem?_eq_getElem hn, ?_⟩
    rw [relT_of (List.getElem?_eq_getElem hn)] at h3; exact h3
theorem outE_step (l : List P2) (t : Int) : outE l t = outE l (t - 1) ++ relK t 0 l := by
  refine mem_pw_eq bef_asym (fun x => ?_) ((ordE_pw l).filter _) (List.pairwise_append.2 ⟨(ordE_pw l).filter _, ?_, fun a ha b hb => ?_⟩)
  · rw [List.mem_append, outE_mem, outE_mem, relK_iff]
    constructor
    · rintro ⟨h1, h2⟩
      by_cases e : relT l x = t
      · exact .inr ⟨h1, e⟩
      · exact .inl ⟨h1, by omega⟩
    · rintro (⟨h1, h2⟩ | ⟨h1, h2⟩)
      · exact ⟨h1, by omega⟩
      · exact ⟨h1, by omega⟩
  · refine List.Pairwise.imp_of_mem (fun {a b} ha hb hab => ?_) (relK_pw l 0)
    have h1 := (relK_iff.1 ha).2
    have h2 := (relK_iff.1 hb).2
    exact .inr ⟨by omega, hab⟩
  · have h1 := (outE_mem.1 ha).2
    have h2 := (relK_iff.1 hb).2
    exact .inl (by omega)
theorem outE_none {l : List P2} (h : ∀ e ∈ l, 0 ≤ e.1 ∧ 0 ≤ e.2) {t : Int} (ht : t < 0) : outE l t = [] := by
  apply List.filter_eq_nil_iff.2
  intro x hx hh
  obtain ⟨h1, h2⟩ := ordE_mem.1 hx
  obtain ⟨n, rfl⟩ := Int.eq_ofNat_of_zero_le h1
  have hn : n < l.length := by omega
  have := h _ (List.getElem_mem hn)
  rw [relT_of (List.getElem?_eq_getElem hn)] at hh
  simp at hh; omega
def evA (R : Rn) (i : Nat) : List P2 := (R.ev[i]?).getD []
/-- the queues against the reference's places in the order -/
structure QR (R : Rn) (t : Int) (s : Ms) (at_ : List Nat) : Prop where
  len : at_.length = R.L.length
  q : ∀ i a, at_[i]? = some a → s.qa i = (outE (evA R i) t).drop a ∧ a ≤ (outE (evA R i) t).length
section
variable {R : Rn} {t : Int} {s : Ms} {at_ : List Nat}
theorem QR.rel (h : QR R (t - 1) s at_) (hr : RnOk R) (hm : MOk R s) : QR R t (relA t 0 R.ev s) at_ := by
  obtain ⟨h1, h2, h3⟩ := relA_spec t R.ev 0 s (by rw [hm.ql, hr.ev]; omega)
  refine ⟨h.len, fun i a ha => ?_⟩
  obtain ⟨g1, g2⟩ := h.q i a ha
  rw [h3 i, if_pos (Nat.zero_le _), Nat.sub_zero, g1, outE_step (evA R i) t]
  refine ⟨?_, by rw [List.length_append]; omega⟩
  rw [List.drop_append_of_le_length g2]; rfl
theorem QR.of (h : QR R t s at_) {s' : Ms} (hq : s'.q = s.q) : QR R t s' at_ := ⟨h.len, fun i a ha => by
  have : s'.qa i = s.qa i := by unfold Ms.qa; rw [hq]
  rw [this]; exact h.q i a ha⟩
theorem QR.fin (h : QR R t s at_) (hm : MOk R s) {i a : Nat} (ha : at_[i]? = some a) (hq : s.qa i ≠ []) (m how : Int) : QR R t (fin1 m i how s) (at_.set i (a + 1)) := by
  have hi := (List.getElem?_eq_some_iff.1 ha).1
  have hil : i < R.L.length := by rw [← h.len]; exact hi
  obtain ⟨g1, g2⟩ := h.q i a ha
  refine ⟨by simp [h.len], fun k b hb => ?_⟩
  rw [fin_qa (by rw [hm.ql]; exact hil)]
  rw [List.getElem?_set] at hb
  by_cases e : i = k
  · subst e
    rw [if_pos rfl, if_pos hi] at hb
    simp at hb; subst hb
    rw [if_pos rfl, g1, List.tail_drop]
    refine ⟨rfl, ?_⟩
    rw [g1] at hq
    by_cases e2 : a = (outE (evA R i) t).length
    · rw [e2, List.drop_length] at hq; exact absurd rfl hq
    · omega
  · rw [if_neg e] at hb
    rw [if_neg (fun q => e q.symm)]
    exact h.q k b hb
/-- is a job ready? -/
theorem QR.ready (h : QR R t s at_) {i a : Nat} (ha : at_[i]? = some a) : s.qa i ≠ [] ↔ ∃ x, (ordE (evA R i))[a]? = some x ∧ relT (evA R i) x ≤ t := by
  obtain ⟨g1, g2⟩ := h.q i a ha
  obtain ⟨f1, f2⟩ := outE_facts (evA R i) t
  rw [g1]
  constructor
  · intro hne
    have hlt : a < (outE (evA R i) t).length := by
      by_cases e : a < (outE (evA R i) t).length
      · exact e
      · exact absurd (List.drop_of_length_le (by omega)) hne
    have hl2 : a < (ordE (evA R i)).length := Nat.lt_of_lt_of_le hlt (by unfold outE; exact List.length_filter_le _ _)
    exact ⟨_, List.getElem?_eq_getElem hl2, (f2 a _ (List.getElem?_eq_getElem hl2)).2 hlt⟩
  · rintro ⟨x, hx, hle⟩ hn
    have := (f2 a x hx).1 hle
    have h2 := congrArg List.length hn
    rw [List.length_drop] at h2
    simp at h2
    omega
theorem QR.event (h : QR R t s at_) {i a : Nat} (ha : at_[i]? = some a) (hq : s.qa i ≠ []) : (ordE (evA R i))[a]? = some (s.hd i) := by
  obtain ⟨x, hx, hle⟩ := (h.ready ha).1 hq
  obtain ⟨g1, g2⟩ := h.q i a ha
  obtain ⟨f1, f2⟩ := outE_facts (evA R i) t
  have hlt := (f2 a x hx).1 hle
  rw [hx]
  have e : (outE (evA R i) t)[a]? = some x := by rw [f1, List.getElem?_take, if_pos hlt]; exact hx
  obtain ⟨_, e2⟩ := List.getElem?_eq_some_iff.1 e
  unfold Ms.hd
  rw [g1, List.drop_eq_getElem_cons hlt, e2]; rfl
end
end Go.Proofs.YtlhnhmimhpcoaaaGreat
namespace Go.Proofs.YtlhnhmimhpcoaaaGreat
open Go.RowKit
set_option linter.unusedSimpArgs false
set_option linter.unusedVariables false
theorem E1 : Elt Tryz.prog 26 3 1 8 := Elt.mk' (z := .int .i64 0) Tryz.underlying26 (by kernel_rfl) rfl (by decide)
theorem enc1_len (x : Int) : (enc1 x).length = 1 := rfl
theorem enc1_one (x : Int) : ∀ u ∈ enc1 x, u.oneCell' = true := by intro u hu; simp [enc1] at hu; rcases hu with rfl; rfl
def lenOf : Value → Nat
  | .slice _ n _ => n
  | _ => 0
def OutI (B : Nat) (w : World) (xs : List Int) (e : Ending) (w' : World) : Prop :=
  ∃ a n c, e = .returned (.slice a n c) ∧ w'.ownsRow B 3 1 (.slice a n c) n (xs.flatMap enc1) ∧ Below B w w'
theorem ownsI_rd {B : Nat} {w : World} {xs : List Int} {a : Option Addr} {n c : Nat} (h : w.ownsRow B 3 1 (.slice a n c) n (xs.flatMap enc1)) : Rd w a n 1 (xs.map enc1) := Rd.of_owns enc1_len (by decide) h
theorem ownsI_snoc {B : Nat} {w : World} {xs : List Int} {x : Int} {v : Value} {n : Nat} (h : w.ownsRow B 3 1 v n (xs.flatMap enc1 ++ [.int .i64 x])) : w.ownsRow B 3 1 v n ((xs ++ [x]).flatMap enc1) := by
  rw [List.flatMap_append]; exact h
/-- a list made by the call, and an error number -/
def OutIE (B : Nat) (w : World) (xs : List Int) (er : Int) (e : Ending) (w' : World) : Prop :=
  ∃ a n c, e = .returned (.tuple #[.slice a n c, .int .i64 er]) ∧ w'.ownsRow B 3 1 (.slice a n c) n (xs.flatMap enc1) ∧ Below B w w'
theorem OutIE.none {B : Nat} {w w' : World} {er : Int} (hb : Below B w w') : OutIE B w [] er (.returned (.tuple #[.slice none 0 0, .int .i64 er])) w' := ⟨_, _, _, rfl, World.ownsRow_nil _ _ _ _, hb⟩
theorem owns_one (w : World) (x : Value) (T : TypeId) : (w.alloc (.cells #[x] T)).ownsRow w.heap.size T 1 (.slice (some ⟨w.heap.size, 0, none⟩) 1 1) 1 [x] :=
  ⟨rfl, .inr ⟨w.heap.size, 1, #[x], rfl, Nat.le_refl _, by show (w.heap.push _)[w.heap.size]? = _; simp, Nat.le_refl _, by decide, rfl, rfl⟩⟩
theorem owns_nil {w : World} {B e k n c : Nat} {a : Option Addr} {xs : List Value} (h : w.ownsRow B e k (.slice a n c) n xs) : n = 0 → (a = none ∧ c = 0) ∨ ∃ ad, a = some ad := by
  intro _
  rcases h.2 with ⟨hv, _⟩ | ⟨g, cap, cur, hv, _⟩
  · simp at hv; exact .inl ⟨hv.1, hv.2.2⟩
  · simp at hv; exact .inr ⟨_, hv.1⟩
theorem flat_enc1 (xs : List Int) : xs.flatMap enc1 = xs.map (Value.int .i64) := by
  induction xs with
  | nil => rfl
  | cons x xs ih => simp [enc1, ih]
/-- make([]int, n) -/
theorem wpList_mkI {ops : Array Oper} {rest : List Oper} {o : Oper} {a : Act} {Q : Exit → Act → World → Prop} {w : World} (hg : o.guard = none) (l c : Operand) (hop : o.op = Op.makeSlice 26 l c)
    {B : Nat} {kl kc : IntKind} {C D : Int} (n : Nat) (hl : a.eval l = .int kl D) (hc : a.eval c = .int kc C) (hD : D = (n : Int)) (hC : C = (n : Int)) (hn : n ≤ 100000000) (hB : B ≤ w.heap.size)
    (hK : ∀ w', w'.ownsRow B 3 1 (.slice (some ⟨w.heap.size, 0, none⟩) n n) n ((List.replicate n (0 : Int)).flatMap enc1) → Below B w w' → w.heap.size < w'.heap.size → wpList Tryz.prog ops Q rest (a.put o.dst (.slice (some ⟨w.heap.size, 0, none⟩) n n)) w') : wpList Tryz.prog ops Q (o :: rest) a w := by
  obtain ⟨i, h1, h2, h3, h4⟩ := info_parts (show (Tryz.prog.info? 3).map (fun i => (i.zero, i.size, i.bytes)) = some (some (.int .i64 0), 1, 8) by kernel_rfl)
  refine wpList_make_full w hg l c 26 hop B 3 i (.int .i64 0) 1 Tryz.underlying26 h1 h2 h3 kl kc D C n hl hc hD hC (by rw [h4]; omega) (by unfold maxLen; omega) hB fun w' q1 q2 => hK w' ?_ ((Below.refl B w).grown q2 hB (by simp)) ?_
  · rw [flat_enc1, List.map_replicate]
    have : (madeCells (Value.int IntKind.i64 0).cells (n * 1)).toList = List.replicate n (Value.int .i64 0) := by rw [Nat.mul_one]; exact toList_madeCells_one _ n
    rw [← this]; exact q1
  · rcases q1.2 with ⟨h, _⟩ | ⟨g, cap, cur, h, _, hh, _⟩
    · simp at h
    · simp at h; rw [h.1]; exact (Array.getElem?_eq_some_iff.1 hh).1
theorem ownsI_at {w : World} {B q n c : Nat} {xs : List Int} (h : w.ownsRow B 3 1 (.slice (some ⟨q, 0, none⟩) n c) n (xs.flatMap enc1)) (j : Nat) (hj : j < n) : ∃ x, xs[j]? = some x ∧ w.cell? ⟨q, j, none⟩ = some (.int .i64 x) ∧ w.frozen? ⟨q, j, none⟩ = false ∧ q < w.heap.size := by
  have hl : xs.length = n := (ownsI_rd h).length
  refine ⟨xs[j], by simp, ?_, h.frozenAt j, ?_⟩
  · rw [h.cellAt j (by omega), flat_enc1]; simp
  · rcases h.2 with ⟨h', _⟩ | ⟨g', cap', cur, h', _, hg, _⟩
    · simp at h'
    · simp at h'; rw [h'.1]; exact (Array.getElem?_eq_some_iff.1 hg).1
theorem ownsI_set {w : World} {B q n c : Nat} {xs : List Int} (h : w.ownsRow B 3 1 (.slice (some ⟨q, 0, none⟩) n c) n (xs.flatMap enc1)) (j : Nat) (x : Int) : (w.setCell ⟨q, j, none⟩ (.int .i64 x)).ownsRow B 3 1 (.slice (some ⟨q, 0, none⟩) n c) n ((xs.set j x).flatMap enc1) := by
  have := (h.stored j (.int .i64 x)).1
  rw [flat_enc1] at this ⊢
  rw [List.map_set]; exact this
theorem owns_far {w : World} {B e k n q j : Nat} {v : Value} {xs : List Value} (h : w.ownsRow B e k v n xs) (hq : q < B) (u : Value) : (w.setCell ⟨q, j, none⟩ u).ownsRow B e k v n xs := by
  refine ⟨h.1, h.2.imp id ?_⟩
  rintro ⟨g, cap, cur, hv, hg, hh, r⟩
  refine ⟨g, cap, cur, hv, hg, ?_, r⟩
  rw [heap_setCell_other w ⟨q, j, none⟩ g u (by simp only []; omega)]; exact hh
theorem get_of_drop {α : Type} {l r : List α} {j : Nat} {x : α} (h : l.drop j = x :: r) : l[j]? = some x := by
  have : (l.drop j)[0]? = some x := by rw [h]; rfl
  rw [List.getElem?_drop] at this; exact this
theorem take_of_drop {α : Type} {l r : List α} {j : Nat} {x : α} (h : l.drop j = x :: r) : l.take (j + 1) = l.take j ++ [x] := by
  rw [List.take_add_one, get_of_drop h]; rfl
theorem Rd.idx {w a n} {xs : List Int} (h : Rd w a n 1 (xs.map enc1)) (k : Nat) (hk : k < n) : ∃ (x : Int) (b off : Nat), a = some ⟨b, off, none⟩ ∧ b < w.heap.size ∧ w.cell? ⟨b, off + k, none⟩ = some (.int .i64 x) ∧ xs[k]? = some x := by
  obtain ⟨x, b, off, h1, h2, h3, HD⟩ := h.next1 k hk
  exact ⟨x, b, off, h1, h2, h3, get_of_drop HD.out⟩
def OutN (B n : Nat) (T k : Nat) (w : World) (xs : List Value) (e : Ending) (w' : World) : Prop :=
  ∃ a c, e = .returned (.slice a n c) ∧ w'.ownsRow B T k (.slice a n c) n xs ∧ Below B w w'
theorem owns_addr {w : World} {B e k n c : Nat} {a : Option Addr} {xs : List Value} (h : w.ownsRow B e k (.slice a n c) n xs) (hn : 0 < n) : ∃ g, a = some ⟨g, 0, none⟩ ∧ B ≤ g ∧ g < w.heap.size := by
  rcases h.2 with ⟨_, h8⟩ | ⟨g, cap, cur, hv, hB, hg, _⟩
  · omega
  · simp at hv; exact ⟨g, hv.1, hB, (Array.getElem?_eq_some_iff.1 hg).1⟩
end Go.Proofs.YtlhnhmimhpcoaaaGreat
namespace Go.Proofs.YtlhnhmimhpcoaaaGreat
open Go.RowKit
set_option linter.unusedSimpArgs false
set_option linter.unusedVariables false
structure Hdr where
  a : Option Addr
  n : Nat
  c : Nat
deriving Inhabited
abbrev sl (h : Hdr) : Value := .slice h.a h.n h.c
def updF {α : Type} (f : Nat → α) (i : Nat) (x : α) : Nat → α := fun j => if j = i then x else f j
theorem updF_same {α : Type} (f : Nat → α) (i : Nat) (x : α) : updF f i x i = x := by simp [updF]
theorem updF_other {α : Type} (f : Nat → α) {i j : Nat} (x : α) (h : j ≠ i) : updF f i x j = f j := by simp [updF, h]
structure IRows (B : Nat) (w : World) (N : Nat) (h : Nat → Hdr) (X : Nat → List Int) : Prop where
  own : ∀ i, i < N → w.ownsRow B 3 1 (sl (h i)) (h i).n ((X i).flatMap enc1)
  apart : ∀ i j, i < N → j < N → i ≠ j → (sl (h i)).ownBlock = none ∨ (sl (h i)).ownBlock ≠ (sl (h j)).ownBlock
theorem IRows.ext {B N : Nat} {w w' : World} {h X} (hR : IRows B w N h X) (hb : Below w.heap.size w w') : IRows B w' N h X := ⟨fun i hi => owns_ext (hR.own i hi) hb, hR.apart⟩
theorem IRows.far {B N : Nat} {w : World} {h X} (hR : IRows B w N h X) {q j : Nat} (hq : q < B) (u : Value) : IRows B (w.setCell ⟨q, j, none⟩ u) N h X := ⟨fun i hi => owns_far (hR.own i hi) hq u, hR.apart⟩
theorem IRows.len {B N : Nat} {w : World} {h X} (hR : IRows B w N h X) {i : Nat} (hi : i < N) : (X i).length = (h i).n := (ownsI_rd (hR.own i hi)).length
theorem IRows.push {B N : Nat} {w w' : World} {h X} (hR : IRows B w N h X) {i : Nat} (hi : i < N) {a' : Option Addr} {c' : Nat} {x : Int}
    (hown : w'.ownsRow B 3 1 (.slice a' ((h i).n + 1) c') ((h i).n + 1) ((X i ++ [x]).flatMap enc1)) (hg : w.grownBy w' (sl (h i)).ownBlock)
    (hb : (Value.slice a' ((h i).n + 1) c').ownBlock = (sl (h i)).ownBlock ∨ (Value.slice a' ((h i).n + 1) c').ownBlock = some w.heap.size) :
    IRows B w' N (updF h i ⟨a', (h i).n + 1, c'⟩) (updF X i (X i ++ [x])) := by
  have hlt : ∀ k, k < N → (sl (h k)).ownBlock ≠ some w.heap.size := fun k hk e => by
    have := ((hR.own k hk).lt _ e).2; omega
  refine ⟨fun k hk => ?_, fun k j hk hj hkj => ?_⟩
  · by_cases e : k = i
    · subst e; rw [updF_same, updF_same]; exact hown
    · rw [updF_other _ _ e, updF_other _ _ e]
      exact (hR.own k hk).kept hg (hR.apart k i hk hi e)
  · by_cases e : k = i
    · subst e
      rw [updF_same, updF_other _ _ (Ne.symm hkj)]
      rcases hb with hb | hb
      · rw [hb]; exact hR.apart k j hk hj hkj
      · rw [hb]; right; exact fun q => hlt j hj q.symm
    · by_cases e2 : j = i
      · subst e2
        rw [updF_same, updF_other _ _ e]
        rcases hb with hb | hb
        · rw [hb]; exact hR.apart k j hk hj hkj
        · rw [hb]; right; exact hlt k hk
      · rw [updF_other _ _ e, updF_other _ _ e2]; exact hR.apart k j hk hj hkj
theorem run_app2 {P : Program} {w : World} {t ty e k bytes B n m c : Nat} (E : Elt P t e k bytes) {v : Value} {xs news : List Value} {ad : Addr} (hown : w.ownsRow B e k v n xs)
    (hl : news.length = m * k) (hnews : ∀ j u, news[j]? = some u → w.cell? (ad.add j) = some u) (h1 : ∀ u ∈ news, u.oneCell' = true) (hn : n + m ≤ 100000000) (hm : 0 < m) (hby : bytes ≤ 1000) (hB : B ≤ w.heap.size) :
    ∃ a' c' w', (Builtin.append_ #[t, t] ty #[v, .slice (some ad) m c]).run P w = .ok (.slice a' (n + m) c') w' ∧ w'.ownsRow B e k (.slice a' (n + m) c') (n + m) (xs ++ news) ∧ w.grownBy w' v.ownBlock ∧ ((Value.slice a' (n + m) c').ownBlock = v.ownBlock ∨ (Value.slice a' (n + m) c').ownBlock = some w.heap.size) := by
  obtain ⟨i, z, h2, h3, h4, h5, h6⟩ := E.hi
  obtain ⟨v', w', hr, q1, q2, _, q3⟩ := run_append_own_at (P := P) w B t ty e i z k bytes E.ht h2 h3 h4 h5 h6 E.hk v n xs hown ad m c news hl hnews h1 (by unfold maxLen; omega) (by have : (n + m) * bytes ≤ 100000000 * 1000 := Nat.mul_le_mul hn hby; omega) hB
  rcases q1.2 with ⟨rfl, h8⟩ | ⟨g, cap, cur, rfl, h9⟩
  · omega
  · exact ⟨_, _, w', hr, q1, q2, q3⟩
theorem step_app2 {P : Program} {ops : Array Oper} {o : Oper} {a : Act} {w : World} {K : Act → World → Prop} {Q : Exit → Act → World → Prop} {EE : Prop} (hgd : o.guard = none) (s x : Operand) (t : TypeId)
    (ho : o.op = .call { callee := .builtin .append, args := #[s, x], argTypes := #[t, t] }) {e k bytes B n m c : Nat} (E : Elt P t e k bytes) {v : Value} {xs news : List Value} {ad : Addr}
    (hs : a.eval s = v) (hown : w.ownsRow B e k v n xs) (hx : a.eval x = .slice (some ad) m c) (hl : news.length = m * k) (hnews : ∀ j u, news[j]? = some u → w.cell? (ad.add j) = some u) (h1 : ∀ u ∈ news, u.oneCell' = true) (hn : n + m ≤ 100000000) (hm : 0 < m) (hby : bytes ≤ 1000) (hB : B ≤ w.heap.size)
    (h : ∀ a' c' w', w'.ownsRow B e k (.slice a' (n + m) c') (n + m) (xs ++ news) → w.grownBy w' v.ownBlock → ((Value.slice a' (n + m) c').ownBlock = v.ownBlock ∨ (Value.slice a' (n + m) c').ownBlock = some w.heap.size) → K (a.put o.dst (.slice a' (n + m) c')) w') :
    if Region.wanted o (yielded ops a.tmps) = true then Oper.wp P o a w K Q else EE := by
  have hw : Region.wanted o (yielded ops a.tmps) = true := by simp [Region.wanted, hgd]
  rw [if_pos hw]
  obtain ⟨a', c', w', hr, q1, q2, q3⟩ := run_app2 (P := P) (ty := o.type) E hown hl hnews h1 hn hm hby hB
  unfold Oper.wp execOp
  simp only [ho, resolve, invoke, builtin, Sem.run_bind, Sem.run_pure, Result.andThen_ok, List.map_toArray, List.map_cons, List.map_nil, hs, hx]
  rw [hr]
  exact h _ _ w' q1 q2 q3
/-- out = append(out, x), x built in the block ahead of it; where the new row lies -/
theorem wpList_push2 {P : Program} {ops : Array Oper} {rest : List Oper} {o : Oper} {a : Act} {Q : Exit → Act → World → Prop} {w : World} {T : TypeId} {arr : Array Value} (hgd : o.guard = none) (s x : Operand) (t : TypeId)
    (ho : o.op = .call { callee := .builtin .append, args := #[s, x], argTypes := #[t, t] }) {e k bytes B n c : Nat} (E : Elt P t e k bytes) {v : Value} {xs : List Value}
    (hs : a.eval s = v) (hown : w.ownsRow B e k v n xs) (hx : a.eval x = .slice (some ⟨w.heap.size, 0, none⟩) 1 c) (harr : arr.size = k) (h1 : ∀ u ∈ arr.toList, u.oneCell' = true)
    (hn : n ≤ 10000000) (hby : bytes ≤ 1000) (hB : B ≤ w.heap.size)
    (h : ∀ a' c' w', w'.ownsRow B e k (.slice a' (n + 1) c') (n + 1) (xs ++ arr.toList) → (w.alloc (.cells arr T)).grownBy w' v.ownBlock → ((Value.slice a' (n + 1) c').ownBlock = v.ownBlock ∨ (Value.slice a' (n + 1) c').ownBlock = some (w.heap.size + 1)) → wpList P ops Q rest (a.put o.dst (.slice a' (n + 1) c')) w') :
    wpList P ops Q (o :: rest) a (w.alloc (.cells arr T)) := by
  obtain ⟨i, z, h2, h3, h4, h5, h6⟩ := E.hi
  refine wpList_append_own_at (w.alloc (.cells arr T)) hgd s x t ho B e i z k bytes E.ht h2 h3 h4 h5 h6 E.hk v n xs hs (hown.alloc _) ⟨w.heap.size, 0, none⟩ 1 c arr.toList hx (by simpa using harr) ?_ h1 (by unfold maxLen; omega) ?_ (by simp; omega) ?_
  · intro j u hj
    have : (w.alloc (.cells arr T)).cell? ⟨w.heap.size, j, none⟩ = arr[j]? := World.cell?_alloc_new w arr T j
    have e : (⟨w.heap.size, 0, none⟩ : Addr).add j = ⟨w.heap.size, j, none⟩ := by unfold Addr.add; split <;> simp_all
    rw [e, this]; simpa using hj
  · have : (n + 1) * bytes ≤ 10000001 * 1000 := Nat.mul_le_mul (by omega) hby
    omega
  · intro v' w' hown' hg _ hw
    obtain ⟨hl, h7⟩ := hown'
    rcases h7 with ⟨_, h8⟩ | ⟨g, cap, cur, rfl, h9⟩
    · omega
    · exact h _ _ _ ⟨hl, .inr ⟨g, cap, cur, rfl, h9⟩⟩ hg (by simpa using hw)
end Go.Proofs.YtlhnhmimhpcoaaaGreat
namespace Go.Proofs.YtlhnhmimhpcoaaaGreat
open Go.RowKit
set_option linter.unusedSimpArgs false
set_option linter.unusedVariables false
theorem Rd.pc_at {w : World} {a : Option Addr} {n : Nat} {ps : List P2} (h : Rd w a n 2 (ps.map enc2)) (k : Nat) (hk : k < n) : ∃ (x y : Int) (b off : Nat), a = some ⟨b, off, none⟩ ∧ b < w.heap.size ∧
    w.cell? ⟨b, off + k * 2, none⟩ = some (.int .i64 x) ∧ w.cell? ⟨b, off + k * 2 + 1, none⟩ = some (.int .i64 y) ∧ ps[k]? = some (x, y) ∧ Hid (ps.drop k = (x, y) :: ps.drop (k + 1)) := by
  obtain ⟨hl, b, off, rfl, hb, h1, h2⟩ := h.two k hk
  exact ⟨_, _, b, off, rfl, hb, h1, h2, List.getElem?_eq_getElem hl, List.drop_eq_getElem_cons hl⟩
theorem priI_lt {L : List Ta} {k : Nat} {t : Ta} (h : L[k]? = some t) : priI L (k : Int) = t.pri := priI_of h
theorem rahead_any (a : Option Addr) (n c : Nat) (L : List Ta) (x y : Int) (w : World) (hL : RdL w a n L) (hx : 0 ≤ x ∧ x < n) (hy : 0 ≤ y ∧ y < n) :
    Calls Tryz.prog 90 #[.slice a n c, .int .i64 x, .int .i64 y] w fun e w' => e = .returned (.bool (aheadB L x y)) ∧ Below w.heap.size w w' := by
  obtain ⟨i, rfl⟩ := Int.eq_ofNat_of_zero_le hx.1
  obtain ⟨j, rfl⟩ := Int.eq_ofNat_of_zero_le hy.1
  have hi : i < n := by omega
  have hj : j < n := by omega
  obtain ⟨t, b, off, pa, pn, pc, rfl, hb, c0, _, _, _, _, _, _, _, hg, _⟩ := hL.at_ i hi
  obtain ⟨u, b2, off2, pa2, pn2, pc2, e2, _, d0, _, _, _, _, _, _, _, hg2, _⟩ := hL.at_ j hj
  simp at e2
  obtain ⟨rfl, rfl⟩ := e2
  have hs := hL.small
  obtain ⟨R, hR⟩ : ∃ R, aheadB L i j = R := ⟨_, rfl⟩
  rw [hR]
  have hA : aheadB L i j = true ↔ (u.pri < t.pri ∨ (t.pri = u.pri ∧ (i : Int) < (j : Int))) := by rw [aheadB_iff, Ahead, priI_of hg, priI_of hg2]
  rw [hR] at hA
  clear hL hx hy hg hg2
  by_cases h1 : u.pri < t.pri
  · obtain rfl : R = true := hA.2 (.inl h1)
    clear hR hA
    go_enter Tryz.func90, Tryz.ntmps90
    go_wp2_with (refine wp_region_later_lit (by kernel_rfl) (by kernel_rfl) ?_; (repeat (go_big_quiet_step (fail))); refine wpQuiet_nil ?_; intro w1 hb1)
    go_ret
    exact ⟨rfl, hb1⟩
  · have h1' : decide (u.pri < t.pri) = false := by simpa using h1
    by_cases h2 : t.pri = u.pri
    · have h2' : (t.pri == u.pri) = true := by simpa using h2
      have h3' : decide ((i : Int) < (j : Int)) = R := by
        cases R
        · exact decide_eq_false (fun q => by have := hA.2 (.inr ⟨h2, q⟩); simp at this)
        · exact decide_eq_true (by rcases hA.1 rfl with q | q; exact absurd q h1; exact q.2)
      have h3 : decide (i < j) = R := by rw [← h3', decide_eq_decide]; omega
      clear hR hA
      go_enter Tryz.func90, Tryz.ntmps90
      go_wp2_with (refine wp_region_later_lit (by kernel_rfl) (by kernel_rfl) ?_; (repeat (go_big_quiet_step (fail))); refine wpQuiet_nil ?_; intro w1 hb1)
      go_ret
      exact ⟨rfl, hb1⟩
    · have h2' : (t.pri == u.pri) = false := by simpa using h2
      obtain rfl : R = false := by
        cases R
        · rfl
        · rcases hA.1 rfl with q | q
          · exact absurd q h1
          · exact absurd q.1 h2
      clear hR hA
      go_enter Tryz.func90, Tryz.ntmps90
      go_wp2_with (refine wp_region_later_lit (by kernel_rfl) (by kernel_rfl) ?_; (repeat (go_big_quiet_step (fail))); refine wpQuiet_nil ?_; intro w1 hb1)
      go_ret
      exact ⟨rfl, hb1⟩
theorem rahead_is {a : Option Addr} {n c : Nat} {L : List Ta} {x y : Int} {w : World} {b : Bool} (hL : RdL w a n L) (hx : 0 ≤ x ∧ x < n) (hy : 0 ≤ y ∧ y < n) (h : aheadB L x y = b) :
    Calls Tryz.prog 90 #[.slice a n c, .int .i64 x, .int .i64 y] w fun e w' => e = .returned (.bool b) ∧ Below w.heap.size w w' := by subst h; exact rahead_any a n c L x y w hL hx hy
theorem pieceB_no {x y : Int} (h : x < 1 ∨ 200 < x ∨ y < -1 ∨ 6 ≤ y) : pieceB (x, y) = false := by
  unfold pieceB; rw [inB_eq, inB_eq]; simp; omega
theorem pieceB_yes {x y : Int} (h : ¬ (x < 1 ∨ 200 < x ∨ y < -1 ∨ 6 ≤ y)) : pieceB (x, y) = true := by
  unfold pieceB; rw [inB_eq, inB_eq]; simp; omega
theorem taskB_no {t : Ta} {n : Nat} (hn : t.pcs.length = n) (h : t.pri < 0 ∨ 99 < t.pri ∨ n < 1 ∨ 8 < n) : taskB t = false := by
  rw [taskB_eq hn, inB_eq, inB_eq]; simp; omega
theorem taskB_yes {t : Ta} {n : Nat} (hn : t.pcs.length = n) (h : ¬ (t.pri < 0 ∨ 99 < t.pri ∨ n < 1 ∨ 8 < n)) : taskB t = t.pcs.all pieceB := by
  rw [taskB_eq hn, inB_iff.2 (show (0 : Int) ≤ t.pri ∧ t.pri ≤ 99 by omega), inB_iff.2 (show (1 : Int) ≤ n ∧ (n : Int) ≤ 8 by omega)]; simp
set_option maxRecDepth 10000 in
set_option maxHeartbeats 2000000 in
theorem rTasks_any (a : Option Addr) (n c : Nat) (L : List Ta) (w : World) (hL : RdL w a n L) :
    Calls Tryz.prog 89 #[.slice a n c] w fun e w' => e = .returned (.bool (rightB L)) ∧ Below w.heap.size w w' := by
  have hll := hL.length
  have hs := hL.small
  obtain ⟨R, hR⟩ : ∃ R, rightB L = R := ⟨_, rfl⟩
  rw [hR]
  unfold rightB at hR
  rw [hll] at hR
  have HR := Lib.hid hL
  have HLL := Lib.hid hll
  clear hL hll
  by_cases h5 : 5 < n
  · have h5' : (5 : Int) < n := by omega
    obtain rfl : R = false := by rw [← hR, decide_eq_false (by omega), Bool.false_and]
    clear hR
    go_enter Tryz.func89, Tryz.ntmps89
    go_wp2
    go_ret
    exact ⟨rfl, Below.refl _ _⟩
  · have h5' : decide ((5 : Int) < n) = false := by simp; omega
    have h5'' : decide (5 < n) = false := by simp; omega
    rw [decide_eq_true (by omega), Bool.true_and] at hR
    have HA : Hid ((L.drop 0).all taskB = R) := Lib.hid hR
    clear hR h5
    go_enter Tryz.func89, Tryz.ntmps89
    go_wp2
    go_loopw [3] (fun i wr => ∃ k : Nat, k ≤ n ∧ i = .int .i64 k ∧ (L.drop k).all taskB = R ∧ Below w.heap.size w wr) (fun i _ => n - (intOf i).toNat)
    case atStart => exact ⟨0, Nat.zero_le _, rfl, HA.out, Below.refl _ _⟩
    case round =>
      obtain ⟨k, hk, rfl, he, hB⟩ := hrel
      have HE := Lib.hid he; have HB := Lib.hid hB
      clear he hB HA
      by_cases hlt : k < n
      · obtain ⟨t, b, off, pa, pn, pc, rfl, hb, c0, c1, c2, c3, c4, c5, hp, _, hg, HD⟩ := (HR.out.ext HB.out).at_ k hlt
        have hE := HE.out
        rw [HD.out, List.all_cons] at hE
        have hpl := hp.length
        have hps := hp.small
        have HPL := Lib.hid hpl
        have HP := Lib.hid hp
        clear hg HD hp
        by_cases q1 : t.pri < 0
        · obtain rfl : R = false := by rw [← hE, taskB_no hpl (by omega), Bool.false_and]
          clear hE hpl
          go_wp2
          go_ret
          exact ⟨rfl, HB.out⟩
        · have q1' : decide (t.pri < 0) = false := by simpa using q1
          by_cases q2 : 99 < t.pri
          · obtain rfl : R = false := by rw [← hE, taskB_no hpl (by omega), Bool.false_and]
            clear hE hpl
            go_wp2
            go_ret
            exact ⟨rfl, HB.out⟩
          · have q2' : decide (99 < t.pri) = false := by simpa using q2
            by_cases q3 : pn < 1
            · obtain rfl : R = false := by rw [← hE, taskB_no hpl (by omega), Bool.false_and]
              have q3' : (pn : Int) < 1 := by omega
              clear hE hpl
              go_wp2
              go_ret
              exact ⟨rfl, HB.out⟩
            · have q3' : decide ((pn : Int) < 1) = false := by simp; omega
              have q3'' : decide (pn < 1) = false := by simp; omega
              by_cases q4 : 8 < pn
              · obtain rfl : R = false := by rw [← hE, taskB_no hpl (by omega), Bool.false_and]
                have q4' : (8 : Int) < (pn : Int) := by omega
                clear hE hpl
                go_wp2
                go_ret
                exact ⟨rfl, HB.out⟩
              · have q4' : decide ((8 : Int) < (pn : Int)) = false := by simp; omega
                have q4'' : decide (8 < pn) = false := by simp; omega
                rw [taskB_yes hpl (by omega)] at hE
                have HA2 : Hid (((t.pcs.drop 0).all pieceB && (L.drop (k + 1)).all taskB) = R) := Lib.hid hE
                clear hE hpl q1 q2 q3 q4
                go_wp2
                go_loopw [4] (fun i wr' => ∃ j : Nat, j ≤ pn ∧ i = .int .i64 j ∧ ((t.pcs.drop j).all pieceB && (L.drop (k + 1)).all taskB) = R ∧ Below wr.heap.size wr wr') (fun i _ => pn - (intOf i).toNat)
                case atStart => exact ⟨0, Nat.zero_le _, rfl, HA2.out, Below.refl _ _⟩
                case round =>
                  obtain ⟨j, hj, rfl, he, hB2⟩ := hrel
                  have HE2 := Lib.hid he; have HB2 := Lib.hid hB2
                  have d5 := (hB2.cell (p := ⟨b, off + k * 6 + 5, none⟩) hb).trans c5
                  clear he hB2 HA2
                  by_cases hjt : j < pn
                  · obtain ⟨x, y, b1, off1, rfl, hb1, e1, e2, hpg, HD2⟩ := (HP.out.ext HB2.out).pc_at j hjt
                    have hE := HE2.out
                    rw [HD2.out, List.all_cons] at hE
                    clear hpg HD2
                    by_cases p1 : x < 1
                    · obtain rfl : R = false := by rw [← hE, pieceB_no (by omega)]; simp
                      clear hE
                      go_wp2
                      go_ret
                      exact ⟨rfl, Below.then HB.out (Below.alloc HB2.out HB2.out.size _)⟩
                    · have p1' : decide (x < 1) = false := by simpa using p1
                      by_cases p2 : 200 < x
                      · obtain rfl : R = false := by rw [← hE, pieceB_no (by omega)]; simp
                        clear hE
                        go_wp2
                        go_ret
                        exact ⟨rfl, Below.then HB.out (Below.alloc HB2.out HB2.out.size _)⟩
                      · have p2' : decide (200 < x) = false := by simpa using p2
                        by_cases p3 : y < -1
                        · obtain rfl : R = false := by rw [← hE, pieceB_no (by omega)]; simp
                          clear hE
                          go_wp2
                          go_ret
                          exact ⟨rfl, Below.then HB.out (Below.alloc HB2.out HB2.out.size _)⟩
                        · have p3' : decide (y < -1) = false := by simpa using p3
                          by_cases p4 : 6 ≤ y
                          · obtain rfl : R = false := by rw [← hE, pieceB_no (by omega)]; simp
                            clear hE
                            go_wp2
                            go_ret
                            exact ⟨rfl, Below.then HB.out (Below.alloc HB2.out HB2.out.size _)⟩
                          · have p4' : decide (6 ≤ y) = false := by simpa using p4
                            rw [pieceB_yes (by omega), Bool.true_and] at hE
                            have HE3 := Lib.hid hE
                            clear hE p1 p2 p3 p4
                            go_wp2
                            go_roundw
                            case rel => exact ⟨j + 1, by omega, by go_num, HE3.out, Below.alloc HB2.out HB2.out.size _⟩
                            case measure => simp [intOf]; omega
                  · have hE := HE2.out
                    rw [drop_end HPL.out (by omega), List.all_nil, Bool.true_and] at hE
                    have HE3 := Lib.hid hE
                    clear hE
                    go_wp2
                    go_roundw
                    case rel => exact ⟨k + 1, by omega, by go_num, HE3.out, Below.then HB.out HB2.out⟩
                    case measure => simp [intOf]; omega
      · have hE := HE.out
        rw [drop_end HLL.out (by omega), List.all_nil] at hE
        subst hE
        go_wp2
        go_ret
        exact ⟨rfl, HB.out⟩
theorem rTasks_is {a : Option Addr} {n c : Nat} {L : List Ta} {w : World} {b : Bool} (hL : RdL w a n L) (h : rightB L = b) : Calls Tryz.prog 89 #[.slice a n c] w fun e w' => e = .returned (.bool b) ∧ Below w.heap.size w w' := by subst h; exact rTasks_any a n c L w hL
theorem taAt_drop {L : List Ta} {k : Nat} {t : Ta} (h : L[k]? = some t) : taAt L (k : Int) = t := taAt_of h
theorem ceilFrom_step {L : List Ta} {lock : Int} {f i : Nat} {b R : Int} (h : ceilFrom L lock (f + 1) i b = R) : ceilFrom L lock f (i + 1) (ceilP L lock i b (taAt L i).pcs) = R := h
set_option maxRecDepth 10000 in
set_option maxHeartbeats 2000000 in
theorem rCeil_any (a : Option Addr) (n c : Nat) (L : List Ta) (lock : Int) (w : World) (hL : RdL w a n L) :
    Calls Tryz.prog 128 #[.slice a n c, .int .i64 lock] w fun e w' => e = .returned (.int .i64 (ceilG L lock)) ∧ Below w.heap.size w w' := by
  have hll := hL.length
  have hs := hL.small
  obtain ⟨R, hR⟩ : ∃ R, ceilG L lock = R := ⟨_, rfl⟩
  rw [hR]
  unfold ceilG at hR
  rw [hll] at hR
  have HR := Lib.hid hL
  have HA : Hid (ceilFrom L lock (n - 0) 0 (-1) = R) := Lib.hid hR
  clear hL hll hR
  go_enter Tryz.func128, Tryz.ntmps128
  go_wp2
  go_loopw [5, 6] (fun v i wr => ∃ (k : Nat) (b : Int), k ≤ n ∧ v = .int .i64 b ∧ i = .int .i64 k ∧ -1 ≤ b ∧ b < n ∧ ceilFrom L lock (n - k) k b = R ∧ Below w.heap.size w wr) (fun _ i _ => n - (intOf i).toNat)
  case atStart => exact ⟨0, -1, Nat.zero_le _, rfl, rfl, by omega, by omega, HA.out, Below.refl _ _⟩
  case round =>
    obtain ⟨k, bst, hk, rfl, rfl, hb0, hb1, he, hB⟩ := hrel
    have HE := Lib.hid he; have HB := Lib.hid hB
    clear he hB HA
    by_cases hlt : k < n
    · obtain ⟨t, b, off, pa, pn, pc, rfl, hb, c0, c1, c2, c3, c4, c5, hp, _, hg, HD⟩ := (HR.out.ext HB.out).at_ k hlt
      have hE := ceilFrom_step (f := n - (k + 1)) (i := k) (b := bst) (L := L) (lock := lock) (R := R) (by rw [show n - (k + 1) + 1 = n - k by omega]; exact HE.out)
      rw [taAt_drop hg] at hE
      have hps := hp.small
      have HPL := Lib.hid hp.length
      have HP := Lib.hid hp
      have HA2 : Hid (ceilFrom L lock (n - (k + 1)) (k + 1) (ceilP L lock k bst (t.pcs.drop 0)) = R) := Lib.hid hE
      clear hg HD hp hE HE
      go_wp2
      go_loopw [5, 7] (fun v i wr' => ∃ (j : Nat) (b : Int), j ≤ pn ∧ v = .int .i64 b ∧ i = .int .i64 j ∧ -1 ≤ b ∧ b < n ∧ ceilFrom L lock (n - (k + 1)) (k + 1) (ceilP L lock k b (t.pcs.drop j)) = R ∧ Below wr.heap.size wr wr') (fun _ i _ => pn - (intOf i).toNat)
      case atStart => exact ⟨0, bst, Nat.zero_le _, rfl, rfl, hb0, hb1, HA2.out, Below.refl _ _⟩
      case round =>
        obtain ⟨j, bs2, hj, rfl, rfl, hd0, hd1, he, hB2⟩ := hrel
        have HE2 := Lib.hid he; have HB2 := Lib.hid hB2
        have d5 := (hB2.cell (p := ⟨b, off + k * 6 + 5, none⟩) hb).trans c5
        clear he hB2 HA2
        by_cases hjt : j < pn
        · obtain ⟨x, y, b1, off1, rfl, hbb, e1, e2, hpg, HD2⟩ := (HP.out.ext HB2.out).pc_at j hjt
          have hE := HE2.out
          rw [HD2.out, ceilP] at hE
          simp only [] at hE
          clear hpg HD2
          by_cases p1 : y = lock
          · have p1' : (y == lock) = true := by simpa using p1
            by_cases p2 : bs2 < 0
            · rw [if_pos ⟨p1, .inl p2⟩] at hE
              have HE3 := Lib.hid hE
              clear hE p1
              go_wp2
              go_roundw
              case rel => exact ⟨j + 1, k, by omega, rfl, by go_num, by omega, by omega, HE3.out, HB2.out⟩
              case measure => simp [intOf]; omega
            · have p2' : decide (bs2 < 0) = false := by simpa using p2
              cases hq : aheadB L k bs2
              · rw [if_neg (by rw [hq]; rintro ⟨_, q | q⟩; exact p2 q; simp at q)] at hE
                have HE3 := Lib.hid hE; have HQ := Lib.hid hq
                clear hE p1 hq
                go_wp2_with (go_at_call 90; (with_reducible refine (rahead_is ((HR.out.ext HB.out).ext HB2.out) ⟨by omega, by omega⟩ ⟨by omega, by omega⟩ HQ.out).mono ?_); rintro e w1 ⟨rfl, hb1⟩)
                go_roundw
                case rel => exact ⟨j + 1, bs2, by omega, rfl, by go_num, by omega, by omega, HE3.out, Below.then HB2.out hb1⟩
                case measure => simp [intOf]; omega
              · rw [if_pos ⟨p1, .inr hq⟩] at hE
                have HE3 := Lib.hid hE; have HQ := Lib.hid hq
                clear hE p1 hq
                go_wp2_with (go_at_call 90; (with_reducible refine (rahead_is ((HR.out.ext HB.out).ext HB2.out) ⟨by omega, by omega⟩ ⟨by omega, by omega⟩ HQ.out).mono ?_); rintro e w1 ⟨rfl, hb1⟩)
                go_roundw
                case rel => exact ⟨j + 1, k, by omega, rfl, by go_num, by omega, by omega, HE3.out, Below.then HB2.out hb1⟩
                case measure => simp [intOf]; omega
          · have p1' : (y == lock) = false := by simpa using p1
            rw [if_neg (fun q => p1 q.1)] at hE
            have HE3 := Lib.hid hE
            clear hE p1
            go_wp2
            go_roundw
            case rel => exact ⟨j + 1, bs2, by omega, rfl, by go_num, by omega, by omega, HE3.out, HB2.out⟩
            case measure => simp [intOf]; omega
        · have hE := HE2.out
          rw [drop_end HPL.out (by omega), ceilP] at hE
          have HE3 := Lib.hid hE
          clear hE
          go_wp2
          go_roundw
          case rel => exact ⟨k + 1, bs2, by omega, rfl, by go_num, by omega, by omega, HE3.out, Below.then HB.out HB2.out⟩
          case measure => simp [intOf]; omega
    · have hE := HE.out
      rw [show n - k = 0 by omega, ceilFrom] at hE
      subst hE
      go_wp2
      go_ret
      exact ⟨rfl, HB.out⟩
theorem rCeil_is {a : Option Addr} {n c : Nat} {L : List Ta} {lock : Int} {w : World} {b : Int} (hL : RdL w a n L) (h : ceilG L lock = b) : Calls Tryz.prog 128 #[.slice a n c, .int .i64 lock] w fun e w' => e = .returned (.int .i64 b) ∧ Below w.heap.size w w' := by subst h; exact rCeil_any a n c L lock w hL
end Go.Proofs.YtlhnhmimhpcoaaaGreat
namespace Go.Proofs.YtlhnhmimhpcoaaaGreat
open Go.RowKit
set_option linter.unusedSimpArgs false
set_option linter.unusedVariables false
def cmpI (x y : Int) : Int := if x < y then -1 else if y < x then 1 else 0
theorem cmpI_lt (x y : Int) : decide (cmpI x y < 0) = decide (x < y) := by unfold cmpI; (repeat' split) <;> simp <;> omega
theorem nan_any (x : Int) (w : World) : Calls Tryz.prog 126 #[.int .i64 x] w fun e w' => e = .returned (.bool false) ∧ w = w' := by
  go_enter Tryz.func126, Tryz.ntmps126
  go_wp2
  go_ret
  exact ⟨ret_bool (by simp), rfl⟩
theorem compare_any (x y : Int) (w : World) : Calls Tryz.prog 114 #[.int .i64 x, .int .i64 y] w fun e w' => e = .returned (.int .i64 (cmpI x y)) ∧ w = w' := by
  by_cases h1 : x < y
  · rw [show cmpI x y = -1 from if_pos h1]
    go_enter Tryz.func114, Tryz.ntmps114
    go_wp2_with (go_at_call 126; refine (nan_any _ _).mono ?_; rintro e w1 ⟨rfl, rfl⟩)
    go_ret
    exact ⟨rfl, rfl⟩
  · by_cases h2 : y < x
    · rw [show cmpI x y = 1 by unfold cmpI; rw [if_neg h1, if_pos h2]]
      have h1' : decide (x < y) = false := by simpa using h1
      go_enter Tryz.func114, Tryz.ntmps114
      go_wp2_with (go_at_call 126; refine (nan_any _ _).mono ?_; rintro e w1 ⟨rfl, rfl⟩)
      go_ret
      exact ⟨rfl, rfl⟩
    · rw [show cmpI x y = 0 by unfold cmpI; rw [if_neg h1, if_neg h2]]
      have h1' : decide (x < y) = false := by simpa using h1
      have h2' : decide (y < x) = false := by simpa using h2
      go_enter Tryz.func114, Tryz.ntmps114
      go_wp2_with (go_at_call 126; refine (nan_any _ _).mono ?_; rintro e w1 ⟨rfl, rfl⟩)
      go_ret
      exact ⟨rfl, rfl⟩
def ltOf (cf : Int → Int → Int) (x y : Int) : Bool := decide (cf x y < 0)
/-- what is asked of a comparison: at the elements, in every world that the sort passes through -/
structure CmpOn (g : Nat) (cb : Array Value) (cf : Int → Int → Int) (b : Nat) (xs : List Int) (w : World) : Prop where
  eg : ∀ args w, (callFunc g args).run Tryz.prog w = .ok (.enter g args) w
  gives : ∀ (wr : World) (x y : Int), w.grownBy wr (some b) → x ∈ xs → y ∈ xs → Calls Tryz.prog g (#[.int .i64 x, .int .i64 y] ++ cb) wr fun e w' => e = .returned (.int .i64 (cf x y)) ∧ Below wr.heap.size wr w'
theorem grownB {w w1 w2 : World} {r : Option Nat} (h : w.grownBy w1 r) (hb : Below w1.heap.size w1 w2) : w.grownBy w2 r := h.trans ⟨hb.os, hb.tape, hb.output, hb.size, fun j hj _ => hb.block j hj⟩
theorem CmpOn.later {g cb cf b xs} {w w1 : World} (h : CmpOn g cb cf b xs w) (hg : w.grownBy w1 (some b)) : CmpOn g cb cf b xs w1 := ⟨h.eg, fun wr x y h1 => h.gives wr x y (hg.trans h1)⟩
theorem CmpOn.sub {g cb cf b xs ys} {w : World} (h : CmpOn g cb cf b xs w) (hs : ∀ x ∈ ys, x ∈ xs) : CmpOn g cb cf b ys w := ⟨h.eg, fun wr x y h1 hx hy => h.gives wr x y h1 (hs x hx) (hs y hy)⟩
theorem enc1_get (xs : List Int) (j : Nat) : (xs.flatMap enc1)[j]? = (xs[j]?).map (Value.int .i64) := by rw [flat_enc1, List.getElem?_map]
theorem setG {a w : World} {b : Nat} (h : a.grownBy w (some b)) (i : Nat) (v : Value) : a.grownBy (w.setCell ⟨b, i, none⟩ v) (some b) :=
  h.trans ⟨rfl, rfl, rfl, by simp [World.setCell], fun k _ hk => Below.heap_setCell _ _ _ _ (fun e => hk (by simp [e]))⟩
theorem drewG {a w : World} {r : Option Nat} (h : a.grownBy w r) : a.grownBy w.drew r := ⟨h.os, h.tape, h.output, h.size, h.block⟩
theorem swap_row (pre p r : List Int) (y x : Int) (j : Nat) (hj : j = pre.length + p.length) : ((pre ++ (p ++ [y] ++ x :: r)).set (j + 1) y).set j x = pre ++ (p ++ (x :: (y :: r))) := by
  subst hj
  rw [show pre ++ (p ++ [y] ++ x :: r) = (pre ++ p) ++ (y :: x :: r) by simp, List.set_append_right _ _ (by simp), List.set_append_right _ _ (by simp)]
  simp [show pre.length + p.length + 1 - (pre.length + p.length) = 1 by omega]
def SortP (B : Nat) (w : World) (b n c : Nat) (xs : List Int) (e : Ending) (w' : World) : Prop :=
  e = .returned (.tuple #[]) ∧ w'.ownsRow B 3 1 (.slice (some ⟨b, 0, none⟩) n c) n (xs.flatMap enc1) ∧ w.grownBy w' (some b)
set_option maxRecDepth 100000 in
set_option maxHeartbeats 4000000 in
theorem insertion_any (g : Nat) (cb : Array Value) (cf : Int → Int → Int) (B b n c a m : Nat) (pre xs post : List Int) (w : World) (hn : n ≤ 1000) (hO : w.ownsRow B 3 1 (.slice (some ⟨b, 0, none⟩) n c) n ((pre ++ (xs ++ post)).flatMap enc1))
    (ha : pre.length = a) (hm : a + xs.length = m) (hC : CmpOn g cb cf b xs w) :
    Calls Tryz.prog 131 #[.slice (some ⟨b, 0, none⟩) n c, .int .i64 a, .int .i64 m, .func (.func g) #[] cb] w (SortP B w b n c (pre ++ (isortL (ltOf cf) xs ++ post))) := by
  have hlen : (pre ++ (xs ++ post)).length = n := (ownsI_rd hO).length
  have hmn : m ≤ n := by simp at hlen; omega
  have han : a ≤ n := by simp at hlen; omega
  have eg := hC.eg
  have HC := Lib.hid hC
  have HO0 := Lib.hid hO
  have HA := Lib.hid ha; have HM := Lib.hid hm; have HLN := Lib.hid hlen
  clear hO ha hm hlen hC
  go_enter Tryz.func131, Tryz.ntmps131
  go_wp2
  go_loopw [8] (fun v wr => ∃ (i : Nat) (S : List Int), v = .int .i64 ((a + i : Nat) : Int) ∧ 1 ≤ i ∧ a + i ≤ max (a + 1) m ∧ wr.ownsRow B 3 1 (.slice (some ⟨b, 0, none⟩) n c) n ((pre ++ (S ++ (xs.drop i ++ post))).flatMap enc1) ∧ S = isortL (ltOf cf) (xs.take i) ∧ w.grownBy wr (some b)) (fun v _ => m - (intOf v).toNat)
  case atStart =>
    refine ⟨1, isortL (ltOf cf) (xs.take 1), by go_num, by omega, by omega, ?_, rfl, World.grownBy.refl _ _⟩
    have : isortL (ltOf cf) (xs.take 1) = xs.take 1 := by cases xs <;> rfl
    rw [this, ← List.append_assoc (xs.take 1), List.take_append_drop]
    exact HO0.out
  case round =>
    obtain ⟨i, S, rfl, hi1, him, hO, hS, hG⟩ := hrel
    have HO := Lib.hid hO; have HS := Lib.hid hS; have HG := Lib.hid hG
    clear hO hS hG
    by_cases hlt : a + i < m
    · have hlt' : ((a + i : Nat) : Int) < (m : Int) := by omega
      obtain ⟨x, hx⟩ : ∃ x, xs[i]? = some x := ⟨_, List.getElem?_eq_getElem (by have := HM.out; omega)⟩
      have hxd : xs.drop i = x :: xs.drop (i + 1) := by obtain ⟨h1, h2⟩ := List.getElem?_eq_some_iff.1 hx; rw [List.drop_eq_getElem_cons h1, h2]
      have hsl : S.length = i := by rw [HS.out, (isort_perm _ _).length_eq, List.length_take]; have := HM.out; omega
      have HX := Lib.hid hx; have HSL := Lib.hid hsl
      have HTK : Hid (xs.take (i + 1) = xs.take i ++ [x]) := Lib.hid (by rw [List.take_add_one, hx]; rfl)
      have HOi : Hid (wr.ownsRow B 3 1 (.slice (some ⟨b, 0, none⟩) n c) n ((pre ++ (S ++ (x :: ([] ++ (xs.drop (i + 1) ++ post))))).flatMap enc1)) := Lib.hid (by have := HO.out; rw [hxd] at this; exact this)
      clear hx hxd hsl
      obtain ⟨wo, rfl⟩ : ∃ wo : World, wo = wr := ⟨_, rfl⟩
      go_wp2
      go_loopw [9] (fun v wr => ∃ (j : Nat) (p q : List Int), v = .int .i64 (j : Nat) ∧ j = a + p.length ∧ p ++ q = S ∧ (∀ y ∈ q, ltOf cf x y = true) ∧ wr.ownsRow B 3 1 (.slice (some ⟨b, 0, none⟩) n c) n ((pre ++ (p ++ (x :: (q ++ (xs.drop (i + 1) ++ post))))).flatMap enc1) ∧ wo.grownBy wr (some b)) (fun v _ => (intOf v).toNat)
      case atStart => exact ⟨a + i, S, [], rfl, by rw [HSL.out], by simp, by simp, HOi.out, World.grownBy.refl _ _⟩
      case round =>
        obtain ⟨j, p, q, rfl, hj, hpq, hq, hOj, hGj⟩ := hrel
        have HPQ := Lib.hid hpq; have HQ := Lib.hid hq; have HOJ := Lib.hid hOj; have HGJ := Lib.hid hGj; have HJ := Lib.hid hj
        have hjm : j < m := by have := congrArg List.length hpq; rw [HSL.out] at this; simp at this; omega
        clear hpq hq hOj hGj
        rcases List.eq_nil_or_concat p with hp | ⟨p', y, hp⟩
        · have hja : j = a := by rw [hj, hp]; rfl
          subst hja
          have HP := Lib.hid hp
          clear hj hp
          have hd : decide ((j : Int) > (j : Int)) = false := by simp
          go_wp2_with (refine wp_region_later_lit (by kernel_rfl) (by kernel_rfl) ?_; (repeat (go_big_quiet_step (fail))); refine wpQuiet_nil ?_; intro w3 hb3)
          go_roundw
          case rel =>
            refine ⟨i + 1, p ++ x :: q, by go_num, by omega, by omega, ?_, ?_, grownB (HG.out.trans HGJ.out) hb3⟩
            · have := owns_ext HOJ.out hb3
              rw [List.append_assoc p, List.cons_append]
              exact this
            · rw [HTK.out, isort_snoc, ← HS.out, ← HPQ.out, insP_eq HQ.out (by rw [HP.out]; simp)]
          case measure => simp [intOf]; omega
        · rw [List.concat_eq_append] at hp
          have HP := Lib.hid hp
          obtain ⟨jp, rfl⟩ : ∃ jp, j = jp + 1 := ⟨a + p'.length, by rw [hj, hp]; simp; omega⟩
          have hjp : jp = a + p'.length := by rw [hp] at hj; simp at hj; omega
          have HJP := Lib.hid hjp
          have hja : (a : Int) < (jp : Int) + 1 := by omega
          have hxm : x ∈ xs := List.mem_of_getElem? HX.out
          have hym : y ∈ xs := by
            have : y ∈ S := by rw [← HPQ.out, HP.out]; simp
            rw [HS.out, (isort_perm _ _).mem_iff] at this
            exact List.mem_of_mem_take this
          have HXM := Lib.hid hxm; have HYM := Lib.hid hym
          have e1 : (pre ++ (p ++ (x :: (q ++ (xs.drop (i + 1) ++ post)))))[jp + 1]? = some x := by
            rw [HP.out, ← List.append_assoc, List.getElem?_append_right (by simp; have := HA.out; omega)]
            have : jp + 1 - (pre ++ (p' ++ [y])).length = 0 := by simp; have := HA.out; omega
            rw [this]; rfl
          have e2 : (pre ++ (p ++ (x :: (q ++ (xs.drop (i + 1) ++ post)))))[jp]? = some y := by
            rw [HP.out, List.append_assoc, ← List.append_assoc, List.getElem?_append_right (by simp; have := HA.out; omega)]
            have : jp - (pre ++ p').length = 0 := by simp; have := HA.out; omega
            rw [this]; rfl
          obtain ⟨x', hx', c1, f1, hbw⟩ := ownsI_at HOJ.out (jp + 1) (by omega)
          obtain ⟨y', hy', c2, f2, _⟩ := ownsI_at HOJ.out jp (by omega)
          rw [e1] at hx'; rw [e2] at hy'
          obtain rfl : x = x' := by simpa using hx'
          obtain rfl : y = y' := by simpa using hy'
          have HC1 := Lib.hid c1; have HC2 := Lib.hid c2; have HF1 := Lib.hid f1; have HF2 := Lib.hid f2
          clear e1 e2 hx' hy' hj hp hjp hxm hym
          by_cases hl : cf x y < 0
          · have HL := Lib.hid hl
            go_wp2_with (refine wp_region_later_lit (by kernel_rfl) (by kernel_rfl) ?_; (repeat (go_big_quiet_step ((go_at_fn g; exact later_of (HC.out.gives _ x y (grownB (HG.out.trans HGJ.out) (After.below _)) HXM.out HYM.out))))); refine wpQuiet_nil ?_; intro w3 hb3)
            clear f1 f2 c1 c2
            have c1 := (hb3.cell (p := ⟨b, jp + 1, none⟩) hbw).trans HC1.out
            have c2 := (hb3.cell (p := ⟨b, jp, none⟩) hbw).trans HC2.out
            have f1 := (hb3.frozen (p := ⟨b, jp + 1, none⟩) hbw).trans HF1.out
            have f2 := (hb3.frozen (p := ⟨b, jp, none⟩) hbw).trans HF2.out
            go_big_region
            go_wp2
            go_roundw
            case rel =>
              refine ⟨jp, p', y :: q, rfl, HJP.out, by rw [← HPQ.out, HP.out]; simp, ?_, ?_, ?_⟩
              · intro z hz
                rcases List.mem_cons.1 hz with rfl | hz
                · exact decide_eq_true HL.out
                · exact HQ.out z hz
              · have h5 := (ownsI_set (ownsI_set (owns_ext HOJ.out hb3) (jp + 1) y) jp x).drew
                rw [HP.out, swap_row pre p' (q ++ (List.drop (i + 1) xs ++ post)) y x jp (by rw [HA.out]; exact HJP.out)] at h5
                exact h5
              · exact drewG (setG (setG (grownB HGJ.out hb3) _ _) _ _)
            case measure => simp [intOf]
          · have hl' : decide (cf x y < 0) = false := by simpa using hl
            have HL := Lib.hid hl
            go_wp2_with (refine wp_region_later_lit (by kernel_rfl) (by kernel_rfl) ?_; (repeat (go_big_quiet_step ((go_at_fn g; exact later_of (HC.out.gives _ x y (grownB (HG.out.trans HGJ.out) (After.below _)) HXM.out HYM.out))))); refine wpQuiet_nil ?_; intro w3 hb3)
            go_roundw
            case rel =>
              refine ⟨i + 1, p ++ x :: q, by go_num, by omega, by omega, ?_, ?_, grownB (HG.out.trans HGJ.out) hb3⟩
              · have := owns_ext HOJ.out hb3
                rw [List.append_assoc p, List.cons_append]
                exact this
              · rw [HTK.out, isort_snoc, ← HS.out, ← HPQ.out, insP_eq HQ.out (by rw [HP.out]; intro z hz; simp at hz; subst hz; unfold ltOf; exact decide_eq_false HL.out)]
            case measure => simp [intOf]; omega
    · have hlt' : ¬ ((a + i : Nat) : Int) < (m : Int) := by omega
      go_wp2
      go_end0
      refine ⟨rfl, ?_, HG.out⟩
      have hle : xs.length ≤ i := by have := HM.out; omega
      have := HO.out
      rw [HS.out, List.take_of_length_le hle, List.drop_of_length_le hle] at this
      exact this
set_option maxHeartbeats 1000000 in
theorem stable_any (g : Nat) (cb : Array Value) (cf : Int → Int → Int) (B b n c : Nat) (xs : List Int) (w : World) (hn : n < 20) (hO : w.ownsRow B 3 1 (.slice (some ⟨b, 0, none⟩) n c) n (xs.flatMap enc1)) (hC : CmpOn g cb cf b xs w) :
    Calls Tryz.prog 125 #[.slice (some ⟨b, 0, none⟩) n c, .int .i64 n, .func (.func g) #[] cb] w (SortP B w b n c (isortL (ltOf cf) xs)) := by
  have hlen : xs.length = n := (ownsI_rd hO).length
  have HI : Hid (Calls Tryz.prog 131 #[.slice (some ⟨b, 0, none⟩) n c, .int .i64 0, .int .i64 n, .func (.func g) #[] cb] w (SortP B w b n c (isortL (ltOf cf) xs))) := by
    have := insertion_any g cb cf B b n c 0 n [] xs [] w (by omega) (by simpa using hO) rfl (by omega) hC
    simp only [List.nil_append, List.append_nil] at this
    exact Lib.hid this
  have h20 : ¬ (20 : Int) ≤ (n : Int) := by omega
  have h21 : ¬ (20 : Int) < (n : Int) := by omega
  have h22 : ¬ 20 ≤ n := by omega
  have h23 : ¬ 20 < n := by omega
  clear hO hC hlen
  go_enter Tryz.func125, Tryz.ntmps125
  go_wp2
  go_loopw [7, 8] (fun u v wr => u = .int .i64 0 ∧ v = .int .i64 20 ∧ w = wr) (fun _ _ _ => 0)
  case atStart => exact ⟨rfl, rfl, rfl⟩
  case round =>
    obtain ⟨rfl, rfl, rfl⟩ := hrel
    go_wp2_with (go_at_call 131; refine HI.out.mono ?_; rintro e w1 ⟨rfl, ho, hg⟩; have HO := Lib.hid ho; have HG := Lib.hid hg; clear ho hg)
    go_loopw [6] (fun u wr => u = .int .i64 20 ∧ w1 = wr) (fun _ _ => 0)
    case atStart => exact ⟨rfl, rfl⟩
    case round =>
      obtain ⟨rfl, rfl⟩ := hrel
      go_wp2
      go_end0
      exact ⟨rfl, HO.out, HG.out⟩
theorem sortStable_any (g : Nat) (cb : Array Value) (cf : Int → Int → Int) (B b n c : Nat) (xs : List Int) (w : World) (hn : n < 20) (hO : w.ownsRow B 3 1 (.slice (some ⟨b, 0, none⟩) n c) n (xs.flatMap enc1)) (hC : CmpOn g cb cf b xs w) :
    Calls Tryz.prog 112 #[.slice (some ⟨b, 0, none⟩) n c, .func (.func g) #[] cb] w (SortP B w b n c (isortL (ltOf cf) xs)) := by
  have HS := Lib.hid (stable_any g cb cf B b n c xs w hn hO hC)
  clear hO hC
  go_enter Tryz.func112, Tryz.ntmps112
  go_wp2_with (go_at_call 125; refine HS.out.mono ?_; rintro e w1 ⟨rfl, ho, hg⟩; have HO := Lib.hid ho; have HG := Lib.hid hg; clear ho hg)
  go_end0
  exact ⟨rfl, HO.out, HG.out⟩
end Go.Proofs.YtlhnhmimhpcoaaaGreat
