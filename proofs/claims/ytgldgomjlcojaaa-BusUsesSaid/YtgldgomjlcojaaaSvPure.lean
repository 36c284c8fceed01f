/- Requests served on a bus, in plain Lean: the order, where each begins and ends. No condition: plain lemmas. -/
import Derived.Test.YtgldgomjlcojaaaBsPure
import Derived.Test.YtgldgomjlcojaaaStPure
namespace Go.Proofs.Ytgldgomjlcojaaa
open Go.RowKit
set_option linter.unusedSimpArgs false
set_option linter.unusedVariables false
/-- a request: its master, its moment, its ticks -/
structure Rq where
  m : Int
  o : Int
  k : Int
deriving DecidableEq, Inhabited
def rqAt (q : List Rq) (i : Int) : Rq := (q[i.toNat]?).getD default
theorem rqAt_of {q : List Rq} {i : Nat} {r : Rq} (h : q[i]? = some r) : rqAt q i = r := by simp [rqAt, h]
def ltQ (q : List Rq) (a b : Int) : Bool := decide ((rqAt q a).o < (rqAt q b).o)
theorem ltQ_swo (q : List Rq) : Swo (ltQ q) := ⟨fun a b h => by unfold ltQ at *; simp at *; omega, fun a b c h k => by unfold ltQ at *; simp at *; omega⟩
/-- request a is served ahead of request b -/
def aheadQ (q : List Rq) (a b : Int) : Bool := decide ((rqAt q a).o < (rqAt q b).o ∨ ((rqAt q a).o = (rqAt q b).o ∧ a < b))
theorem aheadQ_iff {q : List Rq} {a b : Int} : aheadQ q a b = true ↔ (rqAt q a).o < (rqAt q b).o ∨ ((rqAt q a).o = (rqAt q b).o ∧ a < b) := decide_eq_true_iff
theorem aheadQ_no {q : List Rq} {a b : Int} : aheadQ q a b = false ↔ ¬ ((rqAt q a).o < (rqAt q b).o ∨ ((rqAt q a).o = (rqAt q b).o ∧ a < b)) := decide_eq_false_iff_not
def ordQ (q : List Rq) : List Int := isortL (ltQ q) (idxs q.length)
theorem ordQ_perm (q : List Rq) : (ordQ q).Perm (idxs q.length) := isort_perm _ _
theorem ordQ_len (q : List Rq) : (ordQ q).length = q.length := by rw [(ordQ_perm q).length_eq, idxs_len]
theorem ordQ_mem {q : List Rq} {x : Int} : x ∈ ordQ q ↔ 0 ≤ x ∧ x < q.length := by rw [(ordQ_perm q).mem_iff, idxs_mem]
theorem ordQ_nodup (q : List Rq) : (ordQ q).Nodup := (ordQ_perm q).nodup_iff.2 (idxs_nodup _)
theorem ordQ_pw (q : List Rq) : (ordQ q).Pairwise (fun a b => aheadQ q a b = true) := by
  refine isort_pw (fun a b c h k => ?_) (fun a b h => ?_) ((idxs_pw q.length).imp (fun {a b} h k => ?_))
  · rw [aheadQ_iff] at *; omega
  · unfold ltQ at h; rw [aheadQ_iff]; simp at h; omega
  · unfold ltQ at k; rw [aheadQ_iff]; simp at k; omega
/-- when a master is free again behind some requests -/
def freeF (T : List Int) (q : List Rq) (m : Int) (ks : List Int) : Nat := ks.foldl (fun f k => if (rqAt q k).m = m then endN T m (max (rqAt q k).o.toNat f) (rqAt q k).k.toNat else f) 0
theorem freeF_snoc (T : List Int) (q : List Rq) (m : Int) (ks : List Int) (k : Int) : freeF T q m (ks ++ [k]) = if (rqAt q k).m = m then endN T m (max (rqAt q k).o.toNat (freeF T q m ks)) (rqAt q k).k.toNat else freeF T q m ks := by simp [freeF]
theorem freeF_filter (T : List Int) (q : List Rq) (m : Int) (ks : List Int) : freeF T q m (ks.filter (fun k => decide ((rqAt q k).m = m))) = freeF T q m ks := by
  unfold freeF
  rw [List.foldl_filter]
  congr 1
  funext f k
  by_cases h : (rqAt q k).m = m <;> simp [h]
/-- those that are served ahead of k -/
def preQ (q : List Rq) (k : Int) : List Int := (ordQ q).filter (fun i => aheadQ q i k)
theorem preQ_take {q : List Rq} {p : Nat} {k : Int} (h : (ordQ q)[p]? = some k) : preQ q k = (ordQ q).take p := by
  obtain ⟨hp, e⟩ := List.getElem?_eq_some_iff.1 h
  have hs : ordQ q = (ordQ q).take p ++ k :: (ordQ q).drop (p + 1) := by
    have := List.take_append_drop p (ordQ q)
    rw [List.drop_eq_getElem_cons hp, e] at this; exact this.symm
  have hpw := ordQ_pw q
  rw [hs] at hpw
  obtain ⟨h1, h2, h3⟩ := List.pairwise_append.1 hpw
  unfold preQ
  conv => lhs; rw [hs]
  rw [List.filter_append, List.filter_eq_self.2 (fun y hy => h3 y hy k (by simp)), List.filter_eq_nil_iff.2 (fun y hy hh => by
    rcases List.mem_cons.1 hy with rfl | hy
    · rw [aheadQ_iff] at hh; omega
    · have := (List.pairwise_cons.1 h2).1 y hy
      rw [aheadQ_iff] at *; omega), List.append_nil]
def bgN (T : List Int) (q : List Rq) (k : Int) : Nat := max (rqAt q k).o.toNat (freeF T q (rqAt q k).m (preQ q k))
def enN (T : List Int) (q : List Rq) (k : Int) : Nat := endN T (rqAt q k).m (bgN T q k) (rqAt q k).k.toNat
/-- requests that can be served -/
structure OkQ (T : List Int) (q : List Rq) : Prop where
  c : ∀ r ∈ q, 0 < cnt T r.m
  k : ∀ r ∈ q, 1 ≤ r.k
  o : ∀ r ∈ q, 0 ≤ r.o
theorem rqAt_mem {q : List Rq} {i : Int} (h : 0 ≤ i ∧ i < q.length) : rqAt q i ∈ q := by
  obtain ⟨n, rfl⟩ := Int.eq_ofNat_of_zero_le h.1
  have hn : n < q.length := by omega
  rw [rqAt_of (List.getElem?_eq_getElem hn)]
  exact List.getElem_mem hn
section
variable {T : List Int} {q : List Rq}
theorem free_at {p : Nat} {k : Int} (h : (ordQ q)[p]? = some k) : freeF T q (rqAt q k).m ((ordQ q).take (p + 1)) = enN T q k := by
  rw [List.take_add_one, h]
  show freeF T q _ ((ordQ q).take p ++ [k]) = _
  rw [freeF_snoc, if_pos rfl, enN, bgN, preQ_take h]
theorem free_other {p : Nat} {k m : Int} (h : (ordQ q)[p]? = some k) (hm : (rqAt q k).m ≠ m) : freeF T q m ((ordQ q).take (p + 1)) = freeF T q m ((ordQ q).take p) := by
  rw [List.take_add_one, h]
  show freeF T q _ ((ordQ q).take p ++ [k]) = _
  rw [freeF_snoc, if_neg hm]
theorem ord_rq (h : OkQ T q) {k : Int} (hk : k ∈ ordQ q) : 0 < cnt T (rqAt q k).m ∧ 1 ≤ (rqAt q k).k.toNat ∧ 0 ≤ (rqAt q k).o := by
  have hm := rqAt_mem (ordQ_mem.1 hk)
  have := h.k _ hm
  exact ⟨h.c _ hm, by omega, h.o _ hm⟩
theorem bg_lt_en (h : OkQ T q) {k : Int} (hk : k ∈ ordQ q) : bgN T q k < enN T q k := by
  obtain ⟨h1, h2, _⟩ := ord_rq h hk
  exact (endN_spec h1 h2).2.2
theorem free_step (h : OkQ T q) (m : Int) (p : Nat) : freeF T q m ((ordQ q).take p) ≤ freeF T q m ((ordQ q).take (p + 1)) := by
  cases e : (ordQ q)[p]? with
  | none => rw [List.take_add_one, e]; simp
  | some k =>
    by_cases hm : (rqAt q k).m = m
    · subst hm
      have hk := List.mem_of_getElem? e
      have := bg_lt_en h hk
      rw [free_at e]
      have : freeF T q (rqAt q k).m ((ordQ q).take p) ≤ bgN T q k := by rw [bgN, preQ_take e]; omega
      omega
    · rw [free_other e hm]; exact Nat.le_refl _
theorem free_mono (h : OkQ T q) (m : Int) {p r : Nat} (hpr : p ≤ r) : freeF T q m ((ordQ q).take p) ≤ freeF T q m ((ordQ q).take r) := by
  induction r with
  | zero => obtain rfl : p = 0 := by omega
            exact Nat.le_refl _
  | succ r ih =>
    rcases Nat.lt_or_ge r p with e | e
    · obtain rfl : p = r + 1 := by omega
      exact Nat.le_refl _
    · exact Nat.le_trans (ih e) (free_step h m r)
theorem ord_pos {k : Int} (hk : k ∈ ordQ q) : ∃ p : Nat, (ordQ q)[p]? = some k := by
  obtain ⟨p, hp, e⟩ := List.getElem_of_mem hk
  exact ⟨p, by rw [List.getElem?_eq_getElem hp, e]⟩
theorem ord_ahead {p r : Nat} {i k : Int} (hp : (ordQ q)[p]? = some i) (hr : (ordQ q)[r]? = some k) : aheadQ q i k = true ↔ p < r := by
  obtain ⟨h1, rfl⟩ := List.getElem?_eq_some_iff.1 hp
  obtain ⟨h2, rfl⟩ := List.getElem?_eq_some_iff.1 hr
  have hpw := List.pairwise_iff_getElem.1 (ordQ_pw q)
  constructor
  · intro h
    rcases Nat.lt_trichotomy p r with e | e | e
    · exact e
    · subst e; rw [aheadQ_iff] at h; omega
    · have := hpw r p h2 h1 e
      rw [aheadQ_iff] at *; omega
  · intro e; exact hpw p r h1 h2 e
theorem en_le_free (h : OkQ T q) {p : Nat} {i m : Int} (hi : i ∈ (ordQ q).take p) (hm : (rqAt q i).m = m) : enN T q i ≤ freeF T q m ((ordQ q).take p) := by
  obtain ⟨t, ht, e⟩ := List.getElem_of_mem hi
  rw [List.length_take] at ht
  rw [List.getElem_take] at e
  have e' : (ordQ q)[t]? = some i := by rw [List.getElem?_eq_getElem (by omega), e]
  have := free_at (T := T) e'
  rw [hm] at this
  rw [← this]
  exact free_mono h m (by omega)
theorem free_src (m : Int) : ∀ p : Nat, freeF T q m ((ordQ q).take p) = 0 ∨ ∃ i ∈ (ordQ q).take p, (rqAt q i).m = m ∧ freeF T q m ((ordQ q).take p) = enN T q i
  | 0 => .inl rfl
  | p + 1 => by
    cases e : (ordQ q)[p]? with
    | none =>
      rw [List.take_add_one, e]
      simpa using free_src m p
    | some k =>
      by_cases hm : (rqAt q k).m = m
      · right
        refine ⟨k, ?_, hm, by rw [← hm]; exact free_at e⟩
        rw [List.take_add_one, e]; simp
      · rw [free_other e hm]
        rcases free_src m p with h | ⟨i, hi, h1, h2⟩
        · exact .inl h
        · exact .inr ⟨i, by rw [List.take_add_one]; exact List.mem_append_left _ hi, h1, h2⟩
/-- of two of one master, the later one begins where the earlier one has ended -/
theorem en_le_bg (h : OkQ T q) {i k : Int} (hi : i ∈ ordQ q) (hk : k ∈ ordQ q) (hm : (rqAt q i).m = (rqAt q k).m) (ha : aheadQ q i k = true) : enN T q i ≤ bgN T q k := by
  obtain ⟨p, hp⟩ := ord_pos hi
  obtain ⟨r, hr⟩ := ord_pos hk
  have hpr := (ord_ahead hp hr).1 ha
  have hmem : i ∈ (ordQ q).take r := by
    refine List.mem_of_getElem? (i := p) ?_
    rw [List.getElem?_take, if_pos hpr]; exact hp
  have := en_le_free (T := T) h hmem hm
  rw [bgN, preQ_take hr]
  omega
theorem bg_ge (k : Int) : (rqAt q k).o.toNat ≤ bgN T q k := by unfold bgN; omega
theorem bg_alone {k : Int} (hk : k ∈ ordQ q) (h : ∀ i ∈ ordQ q, i ≠ k → (rqAt q i).m ≠ (rqAt q k).m) : bgN T q k = (rqAt q k).o.toNat := by
  obtain ⟨p, hp⟩ := ord_pos hk
  have : freeF T q (rqAt q k).m (preQ q k) = 0 := by
    rw [← freeF_filter, List.filter_eq_nil_iff.2]
    · rfl
    · intro i hi hh
      rw [preQ, List.mem_filter] at hi
      by_cases e : i = k
      · subst e
        have := hi.2
        rw [aheadQ_iff] at this; omega
      · exact h i hi.1 e (by simpa using hh)
  rw [bgN, this]; omega
theorem endN_mono {m : Int} (hc : 0 < cnt T m) {a b k : Nat} (hk : 1 ≤ k) (hab : a ≤ b) : endN T m a k ≤ endN T m b k := by
  rw [endN_le hc hk]
  have h1 := (endN_spec hc (a := b) hk).1
  have h2 := cF_mono (t := T) (m := m) hab
  omega
end
end Go.Proofs.Ytgldgomjlcojaaa
