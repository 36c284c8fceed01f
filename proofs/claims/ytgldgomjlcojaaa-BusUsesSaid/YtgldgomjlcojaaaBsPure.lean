/- Slots, their table, and how many ticks of it a master owns. No condition: plain lemmas. -/
import Derived.Test.YtgldgomjlcojaaaBase
namespace Go.Proofs.Ytgldgomjlcojaaa
open Go.RowKit
set_option linter.unusedSimpArgs false
set_option linter.unusedVariables false
def okS (s : P2) : Bool := inB s.1 0 3 && inB s.2 1 50
def validS (l : List P2) : Bool := decide (1 ≤ l.length) && decide (l.length ≤ 8) && l.all okS
theorem okS_iff {s : P2} : okS s = true ↔ (0 ≤ s.1 ∧ s.1 ≤ 3) ∧ 1 ≤ s.2 ∧ s.2 ≤ 50 := by unfold okS; rw [Bool.and_eq_true, inB_iff, inB_iff]
theorem validS_iff {l : List P2} : validS l = true ↔ 1 ≤ l.length ∧ l.length ≤ 8 ∧ ∀ s ∈ l, (0 ≤ s.1 ∧ s.1 ≤ 3) ∧ 1 ≤ s.2 ∧ s.2 ≤ 50 := by
  unfold validS
  simp only [Bool.and_eq_true, decide_eq_true_eq, List.all_eq_true, okS_iff, and_assoc]
def tableS (l : List P2) : List Int := l.flatMap fun s => List.replicate s.2.toNat s.1
theorem tableS_cons (s : P2) (l : List P2) : tableS (s :: l) = List.replicate s.2.toNat s.1 ++ tableS l := rfl
theorem tableS_len_le : ∀ (l : List P2), (∀ s ∈ l, s.2 ≤ 50) → (tableS l).length ≤ l.length * 50
  | [], _ => by simp [tableS]
  | s :: l, h => by
    have h1 := tableS_len_le l (fun x hx => h x (by simp [hx]))
    have h2 := h s (by simp)
    rw [tableS_cons]; simp; omega
theorem tableS_len {l : List P2} (h : validS l = true) : 1 ≤ (tableS l).length ∧ (tableS l).length ≤ 400 := by
  obtain ⟨h1, h2, h3⟩ := validS_iff.1 h
  have h4 := tableS_len_le l (fun s hs => (h3 s hs).2.2)
  refine ⟨?_, by omega⟩
  match l, h1 with
  | s :: l, _ =>
    have := (h3 s (by simp)).2.1
    rw [tableS_cons]; simp; omega
theorem tableS_rng {l : List P2} (h : validS l = true) : ∀ x ∈ tableS l, 0 ≤ x ∧ x ≤ 3 := by
  obtain ⟨h1, h2, h3⟩ := validS_iff.1 h
  intro x hx
  obtain ⟨s, hs, hx⟩ := List.mem_flatMap.1 hx
  have := List.mem_replicate.1 hx
  rw [this.2]; exact (h3 s hs).1
/-- is tick i the master's -/
def hitB (t : List Int) (m : Int) (i : Nat) : Bool := decide (t[i % t.length]? = some m)
/-- how many of the first n ticks are the master's -/
def cF (t : List Int) (m : Int) : Nat → Nat
  | 0 => 0
  | n + 1 => cF t m n + if hitB t m n = true then 1 else 0
def cnt (t : List Int) (m : Int) : Nat := cF t m t.length
section
variable {t : List Int} {m : Int}
theorem cF_succ (t : List Int) (m : Int) (n : Nat) : cF t m (n + 1) = cF t m n + if hitB t m n = true then 1 else 0 := rfl
theorem cF_step (n : Nat) : cF t m n ≤ cF t m (n + 1) ∧ cF t m (n + 1) ≤ cF t m n + 1 := by rw [cF_succ]; split <;> omega
theorem cF_add (a : Nat) : ∀ b, cF t m a ≤ cF t m (a + b) ∧ cF t m (a + b) ≤ cF t m a + b
  | 0 => by simp
  | b + 1 => by
    have h1 := cF_add a b
    have h2 := cF_step (t := t) (m := m) (a + b)
    rw [← Nat.add_assoc]; omega
theorem cF_mono {a b : Nat} (h : a ≤ b) : cF t m a ≤ cF t m b := by
  have := (cF_add (t := t) (m := m) a (b - a)).1
  rwa [show a + (b - a) = b by omega] at this
theorem hit_period (i : Nat) : hitB t m (i + t.length) = hitB t m i := by unfold hitB; rw [Nat.add_mod_right]
theorem hit_mod (i : Nat) : hitB t m (i % t.length) = hitB t m i := by unfold hitB; rw [Nat.mod_mod]
theorem hit_lt {i : Nat} (h : i < t.length) : hitB t m i = decide (t[i]? = some m) := by unfold hitB; rw [Nat.mod_eq_of_lt h]
theorem cF_period : ∀ n : Nat, cF t m (n + t.length) = cF t m n + cnt t m
  | 0 => by rw [Nat.zero_add]; simp [cF, cnt]
  | n + 1 => by
    have h := cF_period n
    rw [show n + 1 + t.length = (n + t.length) + 1 by omega, cF_succ, cF_succ, h, hit_period]; omega
theorem cF_mul (b : Nat) : ∀ a : Nat, cF t m (a * t.length + b) = a * cnt t m + cF t m b
  | 0 => by simp
  | a + 1 => by
    have h := cF_mul b a
    rw [show (a + 1) * t.length + b = (a * t.length + b) + t.length by rw [Nat.add_mul]; omega, cF_period, h, Nat.add_mul]; omega
theorem cF_div (n : Nat) : cF t m n = n / t.length * cnt t m + cF t m (n % t.length) := by
  have := cF_mul (t := t) (m := m) (n % t.length) (n / t.length)
  rw [Nat.mul_comm, Nat.div_add_mod] at this
  exact this
/-- the master's ticks of a period -/
def posN (t : List Int) (m : Int) : List Nat := (List.range t.length).filter fun i => decide (t[i]? = some m)
theorem posN_snoc (t : List Int) (o m : Int) : posN (t ++ [o]) m = posN t m ++ if o = m then [t.length] else [] := by
  unfold posN
  rw [List.length_append, List.length_singleton, List.range_succ, List.filter_append]
  congr 1
  · apply List.filter_congr
    intro i hi
    rw [List.getElem?_append_left (List.mem_range.1 hi)]
  · simp [List.filter_cons]
theorem posN_aux (t : List Int) (m : Int) : ∀ n, n ≤ t.length → (((List.range n).filter fun i => decide (t[i]? = some m)).length = cF t m n ∧ ∀ k x, ((List.range n).filter fun i => decide (t[i]? = some m))[k]? = some x → x < n ∧ cF t m x = k ∧ hitB t m x = true)
  | 0, _ => ⟨rfl, fun k x h => by simp at h⟩
  | n + 1, hn => by
    obtain ⟨h1, h2⟩ := posN_aux t m n (by omega)
    have e : hitB t m n = decide (t[n]? = some m) := hit_lt (by omega)
    rw [List.range_succ, List.filter_append]
    constructor
    · rw [List.length_append, h1, cF_succ, e]
      by_cases q : t[n]? = some m <;> simp [q]
    · intro k x hx
      by_cases hk : k < ((List.range n).filter fun i => decide (t[i]? = some m)).length
      · rw [List.getElem?_append_left hk] at hx
        obtain ⟨a, b, c⟩ := h2 k x hx
        exact ⟨by omega, b, c⟩
      · rw [List.getElem?_append_right (by omega)] at hx
        by_cases q : t[n]? = some m
        · rw [h1] at hx hk
          simp [q] at hx
          have h3 : k - cF t m n < 1 := by
            have := (List.getElem?_eq_some_iff.1 hx).1
            simpa using this
          have h4 : k - cF t m n = 0 := by omega
          rw [h4] at hx
          simp at hx
          subst hx
          exact ⟨by omega, by omega, by rw [e]; simpa using q⟩
        · simp [q] at hx
theorem posN_len (t : List Int) (m : Int) : (posN t m).length = cnt t m := (posN_aux t m t.length (Nat.le_refl _)).1
theorem posN_get {t : List Int} {m : Int} {k x : Nat} (h : (posN t m)[k]? = some x) : x < t.length ∧ cF t m x = k ∧ hitB t m x = true := (posN_aux t m t.length (Nat.le_refl _)).2 k x h
theorem posN_lt {k x y : Nat} (h : (posN t m)[k]? = some x) : x < y ↔ k < cF t m y := by
  obtain ⟨h1, h2, h3⟩ := posN_get h
  have h4 : cF t m (x + 1) = k + 1 := by rw [cF_succ, h3, h2]; rfl
  constructor
  · intro hxy
    have := cF_mono (t := t) (m := m) (show x + 1 ≤ y by omega)
    omega
  · intro hk
    by_cases q : x < y
    · exact q
    · have := cF_mono (t := t) (m := m) (show y ≤ x by omega)
      omega
/-- the moment behind so many of the master's ticks from a moment on -/
def endN (t : List Int) (m : Int) (a k : Nat) : Nat := (cF t m a + k - 1) / cnt t m * t.length + ((posN t m)[(cF t m a + k - 1) % cnt t m]?).getD 0 + 1
theorem endN_spec (hc : 0 < cnt t m) {a k : Nat} (hk : 1 ≤ k) : cF t m (endN t m a k) = cF t m a + k ∧ cF t m (endN t m a k - 1) + 1 = cF t m a + k ∧ a < endN t m a k := by
  obtain ⟨L, hL⟩ : ∃ L, L = cF t m a + k - 1 := ⟨_, rfl⟩
  have hr : L % cnt t m < (posN t m).length := by rw [posN_len]; exact Nat.mod_lt _ hc
  obtain ⟨x, hx⟩ : ∃ x, (posN t m)[L % cnt t m]? = some x := ⟨_, List.getElem?_eq_getElem hr⟩
  obtain ⟨h1, h2, h3⟩ := posN_get hx
  have e : endN t m a k = L / cnt t m * t.length + x + 1 := by rw [endN, ← hL, hx]; rfl
  have h4 : cF t m (L / cnt t m * t.length + x) = L := by rw [cF_mul, h2, Nat.mul_comm]; exact Nat.div_add_mod L (cnt t m)
  have h5 : hitB t m (L / cnt t m * t.length + x) = true := by
    rw [← h3]
    unfold hitB
    rw [Nat.add_comm, Nat.add_mul_mod_self_right]
  have h6 : cF t m (endN t m a k) = L + 1 := by rw [e, cF_succ, h4, h5]; rfl
  refine ⟨by omega, by rw [e, Nat.add_sub_cancel, h4]; omega, ?_⟩
  by_cases q : a < endN t m a k
  · exact q
  · have := cF_mono (t := t) (m := m) (show endN t m a k ≤ a by omega)
    omega
theorem endN_le (hc : 0 < cnt t m) {a k x : Nat} (hk : 1 ≤ k) : endN t m a k ≤ x ↔ cF t m a + k ≤ cF t m x := by
  obtain ⟨h1, h2, h3⟩ := endN_spec hc (a := a) hk
  constructor
  · intro h
    have := cF_mono (t := t) (m := m) h
    omega
  · intro h
    by_cases q : endN t m a k ≤ x
    · exact q
    · have := cF_mono (t := t) (m := m) (show x ≤ endN t m a k - 1 by omega)
      omega
theorem endN_uniq (hc : 0 < cnt t m) {a k x : Nat} (hk : 1 ≤ k) (h1 : cF t m x = cF t m a + k) (h2 : cF t m (x - 1) + 1 ≤ cF t m a + k) : endN t m a k = x := by
  have h3 := (endN_le hc (a := a) (x := x) hk).2 (by omega)
  obtain ⟨h4, h5, h6⟩ := endN_spec hc (a := a) hk
  by_cases q : x ≤ endN t m a k
  · omega
  · have := cF_mono (t := t) (m := m) (show endN t m a k ≤ x - 1 by omega)
    omega
theorem endN_period (hc : 0 < cnt t m) {a k : Nat} (hk : 1 ≤ k) : endN t m (a + t.length) k = endN t m a k + t.length := by
  obtain ⟨h4, h5, h6⟩ := endN_spec hc (a := a) hk
  apply endN_uniq hc hk
  · rw [cF_period, cF_period, h4]; omega
  · rw [show endN t m a k + t.length - 1 = (endN t m a k - 1) + t.length by omega, cF_period, cF_period]; omega
theorem endN_mul (hc : 0 < cnt t m) {a k : Nat} (hk : 1 ≤ k) : ∀ q, endN t m (q * t.length + a) k = q * t.length + endN t m a k
  | 0 => by simp
  | q + 1 => by
    have h := endN_mul hc (a := a) hk q
    rw [show (q + 1) * t.length + a = (q * t.length + a) + t.length by rw [Nat.add_mul]; omega, endN_period hc hk, h, Nat.add_mul]; omega
/-- how long so many ticks take from a moment on -/
def dl (t : List Int) (m : Int) (k a : Nat) : Int := (endN t m a k : Int) - a
theorem dl_mod (hc : 0 < cnt t m) {a k : Nat} (hk : 1 ≤ k) : dl t m k a = dl t m k (a % t.length) := by
  have := endN_mul hc (a := a % t.length) hk (a / t.length)
  have e : a / t.length * t.length + a % t.length = a := by rw [Nat.mul_comm]; exact Nat.div_add_mod a t.length
  rw [e] at this
  unfold dl
  rw [this]
  omega
theorem dl_pos (hc : 0 < cnt t m) {a k : Nat} (hk : 1 ≤ k) : 1 ≤ dl t m k a := by
  obtain ⟨h4, h5, h6⟩ := endN_spec hc (a := a) hk
  unfold dl; omega
/-- the master's ticks of a window at a moment -/
def wn (t : List Int) (m : Int) (w a : Nat) : Int := (cF t m (a + w) : Int) - cF t m a
theorem wn_nonneg (w a : Nat) : 0 ≤ wn t m w a := by
  have := cF_add (t := t) (m := m) a w
  unfold wn; omega
theorem wn_mod (w a : Nat) : wn t m w a = wn t m w (a % t.length) := by
  have h1 := cF_mul (t := t) (m := m) (a % t.length) (a / t.length)
  have h2 := cF_mul (t := t) (m := m) (a % t.length + w) (a / t.length)
  have e : a / t.length * t.length + a % t.length = a := by rw [Nat.mul_comm]; exact Nat.div_add_mod a t.length
  rw [← Nat.add_assoc, e] at h2
  rw [e] at h1
  unfold wn
  rw [h1, h2]
  simp only [Int.natCast_add]
  omega
theorem dl_le (hc : 0 < cnt t m) {a k w : Nat} (hk : 1 ≤ k) : dl t m k a ≤ w ↔ (k : Int) ≤ wn t m w a := by
  have := endN_le hc (a := a) (x := a + w) hk
  have := cF_add (t := t) (m := m) a w
  unfold dl wn
  omega
end
/-- the least, and the greatest, of the first k of some numbers -/
def lstF (f : Nat → Int) : Nat → Int
  | 0 => 0
  | k + 1 => if k = 0 then f 0 else min (lstF f k) (f k)
def mstF (f : Nat → Int) : Nat → Int
  | 0 => 0
  | k + 1 => max (mstF f k) (f k)
theorem lstF_le {f : Nat → Int} : ∀ {k j : Nat}, j < k → lstF f k ≤ f j
  | k + 1, j, h => by
    rw [lstF]
    split
    · rename_i e; subst e; obtain rfl : j = 0 := by omega
      exact Int.le_refl _
    · by_cases q : j = k
      · subst q; omega
      · have := lstF_le (f := f) (show j < k by omega)
        omega
theorem lstF_mem {f : Nat → Int} : ∀ {k : Nat}, 0 < k → ∃ j, j < k ∧ lstF f k = f j
  | k + 1, _ => by
    rw [lstF]
    split
    · rename_i e; subst e; exact ⟨0, by omega, rfl⟩
    · obtain ⟨j, h1, h2⟩ := lstF_mem (f := f) (show 0 < k by omega)
      rcases Int.le_total (lstF f k) (f k) with h | h
      · exact ⟨j, by omega, by omega⟩
      · exact ⟨k, by omega, by omega⟩
theorem mstF_ge {f : Nat → Int} : ∀ {k j : Nat}, j < k → f j ≤ mstF f k
  | k + 1, j, h => by
    rw [mstF]
    by_cases q : j = k
    · subst q; omega
    · have := mstF_ge (f := f) (show j < k by omega)
      omega
theorem mstF_mem {f : Nat → Int} (h0 : ∀ j, 0 ≤ f j) : ∀ {k : Nat}, 0 < k → ∃ j, j < k ∧ mstF f k = f j
  | k + 1, _ => by
    rw [mstF]
    by_cases e : k = 0
    · subst e; exact ⟨0, by omega, by have := h0 0; simp only [mstF]; omega⟩
    · obtain ⟨j, h1, h2⟩ := mstF_mem h0 (show 0 < k by omega)
      rcases Int.le_total (mstF f k) (f k) with h | h
      · exact ⟨k, by omega, by omega⟩
      · exact ⟨j, by omega, by omega⟩
theorem lst_le_mst {f : Nat → Int} {k : Nat} (hk : 0 < k) : lstF f k ≤ mstF f k := Int.le_trans (lstF_le hk) (mstF_ge hk)
/-- the best of the first k, and the first that has it -/
def bstF (gt : Bool) (f : Nat → Int) : Nat → P2
  | 0 => (0, 0)
  | k + 1 => if k = 0 ∨ (if gt then (bstF gt f k).1 < f k else f k < (bstF gt f k).1) then (f k, k) else bstF gt f k
theorem bstF_spec {gt : Bool} {f : Nat → Int} : ∀ {k : Nat}, 0 < k → ∃ j, j < k ∧ bstF gt f k = (f j, (j : Int)) ∧ ∀ i, i < k → if gt then f i ≤ f j else f j ≤ f i
  | k + 1, _ => by
    rw [bstF]
    by_cases e : k = 0
    · subst e
      rw [if_pos (.inl rfl)]
      refine ⟨0, by omega, rfl, fun i hi => ?_⟩
      obtain rfl : i = 0 := by omega
      split <;> omega
    · obtain ⟨j, h1, h2, h3⟩ := bstF_spec (gt := gt) (f := f) (show 0 < k by omega)
      rw [h2]
      by_cases h : (if gt = true then f j < f k else f k < f j)
      · rw [if_pos (.inr h)]
        refine ⟨k, by omega, rfl, fun i hi => ?_⟩
        by_cases q : i = k
        · subst q; split <;> omega
        · have := h3 i (by omega)
          cases gt <;> simp at * <;> omega
      · rw [if_neg (fun q => q.elim e h)]
        refine ⟨j, by omega, rfl, fun i hi => ?_⟩
        by_cases q : i = k
        · subst q
          cases gt <;> simp at * <;> omega
        · exact h3 i (by omega)
end Go.Proofs.Ytgldgomjlcojaaa
