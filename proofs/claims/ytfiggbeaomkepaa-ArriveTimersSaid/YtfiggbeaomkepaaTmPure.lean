/- The moments of a timer, step by step. No condition: plain lemmas. -/
import Derived.Test.YtfiggbeaomkepaaClk
namespace Go.Proofs.Ytfiggbeaomkepaa
open Go.RowKit
set_option linter.unusedSimpArgs false
set_option linter.unusedVariables false
/-- the reading of the first alarm; those behind it -/
def baseT (o n : Int) : Int := (o / n + 1) * n
def rdT (o n : Int) (k : Nat) : Int := baseT o n + k * n
def atT (o a d n : Int) (k : Nat) : Int := whenN o a d (rdT o n k)
def lastT (o a d n : Int) : Nat → Int
  | 0 => -1
  | k + 1 => atT o a d n k
def preT (o a d n : Int) : Nat → List Int
  | 0 => []
  | k + 1 => if atT o a d n k = lastT o a d n k then preT o a d n k else preT o a d n k ++ [atT o a d n k]
structure TmOk (o a d n : Int) : Prop where
  v : vclk o a d = true
  n : 1 ≤ n ∧ n ≤ 10000
section
variable {o a d n : Int}
theorem TmOk.base (h : TmOk o a d n) : o < baseT o n ∧ baseT o n ≤ o + n := by
  have hn := h.n
  unfold baseT
  have e := Int.emod_add_mul_ediv o n
  have h0 := Int.emod_nonneg o (show n ≠ 0 by omega)
  have h1 := Int.emod_lt_of_pos o (show 0 < n by omega)
  rw [Int.add_mul, Int.mul_comm (o / n) n]
  omega
theorem rdT_succ (k : Nat) : rdT o n (k + 1) = rdT o n k + n := by
  unfold rdT
  rw [show ((k + 1 : Nat) : Int) = (k : Int) + 1 by omega, Int.add_mul]; omega
theorem TmOk.rd (h : TmOk o a d n) : ∀ k : Nat, o < rdT o n k
  | 0 => by have := h.base; unfold rdT; simp; omega
  | k + 1 => by have := h.rd k; have := h.n; rw [rdT_succ]; omega
/-- the numerator -/
def xT (o d n : Int) (k : Nat) : Int := (rdT o n k - o) * d
theorem xT_succ (k : Nat) : xT o d n (k + 1) = xT o d n k + n * d := by
  unfold xT
  rw [rdT_succ, show rdT o n k + n - o = (rdT o n k - o) + n by omega, Int.add_mul]
theorem TmOk.x0 (h : TmOk o a d n) (k : Nat) : 1 ≤ xT o d n k := by
  have h1 := h.rd k
  have h2 := (vclk_iff.1 h.v).2.2
  unfold xT
  have := Int.mul_le_mul (a := 1) (b := 1) (c := rdT o n k - o) (d := d) (by omega) (by omega) (by omega) (by omega)
  omega
theorem TmOk.at_ (h : TmOk o a d n) (k : Nat) : atT o a d n k = (xT o d n k + a - 1) / a := by
  have h1 := h.rd k
  unfold atT whenN xT
  rw [if_neg (by omega)]
theorem TmOk.ceil (h : TmOk o a d n) (k : Nat) : xT o d n k ≤ atT o a d n k * a ∧ atT o a d n k * a ≤ xT o d n k + a - 1 := by
  have ha := (vclk_iff.1 h.v).2.1
  rw [h.at_ k]
  have e := Int.emod_add_mul_ediv (xT o d n k + a - 1) a
  have h0 := Int.emod_nonneg (xT o d n k + a - 1) (show a ≠ 0 by omega)
  have h1 := Int.emod_lt_of_pos (xT o d n k + a - 1) (show 0 < a by omega)
  rw [Int.mul_comm ((xT o d n k + a - 1) / a) a]
  omega
theorem TmOk.pos (h : TmOk o a d n) (k : Nat) : 1 ≤ atT o a d n k := by
  have h1 := (h.ceil k).1
  have h2 := h.x0 k
  have ha := (vclk_iff.1 h.v).2.1
  rcases Int.lt_or_le (atT o a d n k) 1 with q | q
  · have := Int.mul_le_mul_of_nonneg_right (show atT o a d n k ≤ 0 by omega) (show 0 ≤ a by omega)
    omega
  · exact q
/-- how far two neighbours are apart -/
def gapT (a d n : Int) : Int := max (n * d / a) 1
theorem TmOk.step (h : TmOk o a d n) (k : Nat) : atT o a d n k ≤ atT o a d n (k + 1) ∧ (atT o a d n (k + 1) ≠ atT o a d n k → atT o a d n k + gapT a d n ≤ atT o a d n (k + 1)) := by
  have ha := (vclk_iff.1 h.v).2.1
  have hd := (vclk_iff.1 h.v).2.2
  have hn := h.n
  have c1 := h.ceil k
  have c2 := h.ceil (k + 1)
  rw [xT_succ] at c2
  have hnd : 0 ≤ n * d := Int.mul_nonneg (by omega) (by omega)
  have hq := Int.ediv_mul_le (n * d) (show a ≠ 0 by omega)
  have hq0 := Int.ediv_nonneg hnd (show 0 ≤ a by omega)
  have key : atT o a d n k + n * d / a ≤ atT o a d n (k + 1) := by
    rcases Int.lt_or_le (atT o a d n (k + 1)) (atT o a d n k + n * d / a) with q | q
    · have := Int.mul_le_mul_of_nonneg_right (show atT o a d n (k + 1) ≤ atT o a d n k + n * d / a - 1 by omega) (show 0 ≤ a by omega)
      rw [Int.sub_mul, Int.add_mul] at this
      omega
    · exact q
  refine ⟨by omega, fun hne => ?_⟩
  unfold gapT; omega
theorem TmOk.lastle (h : TmOk o a d n) : ∀ k : Nat, lastT o a d n k ≤ atT o a d n k ∧ (atT o a d n k ≠ lastT o a d n k → lastT o a d n k < atT o a d n k)
  | 0 => by have := h.pos 0; show (-1 : Int) ≤ _ ∧ (_ → (-1 : Int) < _); omega
  | k + 1 => by have := (h.step k).1; show atT o a d n k ≤ _ ∧ _; exact ⟨this, fun q => by have : atT o a d n (k + 1) ≠ atT o a d n k := q; show atT o a d n k < _; omega⟩
/-- how far the readings have come when so many alarms have come -/
theorem TmOk.far (h : TmOk o a d n) : ∀ k : Nat, lastT o a d n k * a ≤ ((preT o a d n k).length : Int) * (n * d + a) ∧ xT o d n k ≤ ((preT o a d n k).length : Int) * (n * d + a) + n * d
  | 0 => by
    have ha := (vclk_iff.1 h.v).2.1
    have hd := (vclk_iff.1 h.v).2.2
    have hb := h.base
    unfold preT lastT xT rdT
    simp only [List.length_nil, Int.natCast_zero, Int.zero_mul, Int.add_zero, Int.zero_add]
    refine ⟨by omega, ?_⟩
    exact Int.mul_le_mul_of_nonneg_right (by omega) (by omega)
  | k + 1 => by
    obtain ⟨h1, h2⟩ := h.far k
    have c := h.ceil k
    have ha := (vclk_iff.1 h.v).2.1
    have hd := (vclk_iff.1 h.v).2.2
    have hn := h.n
    have hnd : 0 ≤ n * d := Int.mul_nonneg (by omega) (by omega)
    rw [xT_succ, preT]
    show atT o a d n k * a ≤ _ ∧ _
    split
    · rename_i e
      rw [← e] at h1
      exact ⟨h1, by omega⟩
    · rw [List.length_append, List.length_singleton, show (((preT o a d n k).length + 1 : Nat) : Int) = ((preT o a d n k).length : Int) + 1 by omega, Int.add_mul]
      omega
theorem TmOk.bound (h : TmOk o a d n) {k : Nat} (hl : (preT o a d n k).length ≤ 40) : -1000000 ≤ rdT o n k ∧ rdT o n k ≤ 1450000 := by
  have h2 := (h.far k).2
  obtain ⟨ho, ha, hd⟩ := vclk_iff.1 h.v
  have hn := h.n
  have h0 := h.rd k
  have hnd : 0 ≤ n * d := Int.mul_nonneg (by omega) (by omega)
  have h3 : ((preT o a d n k).length : Int) * (n * d + a) ≤ 40 * (n * d + a) := Int.mul_le_mul_of_nonneg_right (by omega) (by omega)
  have h4 : a ≤ a * d := by have := Int.mul_le_mul_of_nonneg_left hd.1 (show 0 ≤ a by omega); omega
  have h5 : (rdT o n k - o) * d ≤ (41 * n + 40 * a) * d := by
    have e : (41 * n + 40 * a) * d = 41 * (n * d) + 40 * (a * d) := by rw [Int.add_mul, Int.mul_assoc, Int.mul_assoc]
    have : xT o d n k = (rdT o n k - o) * d := rfl
    omega
  have h6 := Int.le_of_mul_le_mul_right h5 (by omega)
  omega
theorem preT_step (k : Nat) : preT o a d n k <+: preT o a d n (k + 1) := by
  rw [preT]
  split
  · exact List.prefix_refl _
  · exact List.prefix_append _ _
theorem preT_mono {j k : Nat} (h : j ≤ k) : preT o a d n j <+: preT o a d n k := by
  induction k with
  | zero => rw [show j = 0 by omega]; exact List.prefix_refl _
  | succ k ih =>
    by_cases e : j = k + 1
    · rw [e]; exact List.prefix_refl _
    · exact (ih (by omega)).trans (preT_step k)
theorem preT_new {k : Nat} (h : atT o a d n k ≠ lastT o a d n k) : preT o a d n (k + 1) = preT o a d n k ++ [atT o a d n k] := by rw [preT, if_neg h]
theorem preT_same {k : Nat} (h : atT o a d n k = lastT o a d n k) : preT o a d n (k + 1) = preT o a d n k := by rw [preT, if_pos h]
/-- what has come: ascending, as far apart as told, the last one at the end -/
structure TmL (g : Int) (last : Int) (l : List Int) : Prop where
  ne : l ≠ [] → l[l.length - 1]? = some last
  ge : ∀ x ∈ l, 1 ≤ x ∧ x ≤ last
  gap : ∀ (i : Nat) (x y : Int), l[i]? = some x → l[i + 1]? = some y → x + g ≤ y
theorem TmL.snoc {g last x : Int} {l : List Int} (h : TmL g last l) (h1 : 1 ≤ x) (hlx : last ≤ x) (hg : l ≠ [] → last + g ≤ x) : TmL g x (l ++ [x]) := by
  refine ⟨fun _ => by simp, fun y hy => ?_, fun i y z hy hz => ?_⟩
  · rcases List.mem_append.1 hy with hy | hy
    · have := h.ge y hy; omega
    · simp at hy; omega
  · by_cases e : i + 1 < l.length
    · rw [List.getElem?_append_left (by omega)] at hy
      rw [List.getElem?_append_left e] at hz
      exact h.gap i y z hy hz
    · have hz2 := (List.getElem?_eq_some_iff.1 hz).1
      simp only [List.length_append, List.length_singleton] at hz2
      have e2 : i + 1 = l.length := by omega
      rw [List.getElem?_append_right (by omega), e2] at hz
      simp at hz
      rw [List.getElem?_append_left (by omega)] at hy
      have hne : l ≠ [] := fun q => by rw [q] at e2; simp at e2
      have := h.ne hne
      rw [show l.length - 1 = i by omega, hy] at this
      simp at this
      have := hg hne
      omega
theorem TmOk.list (h : TmOk o a d n) : ∀ k : Nat, TmL (gapT a d n) (lastT o a d n k) (preT o a d n k) ∧ (preT o a d n k = [] → k = 0)
  | 0 => ⟨⟨fun q => absurd rfl q, fun x hx => (by cases hx), fun i x y hx => (by cases hx)⟩, fun _ => rfl⟩
  | k + 1 => by
    obtain ⟨h1, h2⟩ := h.list k
    by_cases e : atT o a d n k = lastT o a d n k
    · have hne : preT o a d n k ≠ [] := fun q => by
        have := h2 q
        subst this
        have := h.pos 0
        have e' : atT o a d n 0 = -1 := e
        omega
      rw [preT_same e]
      refine ⟨?_, fun q => absurd q hne⟩
      show TmL _ (atT o a d n k) _
      rw [e]; exact h1
    · rw [preT_new e]
      refine ⟨?_, fun q => by simp at q⟩
      show TmL _ (atT o a d n k) _
      refine h1.snoc (h.pos k) (h.lastle k).1 (fun hne => ?_)
      match k, h1, e, hne with
      | 0, _, _, hne => exact absurd rfl hne
      | k + 1, _, e, _ => exact (h.step k).2 e
/-- what Timer gives -/
structure IsTm (o a d n u : Int) (l : List Int) : Prop where
  le : ∀ x ∈ l, x ≤ u
  len : l.length ≤ 40
  at_ : ∃ k : Nat, l = preT o a d n k ∧ (l.length = 40 ∨ u < atT o a d n k)
theorem IsTm.half (h : TmOk o a d n) {u : Int} {j k : Nat} (hjk : j ≤ k) (h1 : ∀ x ∈ preT o a d n k, x ≤ u) (h2 : (preT o a d n k).length ≤ 40) (hj : (preT o a d n j).length = 40 ∨ u < atT o a d n j) : preT o a d n j = preT o a d n k := by
  have hp := preT_mono (o := o) (a := a) (d := d) (n := n) hjk
  rcases hj with hj | hj
  · exact hp.eq_of_length_le (by omega)
  · by_cases e : j = k
    · rw [e]
    · exfalso
      have hp2 := preT_mono (o := o) (a := a) (d := d) (n := n) (show j + 1 ≤ k by omega)
      by_cases q : atT o a d n j = lastT o a d n j
      · match j, hj, q, hp with
        | 0, _, q, _ =>
          have := h.pos 0
          have q' : atT o a d n 0 = -1 := q
          omega
        | j + 1, hj, q, hp =>
          have hl := (h.list (j + 1)).1
          have hne : preT o a d n (j + 1) ≠ [] := fun z => by have := (h.list (j + 1)).2 z; omega
          have hm := List.mem_of_getElem? (hl.ne hne)
          have := h1 _ (hp.subset hm)
          omega
      · rw [preT_new q] at hp2
        have := h1 _ (hp2.subset (List.mem_append_right _ (List.mem_singleton.2 rfl)))
        omega
theorem IsTm.unique (h : TmOk o a d n) {u : Int} {l l' : List Int} (h1 : IsTm o a d n u l) (h2 : IsTm o a d n u l') : l = l' := by
  obtain ⟨j, rfl, hj⟩ := h1.at_
  obtain ⟨k, rfl, hk⟩ := h2.at_
  rcases Nat.le_total j k with q | q
  · exact IsTm.half h q h2.le h2.len hj
  · exact (IsTm.half h q h1.le h1.len hk).symm
/-- a first alarm -/
theorem TmOk.first (h : TmOk o a d n) {k : Nat} (hp : preT o a d n k = []) : atT o a d n k = atT o a d n 0 := by
  rw [(h.list k).2 hp]
end
end Go.Proofs.Ytfiggbeaomkepaa
