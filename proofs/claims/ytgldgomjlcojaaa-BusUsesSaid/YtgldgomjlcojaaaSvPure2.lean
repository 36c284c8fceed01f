/- The reference's way of serving, in plain Lean; each master by itself. No condition: plain lemmas. -/
import Derived.Test.YtgldgomjlcojaaaSvPure
namespace Go.Proofs.Ytgldgomjlcojaaa
open Go.RowKit
set_option linter.unusedSimpArgs false
set_option linter.unusedVariables false
/-- the first that has not been served -/
def nxF (q : List Rq) (S : List Int) : Nat → Nat → Int → Int
  | 0, _, b => b
  | f + 1, i, b => nxF q S f (i + 1) (if (i : Int) ∉ S ∧ (b < 0 ∨ aheadQ q i b = true) then i else b)
theorem aheadQ_trans {q : List Rq} {a b c : Int} (h : aheadQ q a b = true) (k : aheadQ q b c = true) : aheadQ q a c = true := by rw [aheadQ_iff] at *; omega
theorem nxF_spec {q : List Rq} {S : List Int} : ∀ (f i : Nat) (b : Int), -1 ≤ b → b < i → (0 ≤ b → b ∉ S) → (∀ k : Nat, k < i → (k : Int) ∉ S → 0 ≤ b ∧ ((k : Int) = b ∨ aheadQ q b k = true)) →
    -1 ≤ nxF q S f i b ∧ nxF q S f i b < (i + f : Nat) ∧ (0 ≤ nxF q S f i b → nxF q S f i b ∉ S) ∧ (∀ k : Nat, k < i + f → (k : Int) ∉ S → 0 ≤ nxF q S f i b ∧ ((k : Int) = nxF q S f i b ∨ aheadQ q (nxF q S f i b) k = true))
  | 0, i, b, h1, h2, h3, h4 => ⟨h1, by simpa [nxF] using h2, h3, by simpa [nxF] using h4⟩
  | f + 1, i, b, h1, h2, h3, h4 => by
    rw [nxF, show i + (f + 1) = i + 1 + f by omega]
    by_cases hk : (i : Int) ∉ S ∧ (b < 0 ∨ aheadQ q i b = true)
    · rw [if_pos hk]
      refine nxF_spec f (i + 1) i (by omega) (by omega) (fun _ => hk.1) (fun k hki hq => ⟨by omega, ?_⟩)
      rcases Nat.lt_succ_iff_lt_or_eq.1 hki with hki | rfl
      · obtain ⟨g1, g2⟩ := h4 k hki hq
        right
        rcases hk.2 with h | h
        · omega
        · rcases g2 with e | e
          · rw [e]; exact h
          · exact aheadQ_trans h e
      · exact .inl rfl
    · rw [if_neg hk]
      refine nxF_spec f (i + 1) b h1 (by omega) h3 (fun k hki hq => ?_)
      rcases Nat.lt_succ_iff_lt_or_eq.1 hki with hki | rfl
      · exact h4 k hki hq
      · have h5 : ¬ (b < 0 ∨ aheadQ q k b = true) := fun r => hk ⟨hq, r⟩
        have h6 : ¬ b < 0 := fun r => h5 (.inl r)
        have h7 : ¬ aheadQ q k b = true := fun r => h5 (.inr r)
        rw [aheadQ_iff] at h7
        refine ⟨by omega, ?_⟩
        rw [aheadQ_iff]; omega
theorem take_not {q : List Rq} {p : Nat} {k : Int} (h : (ordQ q)[p]? = some k) : k ∉ (ordQ q).take p := by
  intro hm
  obtain ⟨t, ht⟩ := List.getElem?_of_mem hm
  rw [List.getElem?_take] at ht
  split at ht
  · rename_i hlt
    have := (ord_ahead ht h).2 hlt
    rw [aheadQ_iff] at this; omega
  · simp at ht
theorem nxF_eq {q : List Rq} {p : Nat} {k : Int} (h : (ordQ q)[p]? = some k) : nxF q ((ordQ q).take p) q.length 0 (-1) = k := by
  obtain ⟨h1, h2, h3, h4⟩ := nxF_spec (q := q) (S := (ordQ q).take p) q.length 0 (-1) (by omega) (by omega) (fun h => by omega) (fun k hk => by omega)
  obtain ⟨r, hr⟩ : ∃ r, nxF q ((ordQ q).take p) q.length 0 (-1) = r := ⟨_, rfl⟩
  rw [hr] at h1 h2 h3 h4 ⊢
  have hk := ordQ_mem.1 (List.mem_of_getElem? h)
  obtain ⟨n, rfl⟩ := Int.eq_ofNat_of_zero_le hk.1
  obtain ⟨g1, g2⟩ := h4 n (by omega) (take_not h)
  rcases g2 with e | e
  · exact e.symm
  · have hrm : r ∈ ordQ q := ordQ_mem.2 ⟨g1, by omega⟩
    obtain ⟨p', hp'⟩ := ord_pos hrm
    have hlt := (ord_ahead hp' h).1 e
    refine absurd (List.mem_of_getElem? (i := p') ?_) (h3 g1)
    rw [List.getElem?_take, if_pos hlt]; exact hp'
/-- where it begins -/
def mxF (T : List Int) (q : List Rq) (S : List Int) (m : Int) : Nat → Nat → Int → Int
  | 0, _, x => x
  | f + 1, i, x => mxF T q S m f (i + 1) (if (i : Int) ∈ S ∧ (rqAt q i).m = m then max x (enN T q i) else x)
theorem mxF_ge {T : List Int} {q : List Rq} {S : List Int} {m : Int} : ∀ (f i : Nat) (x : Int), x ≤ mxF T q S m f i x ∧ ∀ k : Nat, i ≤ k → k < i + f → (k : Int) ∈ S → (rqAt q k).m = m → (enN T q k : Int) ≤ mxF T q S m f i x
  | 0, i, x => ⟨Int.le_refl _, fun k h1 h2 => by omega⟩
  | f + 1, i, x => by
    rw [mxF]
    obtain ⟨h1, h2⟩ := mxF_ge (T := T) (q := q) (S := S) (m := m) f (i + 1) (if (i : Int) ∈ S ∧ (rqAt q i).m = m then max x (enN T q i) else x)
    refine ⟨?_, fun k h3 h4 h5 h6 => ?_⟩
    · refine Int.le_trans ?_ h1
      split <;> omega
    · by_cases e : k = i
      · subst e
        refine Int.le_trans ?_ h1
        rw [if_pos ⟨h5, h6⟩]; omega
      · exact h2 k (by omega) (by omega) h5 h6
theorem mxF_le {T : List Int} {q : List Rq} {S : List Int} {m B : Int} (hB : ∀ k : Nat, (k : Int) ∈ S → (rqAt q k).m = m → (enN T q k : Int) ≤ B) : ∀ (f i : Nat) (x : Int), x ≤ B → mxF T q S m f i x ≤ B
  | 0, i, x, h => h
  | f + 1, i, x, h => by
    rw [mxF]
    refine mxF_le hB f (i + 1) _ ?_
    split
    · rename_i hc
      have := hB i hc.1 hc.2
      omega
    · exact h
theorem mxF_eq {T : List Int} {q : List Rq} (hk : OkQ T q) {p : Nat} {k : Int} (h : (ordQ q)[p]? = some k) : mxF T q ((ordQ q).take p) (rqAt q k).m q.length 0 (rqAt q k).o = bgN T q k := by
  have ho := (ord_rq hk (List.mem_of_getElem? h)).2.2
  have hp := preQ_take h
  apply Int.le_antisymm
  · refine mxF_le (fun i hi hm => ?_) _ _ _ ?_
    · have := en_le_free hk hi hm
      unfold bgN; rw [hp]; omega
    · unfold bgN; omega
  · obtain ⟨h1, h2⟩ := mxF_ge (T := T) (q := q) (S := (ordQ q).take p) (m := (rqAt q k).m) q.length 0 (rqAt q k).o
    unfold bgN
    rw [hp]
    rcases free_src (T := T) (q := q) (rqAt q k).m p with e | ⟨i, hi, hm, e⟩
    · rw [e]; omega
    · rw [e]
      have him := ordQ_mem.1 (List.mem_of_mem_take hi)
      obtain ⟨n, rfl⟩ := Int.eq_ofNat_of_zero_le him.1
      have := h2 n (by omega) (by omega) hi hm
      omega
end Go.Proofs.Ytgldgomjlcojaaa
