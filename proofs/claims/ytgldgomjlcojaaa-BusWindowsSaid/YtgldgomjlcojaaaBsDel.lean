/- Plain facts: delays and windows. No condition: plain lemmas. -/
import Derived.Test.YtgldgomjlcojaaaBsFar
namespace Go.Proofs.Ytgldgomjlcojaaa
open Go.RowKit
set_option linter.unusedSimpArgs false
set_option linter.unusedVariables false
theorem farR_ok {gt : Bool} {l : List P2} {m k d a : Int} (h : farR gt l m k = (d, a, 0)) : validS l = true ∧ (0 ≤ m ∧ m ≤ 3) ∧ (1 ≤ k ∧ k ≤ 100) ∧ 0 < cnt (tableS l) m ∧ d = (bstF gt (dl (tableS l) m k.toNat) (tableS l).length).1 := by
  unfold farR at h
  split at h
  · rename_i hc
    rw [Bool.and_eq_true] at hc
    obtain ⟨h1, h2, h3⟩ := okR_iff.1 hc.2
    split at h
    · simp at h
    · rename_i h0
      simp at h
      exact ⟨hc.1, h1, h3, by omega, h.1.symm⟩
  · simp at h
theorem farR_mk {gt : Bool} {l : List P2} {m k : Int} (hv : validS l = true) (hm : 0 ≤ m ∧ m ≤ 3) (hk : 1 ≤ k ∧ k ≤ 100) (hc : 0 < cnt (tableS l) m) :
    farR gt l m k = ((bstF gt (dl (tableS l) m k.toNat) (tableS l).length).1, (bstF gt (dl (tableS l) m k.toNat) (tableS l).length).2, 0) := by
  unfold farR
  rw [hv, okR_iff.2 ⟨hm, ⟨by omega, by omega⟩, hk⟩, Bool.and_self, if_pos rfl, if_neg (by omega)]
/-- a request alone takes at most Worst, at least Best -/
theorem delays_end {l : List P2} {m o k n e w a g b c i : Int} (hE : endR l m o k = (n, e)) (h0 : e = 0) (hW : farR true l m k = (w, a, g)) (hB : farR false l m k = (b, c, i)) :
    (0 ≤ o ∧ o ≤ 10000) ∧ (0 ≤ n ∧ n ≤ 1000000) ∧ n - o ≤ w ∧ b ≤ n - o := by
  subst h0
  unfold endR at hE
  split at hE
  · rename_i hc
    rw [Bool.and_eq_true] at hc
    obtain ⟨hm, ho, hk⟩ := okR_iff.1 hc.2
    split at hE
    · simp at hE
    · rename_i hc0
      have hcp : 0 < cnt (tableS l) m := by omega
      obtain ⟨hl1, hl2⟩ := tableS_len hc.1
      rw [farR_mk hc.1 hm hk hcp] at hW hB
      simp at hE hW hB
      obtain ⟨oo, rfl⟩ := Int.eq_ofNat_of_zero_le ho.1
      obtain ⟨kk, rfl⟩ := Int.eq_ofNat_of_zero_le (show 0 ≤ k by omega)
      simp only [Int.toNat_natCast] at hE hW hB
      have hk1 : 1 ≤ kk := by omega
      have hlt : oo % (tableS l).length < (tableS l).length := Nat.mod_lt _ (by omega)
      have hd : dl (tableS l) m kk oo = n - oo := by unfold dl; omega
      obtain ⟨j, hj, e1, h1⟩ := bstF_spec (gt := true) (f := dl (tableS l) m kk) (k := (tableS l).length) (by omega)
      obtain ⟨j2, hj2, e2, h2⟩ := bstF_spec (gt := false) (f := dl (tableS l) m kk) (k := (tableS l).length) (by omega)
      have h3 := h1 _ hlt
      have h4 := h2 _ hlt
      rw [← dl_mod hcp hk1] at h3 h4
      simp only [if_true, Bool.false_eq_true, if_false] at h3 h4
      rw [e1] at hW
      rw [e2] at hB
      simp only [] at hW hB
      have hEs : endN (tableS l) m oo kk ≤ 1000000 := (endN_le hcp hk1).2 (by
        have g1 := cF_mul (t := tableS l) (m := m) oo (kk + 1)
        have g2 := cF_mono (t := tableS l) (m := m) (show (kk + 1) * (tableS l).length + oo ≤ 1000000 by have := Nat.mul_le_mul (show kk + 1 ≤ 101 by omega) hl2; omega)
        have g3 : kk + 1 ≤ (kk + 1) * cnt (tableS l) m := Nat.le_mul_of_pos_right _ hcp
        omega)
      omega
  · simp at hE
theorem lst_step {t : List Int} {m : Int} (w : Nat) (hl : 0 < t.length) : lstF (wn t m w) t.length ≤ lstF (wn t m (w + 1)) t.length ∧ lstF (wn t m (w + 1)) t.length ≤ lstF (wn t m w) t.length + 1 := by
  have hs : ∀ a, wn t m w a ≤ wn t m (w + 1) a ∧ wn t m (w + 1) a ≤ wn t m w a + 1 := fun a => by
    have := cF_step (t := t) (m := m) (a + w)
    unfold wn
    rw [← Nat.add_assoc]; omega
  obtain ⟨j, hj, e⟩ := lstF_mem (f := wn t m w) hl
  obtain ⟨j2, hj2, e2⟩ := lstF_mem (f := wn t m (w + 1)) hl
  have h1 := lstF_le (f := wn t m w) hj2
  have h2 := lstF_le (f := wn t m (w + 1)) hj
  have h3 := hs j
  have h4 := hs j2
  omega
/-- Worst is the least window whose Least is the number of ticks -/
theorem delays_worst {l : List P2} {m k w a : Int} (hW : farR true l m k = (w, a, 0)) (hw : w ≤ 10000) :
    (1 ≤ w) ∧ (1 ≤ k ∧ k ≤ 100) ∧ (∃ c, winR l m w = (k, c, 0)) ∧ ∃ c, winR l m (w - 1) = (k - 1, c, 0) := by
  obtain ⟨hv, hm, hk, hc, hd⟩ := farR_ok hW
  obtain ⟨hl1, hl2⟩ := tableS_len hv
  obtain ⟨kk, rfl⟩ := Int.eq_ofNat_of_zero_le (show 0 ≤ k by omega)
  simp only [Int.toNat_natCast] at hd
  have hk1 : 1 ≤ kk := by omega
  obtain ⟨j, hj, e1, h1⟩ := bstF_spec (gt := true) (f := dl (tableS l) m kk) (k := (tableS l).length) (by omega)
  rw [e1] at hd
  simp only [if_true] at h1 hd
  have hp := dl_pos hc hk1 (a := j)
  obtain ⟨v, hv2⟩ := Int.eq_ofNat_of_zero_le (show 0 ≤ w - 1 by omega)
  obtain rfl : w = ((v + 1 : Nat) : Int) := by simp; omega
  have hlen : 0 < (tableS l).length := by omega
  have g1 : (kk : Int) ≤ lstF (wn (tableS l) m (v + 1)) (tableS l).length := by
    obtain ⟨i, hi, e⟩ := lstF_mem (f := wn (tableS l) m (v + 1)) hlen
    rw [e, ← dl_le hc hk1]
    have := h1 i hi
    omega
  have g2 : lstF (wn (tableS l) m v) (tableS l).length < kk := by
    have h2 := lstF_le (f := wn (tableS l) m v) hj
    have h3 := dl_le hc (a := j) (w := v) hk1
    by_cases q : (kk : Int) ≤ wn (tableS l) m v j
    · have := h3.2 q; omega
    · omega
  have g3 := lst_step (t := tableS l) (m := m) v hlen
  refine ⟨by omega, hk, ⟨mstF (wn (tableS l) m (v + 1)) (tableS l).length, ?_⟩, ⟨mstF (wn (tableS l) m v) (tableS l).length, ?_⟩⟩
  · unfold winR winOk
    rw [hv, inB_iff.2 hm, inB_iff.2 ⟨by omega, hw⟩]
    simp only [Bool.and_self, if_true, Int.toNat_natCast]
    congr 1; omega
  · unfold winR winOk
    rw [show ((v + 1 : Nat) : Int) - 1 = (v : Int) by omega, hv, inB_iff.2 hm, inB_iff.2 ⟨by omega, by omega⟩]
    simp only [Bool.and_self, if_true, Int.toNat_natCast]
    congr 1; omega
end Go.Proofs.Ytgldgomjlcojaaa
