/- Plain facts: slots turned by a number of ticks. No condition: plain lemmas. -/
import Derived.Test.YtgldgomjlcojaaaBsTell
namespace Go.Proofs.Ytgldgomjlcojaaa
open Go.RowKit
set_option linter.unusedSimpArgs false
set_option linter.unusedVariables false
/-- the slot of a tick, and how far in it the tick lies -/
def cutS : List P2 → Nat → Nat × Nat
  | [], n => (0, n)
  | s :: l, n => if s.2.toNat ≤ n then ((cutS l (n - s.2.toNat)).1 + 1, (cutS l (n - s.2.toNat)).2) else (0, n)
/-- the slots from a tick of slot k on -/
def rotL (l : List P2) (k : Nat) : List P2 := l.drop (k + 1) ++ l.take k
def rotS (l : List P2) (k n : Nat) : List P2 := match l[k]? with
  | some s => (s.1, s.2 - (n : Int)) :: rotL l k ++ (if n = 0 then [] else [(s.1, (n : Int))])
  | none => []
def turnR (l : List P2) (b : Int) : List P2 × Int :=
  if validS l && inB b 0 1000000 then
    (if (rotS l (cutS l (b.toNat % (tableS l).length)).1 (cutS l (b.toNat % (tableS l).length)).2).length ≤ 8 then (rotS l (cutS l (b.toNat % (tableS l).length)).1 (cutS l (b.toNat % (tableS l).length)).2, 0) else ([], 2))
  else ([], 1)
theorem cutS_lt : ∀ {l : List P2} {n : Nat}, n < (tableS l).length → (cutS l n).1 < l.length ∧ ∃ s, l[(cutS l n).1]? = some s ∧ (cutS l n).2 < s.2.toNat
  | [], n, h => by simp [tableS] at h
  | s :: l, n, h => by
    rw [tableS_cons] at h
    simp at h
    unfold cutS
    split
    · rename_i hs
      obtain ⟨h1, s', h2, h3⟩ := cutS_lt (l := l) (n := n - s.2.toNat) (by omega)
      exact ⟨by simp; omega, s', by simpa using h2, h3⟩
    · exact ⟨by simp, s, rfl, by omega⟩
/-- the table from a tick on -/
theorem cutS_drop : ∀ {l : List P2} {n : Nat}, n < (tableS l).length → ∀ s, l[(cutS l n).1]? = some s → (tableS l).drop n = List.replicate (s.2.toNat - (cutS l n).2) s.1 ++ tableS (l.drop ((cutS l n).1 + 1)) ∧ (tableS l).take n = tableS (l.take (cutS l n).1) ++ List.replicate (cutS l n).2 s.1
  | [], n, h, s, hs => by simp [tableS] at h
  | x :: l, n, h, s, hs => by
    have h' := h
    rw [tableS_cons] at h'
    simp at h'
    unfold cutS at hs ⊢
    rw [tableS_cons]
    split at hs
    · rename_i hx
      rw [if_pos hx]
      obtain ⟨h1, h2⟩ := cutS_drop (l := l) (n := n - x.2.toNat) (by omega) s (by simpa using hs)
      constructor
      · rw [List.drop_append, List.drop_of_length_le (by rw [List.length_replicate]; exact hx), List.nil_append, List.length_replicate, h1]; rfl
      · rw [List.take_append, List.take_of_length_le (by rw [List.length_replicate]; exact hx), List.length_replicate, h2]
        simp only [List.take_succ_cons]
        rw [tableS_cons, List.append_assoc]
    · rename_i hx
      rw [if_neg hx]
      simp at hs
      subst hs
      constructor
      · rw [List.drop_append_of_le_length (by simp; omega), List.drop_replicate]; rfl
      · rw [List.take_append_of_le_length (by simp; omega), List.take_replicate]
        simp [tableS]; congr 1; omega
theorem tableS_app (l k : List P2) : tableS (l ++ k) = tableS l ++ tableS k := by simp [tableS]
theorem rotS_table {l : List P2} {n : Nat} (h : n < (tableS l).length) : tableS (rotS l (cutS l n).1 (cutS l n).2) = (tableS l).drop n ++ (tableS l).take n := by
  obtain ⟨h1, s, hs, h2⟩ := cutS_lt h
  obtain ⟨h3, h4⟩ := cutS_drop h s hs
  rw [h3, h4]
  unfold rotS rotL
  rw [hs]
  simp only []
  rw [tableS_app, tableS_cons, tableS_app]
  have e1 : ((s.1, s.2 - ((cutS l n).2 : Int)) : P2).2.toNat = s.2.toNat - (cutS l n).2 := by simp only []; omega
  have e2 : tableS (if (cutS l n).2 = 0 then [] else [(s.1, ((cutS l n).2 : Int))]) = List.replicate (cutS l n).2 s.1 := by
    split
    · rename_i h0; rw [h0]; rfl
    · simp [tableS]
  rw [e1, e2]
  simp only [List.append_assoc]
theorem rotS_valid {l : List P2} (hv : validS l = true) {n : Nat} (h : n < (tableS l).length) (h8 : (rotS l (cutS l n).1 (cutS l n).2).length ≤ 8) : validS (rotS l (cutS l n).1 (cutS l n).2) = true := by
  obtain ⟨h1, s, hs, h2⟩ := cutS_lt h
  obtain ⟨v1, v2, v3⟩ := validS_iff.1 hv
  refine validS_iff.2 ⟨?_, h8, fun x hx => ?_⟩
  · unfold rotS; rw [hs]; simp
  · have hsv := v3 s (List.mem_of_getElem? hs)
    unfold rotS rotL at hx
    rw [hs] at hx
    simp only [List.cons_append, List.mem_cons, List.mem_append] at hx
    rcases hx with rfl | (hx | hx) | hx
    · simp only []; exact ⟨hsv.1, by omega, by omega⟩
    · exact v3 x (List.mem_of_mem_drop hx)
    · exact v3 x (List.mem_of_mem_take hx)
    · split at hx
      · simp at hx
      · simp at hx; subst hx; simp only []; exact ⟨hsv.1, by omega, by omega⟩
/-- its owners are those of the slots, so many ticks later -/
theorem turned_owner {l o : List P2} {b t : Int} (hT : turnR l b = (o, 0)) (ht : 0 ≤ t ∧ t ≤ 1000000) (hbt : b + t ≤ 1000000) : (0 ≤ b ∧ b ≤ 1000000) ∧ ∃ x : Int, ownR o t = (x, 0) ∧ ownR l (b + t) = (x, 0) := by
  unfold turnR at hT
  split at hT
  · rename_i hc
    rw [Bool.and_eq_true] at hc
    obtain ⟨hv, hb⟩ := hc
    obtain ⟨hb1, hb2⟩ := inB_iff.1 hb
    obtain ⟨bb, rfl⟩ := Int.eq_ofNat_of_zero_le hb1
    obtain ⟨tt, rfl⟩ := Int.eq_ofNat_of_zero_le ht.1
    simp only [Int.toNat_natCast] at hT
    obtain ⟨hl1, hl2⟩ := tableS_len hv
    have hlt : bb % (tableS l).length < (tableS l).length := Nat.mod_lt _ (by omega)
    split at hT
    · rename_i h8
      simp at hT
      subst hT
      have hv2 := rotS_valid hv hlt h8
      have htab := rotS_table hlt
      have hlen : (tableS (rotS l (cutS l (bb % (tableS l).length)).1 (cutS l (bb % (tableS l).length)).2)).length = (tableS l).length := by rw [htab]; simp; omega
      have hj : tt % (tableS l).length < (tableS l).length := Nat.mod_lt _ (by omega)
      have hadd : (bb + tt) % (tableS l).length = (bb % (tableS l).length + tt % (tableS l).length) % (tableS l).length := Nat.add_mod _ _ _
      have hk : (bb + tt) % (tableS l).length < (tableS l).length := Nat.mod_lt _ (by omega)
      obtain ⟨x, hx⟩ : ∃ x, (tableS l)[(bb + tt) % (tableS l).length]? = some x := ⟨_, List.getElem?_eq_getElem hk⟩
      refine ⟨⟨hb1, hb2⟩, x, ?_, ?_⟩
      · unfold ownR
        rw [hv2, inB_iff.2 ht]
        simp only [Bool.and_self, if_true, Int.toNat_natCast]
        rw [hlen, htab]
        generalize bb % (tableS l).length = n at *
        generalize tt % (tableS l).length = j at *
        congr 1
        rw [hadd] at hx
        by_cases q : n + j < (tableS l).length
        · rw [Nat.mod_eq_of_lt q] at hx
          rw [List.getElem?_append_left (by simp; omega), List.getElem?_drop, hx]; rfl
        · have e : (n + j) % (tableS l).length = n + j - (tableS l).length := by
            rw [Nat.mod_eq_sub_mod (by omega), Nat.mod_eq_of_lt (by omega)]
          rw [e] at hx
          rw [List.getElem?_append_right (by simp; omega), List.length_drop, List.getElem?_take_of_lt (by omega), show j - ((tableS l).length - n) = n + j - (tableS l).length by omega, hx]; rfl
      · unfold ownR
        rw [hv, inB_iff.2 ⟨by omega, hbt⟩, show ((bb : Int) + (tt : Int)).toNat = bb + tt by omega]
        simp only [Bool.and_self, if_true]
        rw [hx]; rfl
    · simp at hT
  · simp at hT
end Go.Proofs.Ytgldgomjlcojaaa
