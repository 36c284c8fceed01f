/- The contract of many: where it says no, the tasks are few. The conditions: the tasks read as named. -/
import Derived.Test.YtabbmnnohnfbeaaTkProg
namespace Go.Proofs.Ytabbmnnohnfbeaa
open Go.RowKit
set_option linter.unusedSimpArgs false
set_option linter.unusedVariables false
def addP : Nat → List Ta → Nat
  | n, [] => n
  | n, t :: g => if n < 400 then addP (n + t.pcs.length) g else n
def manyL (n : Nat) (g : List Ta) : Bool := decide (400 ≤ addP n g)
theorem many_no : ∀ (g : List Ta) (n : Nat), addP n g < 400 → n < 400 ∧ ∀ t ∈ g, t.pcs.length < 400
  | [], n, h => ⟨h, by simp⟩
  | t :: g, n, h => by
    unfold addP at h
    split at h
    · obtain ⟨h1, h2⟩ := many_no g _ h
      refine ⟨by omega, fun u hu => ?_⟩
      rcases List.mem_cons.1 hu with rfl | hu
      · omega
      · exact h2 u hu
    · omega
theorem many_any (a : Option Addr) (n c : Nat) (L : List Ta) (w : World) (hL : RdL w a n L) (hT : ∀ t ∈ L, t.pcs.length ≤ 281474976710656) :
    Calls Try.prog 15 #[.slice a n c] w fun e w' => e = .returned (.bool (manyL n L)) ∧ w = w' := by
  have HR := Lib.hid hL
  have hs := hL.small
  have HTS := Lib.hid hT
  have HG0 := Lib.hid hL.length
  obtain ⟨R, hR⟩ : ∃ R, R = addP n L := ⟨_, rfl⟩
  have HST : Hid (addP n (L.drop 0) = R) := Lib.hid hR.symm
  rw [show manyL n L = decide (400 ≤ R) by rw [manyL, hR]]
  clear hL hT hR
  go_enter Try.func15, Try.ntmps15
  go_wp2
  go_loop [3, 4] (fun v i => ∃ (k m : Nat), k ≤ n ∧ v = .int .i64 m ∧ i = .int .i64 k ∧ addP m (L.drop k) = R ∧ (m : Int) ≤ 9223372036854775807) (fun _ i => n - (intOf i).toNat)
  case atStart => exact ⟨0, n, Nat.zero_le _, rfl, rfl, HST.out, by omega⟩
  case round =>
    obtain ⟨k, m, hk, rfl, rfl, he, hm⟩ := hrel
    have HE := Lib.hid he
    clear he
    by_cases hlt : k < n
    · obtain ⟨u, b, off, pa, pn, pc, rfl, hb, _, _, _, _, _, c5, hp, _, hg, HD⟩ := HR.out.at_ k hlt
      have htn : pn ≤ 281474976710656 := by rw [← hp.length]; exact HTS.out _ (List.mem_of_getElem? hg)
      have HE2 : Hid ((if m < 400 then addP (m + pn) (L.drop (k + 1)) else m) = R) := by have := HE.out; rw [HD.out, addP, hp.length] at this; exact this
      clear HE hp hg HD
      by_cases hm4 : m < 400
      · rw [if_pos hm4] at HE2
        have hm4' : (m : Int) < 400 := by omega
        go_wp2
        go_round
        case rel => exact ⟨k + 1, m + pn, by omega, by go_num, by go_num, HE2.out, by omega⟩
        case measure => simp [intOf]; omega
      · rw [if_neg hm4] at HE2
        have hv := HE2.out
        subst hv
        have hm4' : ¬ (m : Int) < 400 := by omega
        go_wp2
        go_ret
        exact ⟨ret_bool (by simp <;> omega), rfl⟩
    · have hv : R = m := by rw [← HE.out, drop_end HG0.out (by omega)]; rfl
      subst hv
      go_wp2
      go_ret
      exact ⟨ret_bool (by simp <;> omega), rfl⟩
/-- what it says of tasks -/
theorem manyL_no {n : Nat} {L : List Ta} (h : manyL n L = false) : n < 400 ∧ ∀ t ∈ L, t.pcs.length < 400 := many_no L n (by simpa [manyL] using h)
/-- the ceiling of a lock that is used -/
theorem ceil_used {L : List Ta} {i j : Nat} {u : Ta} {v : P2} (hu : L[i]? = some u) (hv : u.pcs[j]? = some v) : 0 ≤ ceilG L v.2 ∧ ceilG L v.2 < L.length ∧ ¬ Ahead L i (ceilG L v.2) := by
  have hc := isCeil L v.2
  have hus : uses L i v.2 := ⟨v, by rw [taAt_of hu]; exact List.mem_of_getElem? hv, rfl⟩
  have hi := (List.getElem?_eq_some_iff.1 hu).1
  rcases Int.lt_or_le (ceilG L v.2) 0 with h | h
  · exact absurd hus (hc.none_ h i hi)
  · refine ⟨h, hc.hi, fun ha => ?_⟩
    by_cases e : (i : Int) = ceilG L v.2
    · rw [← e] at ha; exact ahead_irr _ ha
    · exact ahead_asym _ _ ((hc.some_ h).2 i hi hus e) ha
end Go.Proofs.Ytabbmnnohnfbeaa
