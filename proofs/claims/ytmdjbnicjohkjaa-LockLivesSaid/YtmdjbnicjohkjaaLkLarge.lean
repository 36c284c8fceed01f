/- The contract of large: where it says no, the graph is small. The conditions: the graph reads as named. -/
import Derived.Test.YtmdjbnicjohkjaaLkValid2
namespace Go.Proofs.Ytmdjbnicjohkjaa
open Go.RowKit
set_option linter.unusedSimpArgs false
set_option linter.unusedVariables false
def addH : Nat → List ThV → Nat
  | n, [] => n
  | n, t :: g => if n < 400 then addH (n + t.n) g else n
def largeG (n : Nat) (g : List ThV) : Bool := decide (400 ≤ addH n g)
theorem addH_le : ∀ (g : List ThV) (n : Nat), n ≤ addH n g
  | [], n => Nat.le_refl _
  | t :: g, n => by
    unfold addH
    split
    · have := addH_le g (n + t.n); omega
    · exact Nat.le_refl _
theorem large_no : ∀ (g : List ThV) (n : Nat), addH n g < 400 → n < 400 ∧ ∀ t ∈ g, t.n < 400
  | [], n, h => ⟨h, by simp⟩
  | t :: g, n, h => by
    unfold addH at h
    split at h
    · obtain ⟨h1, h2⟩ := large_no g _ h
      refine ⟨by omega, fun u hu => ?_⟩
      rcases List.mem_cons.1 hu with rfl | hu
      · omega
      · exact h2 u hu
    · omega
theorem large_any (a : Option Addr) (n c : Nat) (g : List ThV) (w : World) (hG : RdG w a n g) :
    (hT : ∀ t ∈ g, t.n ≤ 281474976710656) → Calls Try.prog 13 #[.slice a n c] w fun e w' => e = .returned (.bool (largeG n g)) ∧ w = w' := by
  have HR := Lib.hid hG
  have hs := hG.small
  intro hts
  have HTS := Lib.hid hts
  have HG0 := Lib.hid hG.length
  obtain ⟨R, hR⟩ : ∃ R, R = addH n g := ⟨_, rfl⟩
  have HST : Hid (addH n (g.drop 0) = R) := Lib.hid hR.symm
  rw [show largeG n g = decide (400 ≤ R) by rw [largeG, hR]]
  clear hG hts hR
  go_enter Try.func13, Try.ntmps13
  go_wp2
  go_loop [3, 4] (fun v i => ∃ (k m : Nat), k ≤ n ∧ v = .int .i64 m ∧ i = .int .i64 k ∧ addH m (g.drop k) = R ∧ (m : Int) ≤ 9223372036854775807) (fun _ i => n - (intOf i).toNat)
  case atStart => exact ⟨0, n, Nat.zero_le _, rfl, rfl, HST.out, by omega⟩
  case round =>
    obtain ⟨k, m, hk, rfl, rfl, he, hm⟩ := hrel
    have HE := Lib.hid he
    clear he
    by_cases hlt : k < n
    · obtain ⟨⟨pri, ta, tn, tc, waits, holds⟩, b, off, rfl, hb, h1, h2, h3, ht, hgi, HD⟩ := HR.out.at_ k hlt
      have htn : tn ≤ 281474976710656 := HTS.out _ (List.mem_of_getElem? hgi)
      simp only [] at h1 h2 h3
      have HE2 : Hid ((if m < 400 then addH (m + tn) (g.drop (k + 1)) else m) = R) := by have := HE.out; rw [HD.out] at this; exact this
      clear HE ht hgi HD
      by_cases hm4 : m < 400
      · rw [if_pos hm4] at HE2
        have hm4' : (m : Int) < 400 := by omega
        go_wp2
        go_round
        case rel => exact ⟨k + 1, m + tn, by omega, by go_num, by go_num, HE2.out, by omega⟩
        case measure => simp [intOf]; omega
      · rw [if_neg hm4] at HE2
        have hv := HE2.out
        subst hv
        have hm4' : ¬ (m : Int) < 400 := by omega
        go_wp2
        go_ret
        exact ⟨ret_bool (by simp <;> omega), rfl⟩
    · have hv : R = m := by rw [← HE.out, drop_end HG0.out (by omega)]; rfl
      subst hv
      go_wp2
      go_ret
      exact ⟨ret_bool (by simp <;> omega), rfl⟩
end Go.Proofs.Ytmdjbnicjohkjaa
