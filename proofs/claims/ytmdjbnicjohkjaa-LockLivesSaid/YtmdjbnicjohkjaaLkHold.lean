/- The contract of hold. The conditions: the locks lie in a row that the call made, ascending; the thread in another. -/
import Derived.Test.YtmdjbnicjohkjaaLkIns
namespace Go.Proofs.Ytmdjbnicjohkjaa
open Go.RowKit
set_option linter.unusedSimpArgs false
set_option linter.unusedVariables false
abbrev TT : Nat := 52
theorem owns_apart {w : World} {B B' e e' k k' n n' c c' : Nat} {a a' : Option Addr} {xs ys : List Value} (h : w.ownsRow B e k (.slice a n c) n xs) (h' : w.ownsRow B' e' k' (.slice a' n' c') n' ys) (he : e ≠ e') :
    (Value.slice a n c).ownBlock = none ∨ (Value.slice a n c).ownBlock ≠ (Value.slice a' n' c').ownBlock := by
  rcases h.2 with ⟨h1, _⟩ | ⟨g, cap, cur, h1, _, hg, _⟩
  · rw [h1]; exact .inl rfl
  · right
    rcases h'.2 with ⟨h2, _⟩ | ⟨g', cap', cur', h2, _, hg', _⟩
    · rw [h1, h2]; simp [Value.ownBlock]
    · rw [h1, h2]
      intro q
      simp [Value.ownBlock] at q
      subst q
      rw [hg] at hg'
      simp at hg'
      exact he hg'.2
def HoldP (B b p : Nat) (w : World) (v : Value) (xs : List Int) (e : Ending) (w' : World) : Prop :=
  e = .returned (.tuple #[]) ∧ ∃ a n c w1, w1.ownsRow B 3 1 (.slice a n c) n (xs.flatMap enc1) ∧ w.grownBy w1 v.ownBlock ∧ w' = w1.setCell ⟨b, p + 1, none⟩ (.slice a n c)
set_option maxRecDepth 10000 in
set_option maxHeartbeats 2000000 in
theorem hold_any (B b p m cc : Nat) (a : Option Addr) (n c : Nat) (xs : List Int) (ys : List Value) (x : Int) (w : World) (hn : n ≤ 1000) (hs : xs.Pairwise (· ≤ ·)) (hO : w.ownsRow B 3 1 (.slice a n c) n (xs.flatMap enc1)) (hB : B ≤ w.heap.size)
    (hM : w.ownsRow B 52 3 (.slice (some ⟨b, 0, none⟩) m cc) m ys) (hc : w.cell? ⟨b, p + 1, none⟩ = some (.slice a n c)) (hf : w.frozen? ⟨b, p + 1, none⟩ = false) :
    Calls Try.prog 65 #[.pointer (some ⟨b, p, none⟩), .int .i64 x] w (HoldP B b p w (.slice a n c) (insL xs (cntLt xs x) x)) := by
  have HO := Lib.hid hO
  have HM := Lib.hid hM
  have hlx := (ownsI_rd hO).length
  have hk : cntLt xs x ≤ n := by have := cntLt_le xs x; omega
  obtain ⟨k, hkk⟩ : ∃ k, cntLt xs x = k := ⟨_, rfl⟩
  rw [hkk] at hk ⊢
  have HK := Lib.hid hkk
  have hne : Hid (some b ≠ (Value.slice a n c).ownBlock) := Lib.hid (by
    rcases owns_apart hM hO (by decide) with h | h
    · simp [Value.ownBlock] at h
    · exact h)
  have hbw : b < w.heap.size := by
    rcases hM.2 with ⟨h, _⟩ | ⟨g', cap', cur, h, _, hg, _⟩
    · simp at h
    · simp at h; rw [h.1]; exact (Array.getElem?_eq_some_iff.1 hg).1
  have HVB : Hid ((Value.slice a n c).ownBlock ≠ some w.heap.size) := Lib.hid (by
    rcases hO.2 with ⟨h, _⟩ | ⟨g', cap', cur, h, _, hg, _⟩
    · rw [h]; simp [Value.ownBlock]
    · rw [h]; have := (Array.getElem?_eq_some_iff.1 hg).1; simp [Value.ownBlock]; omega)
  clear hO hM hkk
  go_enter Try.func65, Try.ntmps65
  go_wp2_with (first
    | (go_at_call 84; (with_reducible refine (bsearch_any _ _ _ xs _ _ (by omega) hs (ownsI_rd HO.out)).mono ?_); rw [HK.out]; rintro e w1 ⟨bb, rfl, rfl⟩)
    | (go_at_call 85; (with_reducible refine (insert_any B _ _ _ k xs x w.heap.size 3 _ hn hk (HO.out.alloc _) (by simp; omega) (heap_alloc_new _ _) HVB.out).mono ?_); rintro e w1 ⟨a1, n1, c1, rfl, hown1, hg1⟩; have HO1 := Lib.hid hown1; have HG1 := Lib.hid ((World.grownBy_alloc w _ (Value.slice a n c).ownBlock).trans hg1); have hc1 := HG1.out.cell hc hne.out; have hf1 := (World.frozen?_of_block (a := ⟨b, p + 1, none⟩) (HG1.out.block b hbw hne.out)).trans hf; clear hown1 hg1))
  go_end0
  exact ⟨rfl, _, _, _, _, HO1.out, HG1.out, rfl⟩
end Go.Proofs.Ytmdjbnicjohkjaa
