/- Easier tasks demand no more, at tasks whose pieces have up to 400 ticks. No condition: plain lemmas. Printed by mklong.py out of the text for valid tasks. -/
import Derived.Test.YtabbmnnohnfbeaaRsLong
import Derived.Test.YtabbmnnohnfbeaaRsSim
namespace Go.Proofs.Ytabbmnnohnfbeaa
open Go.RowKit
set_option linter.unusedSimpArgs false
set_option linter.unusedVariables false
variable {K L : List Ta} {σ : Nat → Nat}

theorem Sim.demTL4 (h : Sim K L σ) (hK : ValidT4 K) (hL : ValidT4 L) {i : Nat} (hi : i < K.length) {v : Int} (hv : 0 ≤ v) : demT (taAt K i) v ≤ demT (taAt L (σ i)) v := by
  have hk := taAt_mem' (L := K) (k := i) (by omega) (by omega)
  have hl := taAt_mem' (L := L) (k := (σ i : Int)) (by omega) (by have := h.len i hi; omega)
  have h1 := mostN_le (hL.gap _ hl).1 (h.gap i hi) (hK.jit _ hk).1 (h.jit i hi) hv
  have h2 := h.cost hi
  have h3 := (mostN_mono (hL.gap _ hl).1 (hL.jit _ hl).1 hv (Int.le_refl v)).1
  have h4 := (costT_bd4 hK.r hk).1
  exact Int.mul_le_mul h1 h2 (by omega) h3
theorem Sim.dem4 (h : Sim K L σ) (hK : ValidT4 K) (hL : ValidT4 L) {j : Nat} (hj : j < K.length) {v : Int} (hv : 0 ≤ v ∧ v ≤ 1000000) : demN K j v ≤ demN L (σ j) v := by
  have hown : ownN K j ≤ ownN L (σ j) := by
    have := h.cost hj
    have := h.block hj
    unfold ownN; omega
  let f : Int → Int := fun k => ((σ k.toNat : Nat) : Int)
  have h1 : demN K j v ≤ demL L v ((aheadL K j).map f) (ownN L (σ j)) := by
    refine demL_map _ _ _ hown (fun k hk => ?_)
    obtain ⟨⟨k0, k1⟩, _⟩ := aheadL_mem.1 hk
    obtain ⟨i, rfl⟩ := Int.eq_ofNat_of_zero_le k0
    show demT (taAt K i) v ≤ demT (taAt L ((σ (Int.toNat (i : Int)) : Nat) : Int)) v
    rw [Int.toNat_natCast]
    exact h.demTL4 hK hL (by omega) hv.1
  have hp : ((aheadL K j).map f).Perm ((aheadL L (σ j)).filter (fun x => decide (x ∈ (aheadL K j).map f))) := by
    rw [List.perm_ext_iff_of_nodup]
    · intro x
      rw [List.mem_filter, decide_eq_true_eq]
      refine ⟨fun hx => ⟨?_, hx⟩, fun hx => hx.2⟩
      obtain ⟨k, hk, rfl⟩ := List.mem_map.1 hx
      obtain ⟨⟨k0, k1⟩, k2⟩ := aheadL_mem.1 hk
      obtain ⟨i, rfl⟩ := Int.eq_ofNat_of_zero_le k0
      have hi : i < K.length := by omega
      rw [aheadL_mem]
      refine ⟨⟨by show 0 ≤ ((σ _ : Nat) : Int); omega, ?_⟩, aheadB_iff.2 ?_⟩
      · show ((σ (Int.toNat (i : Int)) : Nat) : Int) < _
        rw [Int.toNat_natCast]
        have := h.len i hi; omega
      · show Ahead L ((σ (Int.toNat (i : Int)) : Nat) : Int) _
        rw [Int.toNat_natCast]
        exact (h.ahead hi hj).1 (aheadB_iff.1 k2)
    · have hpw : (aheadL K j).Pairwise (· < ·) := (idxs_pw _).filter _
      have hpm : ((aheadL K j).map f).Pairwise (· < ·) := by
        rw [List.pairwise_map]
        refine List.Pairwise.imp_of_mem (fun {a b} ha hb hab => ?_) hpw
        have a0 := (aheadL_mem.1 ha).1.1
        have b0 := (aheadL_mem.1 hb).1.1
        have := h.mono a.toNat b.toNat (by omega)
        show ((σ a.toNat : Nat) : Int) < ((σ b.toNat : Nat) : Int)
        omega
      exact hpm.imp (fun hab => by omega)
    · exact ((idxs_nodup _).filter _).filter _
  rw [demL_perm hp] at h1
  refine Int.le_trans h1 ?_
  exact demL_nonneg _ _ (fun k hk => by
    obtain ⟨⟨k0, k1⟩, _⟩ := aheadL_mem.1 hk
    exact (demT_bd4 hL (taAt_mem' k0 k1) hv).1)
theorem Sim.meet4 (h : Sim K L σ) (hK : ValidT4 K) (hL : ValidT4 L) {j : Nat} (hj : j < K.length) {F S : Int} (hm : meetB L F S (σ j) = true) : meetB K F S j = true ∧ winN K F S j ≤ winN L F S (σ j) := by
  unfold meetB at hm ⊢
  rw [Bool.and_eq_true, decide_eq_true_eq, decide_eq_true_eq] at hm ⊢
  obtain ⟨y, hy, y1, y2, y3, _⟩ := (isWin L F S (σ j)).some_ (by omega)
  have hd := h.dem4 hK hL hj (v := (y : Int)) (by omega)
  have hI := isWin K F S j
  have hb := winN_bd K F S j
  have hjt := h.jit j hj
  have hdl := h.dl j hj
  by_cases h0 : winN K F S j = 0
  · exact absurd (by omega) (hI.none_ h0 y y1 y2)
  · obtain ⟨x, hx, x1, x2, x3, x4⟩ := hI.some_ h0
    have hxy : x ≤ y := by
      rcases Nat.lt_or_ge y x with q | q
      · exact absurd (by omega) (x4 y y1 q)
      · exact q
    omega
theorem Sim.acc4 (h : Sim K L σ) (hK : ValidT4 K) (hL : ValidT4 L) {F S : Int} (ha : accB L F S = true) : accB K F S = true :=
  accB_iff.2 (fun j hj => (h.meet4 hK hL hj (accB_iff.1 ha (σ j) (h.len j hj))).1)
end Go.Proofs.Ytabbmnnohnfbeaa
