/- Plain facts: validity, demands, windows, who meets. No condition: plain lemmas. -/
import Derived.Test.YtlhnhmimhpcoaaaRsPure
import Derived.Test.YtlhnhmimhpcoaaaNum
namespace Go.Proofs.Ytlhnhmimhpcoaaa
open Go.RowKit
set_option linter.unusedSimpArgs false
set_option linter.unusedVariables false
def patB (t : Ta) : Bool := vpat t.first t.gap t.jit && (decide (1 ≤ t.dl) && decide (t.dl ≤ t.gap))
def validL (L : List Ta) : Bool := rightB L && L.all patB
structure ValidT (L : List Ta) : Prop where
  r : Right L
  rb : rightB L = true
  first : ∀ t ∈ L, 0 ≤ t.first ∧ t.first ≤ 10000
  gap : ∀ t ∈ L, 1 ≤ t.gap ∧ t.gap ≤ 10000
  jit : ∀ t ∈ L, 0 ≤ t.jit ∧ t.jit ≤ 10000
  dl : ∀ t ∈ L, 1 ≤ t.dl ∧ t.dl ≤ t.gap
  vp : ∀ t ∈ L, vpat t.first t.gap t.jit = true
theorem patB_iff {t : Ta} : patB t = true ↔ vpat t.first t.gap t.jit = true ∧ 1 ≤ t.dl ∧ t.dl ≤ t.gap := by
  simp [patB, Bool.and_eq_true]
theorem valid_of {L : List Ta} (h : validL L = true) : ValidT L := by
  unfold validL at h
  rw [Bool.and_eq_true, List.all_eq_true] at h
  have hp := fun t ht => patB_iff.1 (h.2 t ht)
  have hv := fun t ht => vpat_iff.1 (hp t ht).1
  exact ⟨right_of h.1, h.1, fun t ht => (hv t ht).1, fun t ht => (hv t ht).2.1, fun t ht => (hv t ht).2.2, fun t ht => (hp t ht).2, fun t ht => (hp t ht).1⟩
/-- what task j demands in a window -/
def demT (t : Ta) (w : Int) : Int := mostN t.gap t.jit w * costT t
def demL (L : List Ta) (w : Int) (ks : List Int) (n : Int) : Int := ks.foldl (fun n k => n + demT (taAt L k) w) n
def aheadL (L : List Ta) (i : Int) : List Int := (idxs L.length).filter (fun j => aheadB L j i)
def ownN (L : List Ta) (i : Int) : Int := costT (taAt L i) + blockN L i
def demN (L : List Ta) (i w : Int) : Int := demL L w (aheadL L i) (ownN L i)
theorem demL_perm {L : List Ta} {w : Int} {ks js : List Int} (h : ks.Perm js) (n : Int) : demL L w ks n = demL L w js n :=
  h.foldl_eq' (fun x _ y _ z => by omega) n
theorem filter_take {R : Int → Int → Prop} {f : Int → Bool} {l : List Int} {p : Nat} {x : Int} (hl : l.Pairwise R) (has : ∀ a b, R a b → ¬ R b a) (hx : l[p]? = some x) (hf : ∀ y, f y = true ↔ R y x) : l.filter f = l.take p := by
  obtain ⟨hp, e⟩ := List.getElem?_eq_some_iff.1 hx
  have hs : l = l.take p ++ x :: l.drop (p + 1) := by
    have := List.take_append_drop p l
    rw [List.drop_eq_getElem_cons hp, e] at this; exact this.symm
  have hl2 := hl
  rw [hs] at hl2
  obtain ⟨h1, h2, h3⟩ := List.pairwise_append.1 hl2
  have hirr : f x = false := by
    cases q : f x with
    | false => rfl
    | true => exact absurd ((hf x).1 q) (has x x ((hf x).1 q))
  have e1 : (l.take p).filter f = l.take p := List.filter_eq_self.2 (fun y hy => (hf y).2 (h3 y hy x (by simp)))
  have e2 : (l.drop (p + 1)).filter f = [] := List.filter_eq_nil_iff.2 (fun y hy h => has x y ((List.pairwise_cons.1 h2).1 y hy) ((hf y).1 h))
  calc l.filter f = (l.take p ++ x :: l.drop (p + 1)).filter f := by rw [← hs]
    _ = l.take p := by rw [List.filter_append, List.filter_cons_of_neg (by simp [hirr]), e1, e2, List.append_nil]
/-- those ahead are the first of the ranks -/
theorem take_ahead {L : List Ta} {i : Int} (h0 : 0 ≤ i) (h1 : i < L.length) : ((rankL L).take (cnt L i)).Perm (aheadL L i) := by
  rw [← filter_take (rank_pw L) ahead_asym (rank_at h0 h1) (f := fun j => aheadB L j i) (fun y => aheadB_iff)]
  exact (rank_perm L).filter _
theorem demN_take {L : List Ta} {i w : Int} (h0 : 0 ≤ i) (h1 : i < L.length) : demL L w ((rankL L).take (cnt L i)) (ownN L i) = demN L i w := demL_perm (take_ahead h0 h1) _
theorem mostN_mono {g j w v : Int} (hg : 1 ≤ g) (hj : 0 ≤ j) (h0 : 0 ≤ w) (h : w ≤ v) : 0 ≤ mostN g j w ∧ mostN g j w ≤ mostN g j v := by
  unfold mostN
  by_cases hw : w = 0
  · rw [if_pos hw]
    split
    · omega
    · have := Int.ediv_nonneg (a := v - 1 + j) (b := g) (by omega) (by omega)
      omega
  · rw [if_neg hw, if_neg (by omega)]
    have h1 := Int.ediv_nonneg (a := w - 1 + j) (b := g) (by omega) (by omega)
    have h2 := Int.ediv_le_ediv (a := w - 1 + j) (b := v - 1 + j) (c := g) (by omega) (by omega)
    omega
theorem mostN_bd {g j w : Int} (hg : 1 ≤ g) (hj : 0 ≤ j ∧ j ≤ 10000) (h0 : 0 ≤ w ∧ w ≤ 1000000) : 0 ≤ mostN g j w ∧ mostN g j w ≤ 1010001 := by
  unfold mostN
  split
  · omega
  · have := quo_bd (a := w - 1 + j) (g := g) (m := 1010000) (by omega) (by omega) hg
    omega
theorem aheadL_mem {L : List Ta} {i k : Int} : k ∈ aheadL L i ↔ (0 ≤ k ∧ k < L.length) ∧ aheadB L k i = true := by
  unfold aheadL; rw [List.mem_filter, idxs_mem]
theorem taAt_mem' {L : List Ta} {k : Int} (h0 : 0 ≤ k) (h1 : k < L.length) : taAt L k ∈ L := by
  obtain ⟨j, rfl⟩ := Int.eq_ofNat_of_zero_le h0
  rw [taAt_of (List.getElem?_eq_getElem (by omega))]; exact List.getElem_mem (by omega)
theorem demT_bd {L : List Ta} (hv : ValidT L) {t : Ta} (ht : t ∈ L) {w : Int} (h0 : 0 ≤ w ∧ w ≤ 1000000) : 0 ≤ demT t w ∧ demT t w ≤ 1616001600 := by
  have h1 := mostN_bd (hv.gap t ht).1 (hv.jit t ht) h0
  have h2 := costT_bd hv.r ht
  unfold demT
  constructor
  · exact Int.mul_nonneg h1.1 (by omega)
  · have := Int.mul_le_mul h1.2 h2.2 (by omega) (by omega)
    omega
theorem demT_mono {L : List Ta} (hv : ValidT L) {t : Ta} (ht : t ∈ L) {w v : Int} (h0 : 0 ≤ w) (h : w ≤ v) : demT t w ≤ demT t v := by
  have h1 := mostN_mono (hv.gap t ht).1 (hv.jit t ht).1 h0 h
  have h2 := costT_bd hv.r ht
  unfold demT
  exact Int.mul_le_mul_of_nonneg_right h1.2 (by omega)
theorem demL_le {L : List Ta} {w v : Int} : ∀ (ks : List Int) (n m : Int), n ≤ m → (∀ k ∈ ks, demT (taAt L k) w ≤ demT (taAt L k) v) → demL L w ks n ≤ demL L v ks m
  | [], n, m, h, _ => h
  | k :: ks, n, m, h, hk => by
    have h1 := hk k (by simp)
    refine demL_le ks _ _ ?_ (fun j hj => hk j (by simp [hj]))
    show n + demT (taAt L k) w ≤ m + demT (taAt L k) v
    omega
theorem demN_mono {L : List Ta} (hv : ValidT L) {i w v : Int} (h0 : 0 ≤ w) (h : w ≤ v) : demN L i w ≤ demN L i v :=
  demL_le _ _ _ (Int.le_refl _) (fun k hk => demT_mono hv (taAt_mem' (aheadL_mem.1 hk).1.1 (aheadL_mem.1 hk).1.2) h0 h)
theorem demL_bd {L : List Ta} (hv : ValidT L) {w : Int} (h0 : 0 ≤ w ∧ w ≤ 1000000) : ∀ (ks : List Int) (n : Int), (∀ k ∈ ks, 0 ≤ k ∧ k < L.length) → n ≤ demL L w ks n ∧ demL L w ks n ≤ n + 1616001600 * ks.length
  | [], n, _ => by simp [demL]
  | k :: ks, n, hk => by
    have h1 := hk k (by simp)
    have h2 := demT_bd hv (taAt_mem' h1.1 h1.2) h0
    have h3 := demL_bd hv h0 ks (n + demT (taAt L k) w) (fun j hj => hk j (by simp [hj]))
    have e : demL L w (k :: ks) n = demL L w ks (n + demT (taAt L k) w) := rfl
    rw [e, List.length_cons]
    omega
theorem blockN_bd {L : List Ta} (hv : Right L) (t : Int) : 0 ≤ blockN L t ∧ blockN L t ≤ 200 := by
  have key : ∀ (bs : List P2) (m : Int), (∀ b ∈ bs, IsBlk L t b) → 0 ≤ m ∧ m ≤ 200 → 0 ≤ bs.foldl (fun m b => max m (ticksAt L b)) m ∧ bs.foldl (fun m b => max m (ticksAt L b)) m ≤ 200 := by
    intro bs
    induction bs with
    | nil => intro m _ h; exact h
    | cons b bs ih =>
      intro m hb h
      have h1 := hb b (by simp)
      have h2 : 1 ≤ ticksAt L b ∧ ticksAt L b ≤ 200 := by
        have hm := taAt_mem' h1.j0 h1.j1
        have hk := h1.k1
        have hk0 := h1.k0
        have e : (taAt L b.1).pcs[b.2.toNat]? = some ((taAt L b.1).pcs[b.2.toNat]'(by omega)) := List.getElem?_eq_getElem (by omega)
        have := (hv.piece _ hm _ (List.mem_of_getElem? e)).1
        rw [ticksAt, e]; exact this
      refine ih _ (fun c hc => hb c (by simp [hc])) ?_
      show 0 ≤ max m (ticksAt L b) ∧ max m (ticksAt L b) ≤ 200
      omega
  exact key _ 0 (fun b hb => blockL_mem hb) (by omega)
theorem ownN_bd {L : List Ta} (hv : Right L) {i : Int} (h0 : 0 ≤ i) (h1 : i < L.length) : 1 ≤ ownN L i ∧ ownN L i ≤ 1800 := by
  have := blockN_bd hv i
  have := costT_bd hv (taAt_mem' h0 h1)
  unfold ownN; omega
/-- the first window whose Least is enough; 0 without one -/
def winFrom (L : List Ta) (F S i : Int) : Nat → Nat → Int
  | 0, _ => 0
  | f + 1, w => if demN L i w ≤ leastN F S w then (w : Int) else winFrom L F S i f (w + 1)
def winN (L : List Ta) (F S i : Int) : Int := winFrom L F S i 2000 1
theorem winFrom_step {L : List Ta} {F S i : Int} {f w : Nat} : winFrom L F S i (f + 1) w = if demN L i w ≤ leastN F S w then (w : Int) else winFrom L F S i f (w + 1) := rfl
structure IsWin (L : List Ta) (F S i : Int) (f w : Nat) (x : Int) : Prop where
  none_ : x = 0 → ∀ v : Nat, w ≤ v → v < w + f → ¬ demN L i v ≤ leastN F S v
  some_ : x ≠ 0 → ∃ y : Nat, x = y ∧ w ≤ y ∧ y < w + f ∧ demN L i y ≤ leastN F S y ∧ ∀ v : Nat, w ≤ v → v < y → ¬ demN L i v ≤ leastN F S v
theorem isWinFrom {L : List Ta} {F S i : Int} : ∀ (f w : Nat), 1 ≤ w → IsWin L F S i f w (winFrom L F S i f w)
  | 0, w, _ => ⟨fun _ v h1 h2 => by omega, fun h => by simp [winFrom] at h⟩
  | f + 1, w, hw => by
    rw [winFrom_step]
    split
    · rename_i h
      exact ⟨fun e => by omega, fun _ => ⟨w, rfl, Nat.le_refl _, by omega, h, fun v h1 h2 => by omega⟩⟩
    · rename_i h
      obtain ⟨h1, h2⟩ := isWinFrom (L := L) (F := F) (S := S) (i := i) f (w + 1) (by omega)
      refine ⟨fun e v hv hvf => ?_, fun e => ?_⟩
      · by_cases q : v = w
        · subst q; exact h
        · exact h1 e v (by omega) (by omega)
      · obtain ⟨y, hy, k1, k2, k3, k4⟩ := h2 e
        refine ⟨y, hy, by omega, by omega, k3, fun v hv hvy => ?_⟩
        by_cases q : v = w
        · subst q; exact h
        · exact k4 v (by omega) hvy
theorem isWin (L : List Ta) (F S i : Int) : IsWin L F S i 2000 1 (winN L F S i) := isWinFrom 2000 1 (Nat.le_refl _)
theorem winN_bd (L : List Ta) (F S i : Int) : 0 ≤ winN L F S i ∧ winN L F S i ≤ 2000 := by
  by_cases h : winN L F S i = 0
  · omega
  · obtain ⟨y, hy, h1, h2, _⟩ := (isWin L F S i).some_ h
    omega
/-- task i has a response that is at most its deadline -/
def meetB (L : List Ta) (F S i : Int) : Bool := decide (0 < winN L F S i) && decide ((taAt L i).jit + winN L F S i ≤ (taAt L i).dl)
def accFrom (L : List Ta) (F S : Int) : Nat → Nat → Bool
  | 0, _ => true
  | f + 1, i => meetB L F S i && accFrom L F S f (i + 1)
def accB (L : List Ta) (F S : Int) : Bool := accFrom L F S L.length 0
theorem accFrom_iff {L : List Ta} {F S : Int} : ∀ (f i : Nat), accFrom L F S f i = true ↔ ∀ j : Nat, i ≤ j → j < i + f → meetB L F S j = true
  | 0, i => by simp [accFrom]; intro j h1 h2; omega
  | f + 1, i => by
    rw [accFrom, Bool.and_eq_true, accFrom_iff f (i + 1)]
    constructor
    · rintro ⟨h1, h2⟩ j hj hjf
      by_cases e : j = i
      · subst e; exact h1
      · exact h2 j (by omega) (by omega)
    · intro h
      exact ⟨h i (Nat.le_refl _) (by omega), fun j h1 h2 => h j (by omega) (by omega)⟩
theorem accB_iff {L : List Ta} {F S : Int} : accB L F S = true ↔ ∀ j : Nat, j < L.length → meetB L F S j = true := by
  unfold accB; rw [accFrom_iff]
  constructor
  · intro h j hj; exact h j (Nat.zero_le _) (by omega)
  · intro h j _ hj; exact h j (by omega)
end Go.Proofs.Ytlhnhmimhpcoaaa
