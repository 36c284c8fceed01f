/- Plain facts: without a circle some thread does not wait, and the best of those has the greatest effective priority. No condition: plain lemmas. -/
import Derived.Test.YtmdjbnicjohkjaaLkSeq
namespace Go.Proofs.Ytmdjbnicjohkjaa
open Go.RowKit
set_option linter.unusedSimpArgs false
set_option linter.unusedVariables false
/-- k steps of next from i -/
def nx (g : List Th) : Nat → Int → Int
  | 0, i => i
  | k + 1, i => nx g k (if i < 0 then -1 else nextG g i.toNat)
theorem nx_neg (g : List Th) : ∀ k, nx g k (-1) = -1
  | 0 => rfl
  | k + 1 => by rw [nx, if_pos (by omega), nx_neg g k]
theorem nx_add (g : List Th) : ∀ (a d : Nat) (i : Int), nx g (a + d) i = nx g d (nx g a i)
  | 0, d, i => by simp [nx]
  | a + 1, d, i => by rw [show a + 1 + d = (a + d) + 1 by omega, nx, nx_add g a d, nx]
theorem nx_hi {g : List Th} : ∀ (k : Nat) (i : Int), -1 ≤ i → i < g.length → -1 ≤ nx g k i ∧ nx g k i < g.length
  | 0, i, h, h' => ⟨h, h'⟩
  | k + 1, i, h, h' => by
    rw [nx]
    split
    · exact nx_hi k _ (by omega) (by omega)
    · have := nextG_lo g i.toNat
      exact nx_hi k _ (by omega) (by omega)
theorem circGo_nx {g : List Th} {i : Int} (hi : 0 ≤ i) : ∀ (f : Nat) (n : Int) (k : Nat), k < f → nx g k n = i → circGo g i f n = true
  | 0, _, _, h, _ => by omega
  | f + 1, n, k, h, e => by
    unfold circGo
    by_cases h0 : 0 ≤ n
    · rw [if_pos h0]
      by_cases h1 : n = i
      · rw [if_pos h1]
      · rw [if_neg h1]
        rcases k with _ | k
        · exact absurd e h1
        · rw [nx, if_neg (by omega)] at e
          exact circGo_nx hi f _ k (by omega) e
    · exfalso
      rcases k with _ | k
      · simp only [nx] at e; omega
      · rw [nx, if_pos (by omega), nx_neg] at e; omega
theorem nodup_or {α : Type} [DecidableEq α] (f : Nat → α) : ∀ N : Nat, ((List.range N).map f).Nodup ∨ ∃ a b, a < b ∧ b < N ∧ f a = f b
  | 0 => .inl (by simp)
  | N + 1 => by
    rcases nodup_or f N with h | ⟨a, b, h1, h2, h3⟩
    · by_cases hm : f N ∈ (List.range N).map f
      · obtain ⟨a, ha, e⟩ := List.mem_map.1 hm
        exact .inr ⟨a, N, List.mem_range.1 ha, by omega, e⟩
      · left
        rw [List.range_succ, List.map_append, List.nodup_append]
        refine ⟨h, by simp, fun x hx y hy e => hm ?_⟩
        simp at hy
        subst e; rw [hy] at hx; exact hx
    · exact .inr ⟨a, b, h1, by omega, h3⟩
/-- no circle: one comes to an end -/
theorem nx_end {g : List Th} (hc : ∀ i, i < g.length → circG g i = false) (t : Nat) (ht : t < g.length) : ∃ k, k ≤ g.length ∧ nx g k t < 0 := by
  by_cases h : ∃ k, k ≤ g.length ∧ nx g k t < 0
  · exact h
  · exfalso
    have h0 : ∀ k, k ≤ g.length → 0 ≤ nx g k t := fun k hk => by
      by_cases q : 0 ≤ nx g k t
      · exact q
      · exact absurd ⟨k, hk, by omega⟩ h
    rcases nodup_or (fun k => nx g k t) (g.length + 1) with hn | ⟨a, b, hab, hb, e⟩
    · have := nodup_le g.length _ hn (fun x hx => by
        obtain ⟨k, hk, rfl⟩ := List.mem_map.1 hx
        have := List.mem_range.1 hk
        exact ⟨h0 k (by omega), (nx_hi k t (by omega) (by omega)).2⟩)
      simp at this; omega
    · have e : nx g a t = nx g b t := e
      obtain ⟨y, hy⟩ := Int.eq_ofNat_of_zero_le (h0 a (by omega))
      have hyl := (nx_hi (g := g) a t (by omega) (by omega)).2
      obtain ⟨d, rfl⟩ : ∃ d, b = a + (d + 1) := ⟨b - a - 1, by omega⟩
      rw [nx_add, hy, nx, if_neg (by omega)] at e
      have := circGo_nx (g := g) (i := (y : Int)) (by omega) g.length (nextG g y) d (by omega) (by rw [Int.toNat_natCast] at e; exact e.symm)
      have h2 := hc y (by omega)
      rw [circG, this] at h2
      exact absurd h2 (by simp)
theorem nx_last {g : List Th} : ∀ (k t : Nat), t < g.length → nx g k t < 0 → ∃ u, u < g.length ∧ nextG g u < 0 ∧ effV g t ≤ effV g u
  | 0, t, _, h => by simp only [nx] at h; omega
  | k + 1, t, ht, h => by
    rw [nx, if_neg (by omega), Int.toNat_natCast] at h
    by_cases h0 : nextG g t < 0
    · exact ⟨t, ht, h0, Int.le_refl _⟩
    · obtain ⟨y, hy⟩ := Int.eq_ofNat_of_zero_le (show 0 ≤ nextG g t by omega)
      have hl := nextG_lo g t
      rw [hy] at h
      obtain ⟨u, h1, h2, h3⟩ := nx_last k y (by omega) h
      have := effV_next ht hy
      exact ⟨u, h1, h2, by omega⟩
theorem next_waits {g : List Th} (hv : validG g = true) {u : Nat} {t : Th} (hu : g[u]? = some t) (h : nextG g u < 0) : t.waits < 0 := by
  simp only [validG, Bool.and_eq_true] at hv
  have hw := List.all_eq_true.1 hv.2 t (List.mem_of_getElem? hu)
  rw [waits_holder hv.1.2 hu] at hw
  have e : nextG g u = if t.waits < 0 then -1 else holderG g t.waits := by rw [nextG, hu]
  rw [e] at h
  split at h
  · assumption
  · rename_i hn
    simp [hn] at hw
    omega
structure BestInv (G : List Th) (L : List Int) (k : Nat) (b : Int) : Prop where
  lo : -1 ≤ b
  hi : b < k
  no : b < 0 → ∀ (j : Nat) (t : Th), j < k → G[j]? = some t → 0 ≤ t.waits
  wt : 0 ≤ b → ∀ t, G[b.toNat]? = some t → t.waits < 0
  top : 0 ≤ b → ∀ (j : Nat) (t : Th), j < k → G[j]? = some t → t.waits < 0 → valAt L j ≤ valAt L b
theorem BestInv.step {G L k b} (h : BestInv G L k b) (hk : k < G.length) : BestInv G L (k + 1) (bestStep G L k b) := by
  have e : G[k]? = some G[k] := by simp [hk]
  rw [bestStep, e]
  simp only []
  split
  · rename_i hc
    refine ⟨by omega, by omega, fun h0 => by omega, fun _ t ht => ?_, fun _ j t hj ht hw => ?_⟩
    · rw [Int.toNat_natCast, e] at ht; simp at ht; subst ht; exact hc.1
    · by_cases q : j = k
      · subst q; exact Int.le_refl _
      · by_cases hb : b < 0
        · have := h.no hb j t (by omega) ht; omega
        · have := h.top (by omega) j t (by omega) ht hw
          have := hc.2.resolve_left hb
          omega
  · rename_i hc
    have hi := h.hi
    refine ⟨h.lo, by omega, fun h0 j t hj ht => ?_, h.wt, fun h0 j t hj ht hw => ?_⟩
    · by_cases q : j = k
      · subst q; rw [e] at ht; simp at ht; subst ht
        by_cases hw : (G[j]).waits < 0
        · exact absurd ⟨hw, .inl h0⟩ hc
        · omega
      · exact h.no h0 j t (by omega) ht
    · by_cases q : j = k
      · subst q; rw [e] at ht; simp at ht; subst ht
        by_cases hv : valAt L b < valAt L j
        · exact absurd ⟨hw, .inr hv⟩ hc
        · omega
      · exact h.top h0 j t (by omega) ht hw
theorem BestInv.all {G L} : ∀ (f k : Nat) (b : Int), k + f = G.length → BestInv G L k b → BestInv G L G.length (bestFrom G L f k b)
  | 0, k, b, hk, h => by rw [bestFrom, ← hk]; simpa using h
  | f + 1, k, b, hk, h => BestInv.all (G := G) (L := L) f (k + 1) _ (by omega) (h.step (by omega))
theorem bestInv (G : List Th) : BestInv G (effL G) G.length (bestG G) :=
  BestInv.all (G := G) (L := effL G) G.length 0 (-1) (by omega) ⟨by omega, by omega, fun _ j t hj => by omega, fun h => by omega, fun h => by omega⟩
theorem valAt_eff {G : List Th} (hv : validG G = true) {j : Nat} (hj : j < G.length) : valAt (effL G) j = effV G j := valAt_of (effL_get (validG_pri hv) j hj)
theorem goes_pure {G : List Th} (hv : validG G = true) (hne : 0 < G.length) (hc : ∀ i, i < G.length → circG G i = false) :
    ∃ b : Nat, b < G.length ∧ nextR G = ((b : Int), 0) ∧ (∃ t, G[b]? = some t ∧ t.waits < 0) ∧ ∀ t, t < G.length → effV G t ≤ effV G b := by
  have hI := bestInv G
  have hu : ∀ t, t < G.length → ∃ u x, u < G.length ∧ G[u]? = some x ∧ x.waits < 0 ∧ effV G t ≤ effV G u := fun t ht => by
    obtain ⟨k, _, hk⟩ := nx_end hc t ht
    obtain ⟨u, h1, h2, h3⟩ := nx_last k t ht hk
    have e : G[u]? = some G[u] := by simp [h1]
    exact ⟨u, G[u], h1, e, next_waits hv e h2, h3⟩
  have hb : 0 ≤ bestG G := by
    by_cases q : 0 ≤ bestG G
    · exact q
    · obtain ⟨u, x, h1, h2, h3, _⟩ := hu 0 hne
      have := hI.no (by omega) u x h1 h2
      omega
  have hhi := hI.hi
  obtain ⟨b, hbe⟩ := Int.eq_ofNat_of_zero_le hb
  refine ⟨b, by omega, by rw [nextR, hv, if_pos rfl, if_neg (by omega), hbe], ⟨G[b]'(by omega), by simp, hI.wt hb _ (by rw [hbe]; simp)⟩, fun t ht => ?_⟩
  obtain ⟨u, x, h1, h2, h3, h4⟩ := hu t ht
  have := hI.top hb u x h1 h2 h3
  rw [hbe, valAt_eff hv h1, valAt_eff hv (by omega)] at this
  omega
theorem circFrom_cases {g : List Th} : ∀ (f k : Nat), k + f = g.length → (circFrom g f k).2 = 0 ∨ (circFrom g f k = ([], 3) ∧ ∀ i, k ≤ i → i < g.length → circG g i = false)
  | 0, k, h => .inr ⟨rfl, fun i h1 h2 => by omega⟩
  | f + 1, k, h => by
    rw [circFrom]
    cases hc : circG g k
    · rcases circFrom_cases (g := g) f (k + 1) (by omega) with h1 | ⟨h1, h2⟩
      · exact .inl (by simpa using h1)
      · refine .inr ⟨by simpa using h1, fun i h3 h4 => ?_⟩
        by_cases q : i = k
        · rw [q]; exact hc
        · exact h2 i (by omega) h4
    · exact .inl rfl
theorem circleR_cases {g : List Th} (hv : validG g = true) : (circleR g).2 = 0 ∨ (circleR g = ([], 3) ∧ ∀ i, i < g.length → circG g i = false) := by
  rw [circleR, hv, if_pos rfl]
  rcases circFrom_cases (g := g) g.length 0 (by omega) with h | ⟨h1, h2⟩
  · exact .inl h
  · exact .inr ⟨h1, fun i hi => h2 i (Nat.zero_le _) hi⟩
end Go.Proofs.Ytmdjbnicjohkjaa
