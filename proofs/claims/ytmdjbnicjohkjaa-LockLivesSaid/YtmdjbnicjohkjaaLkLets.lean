/- Plain facts: both sides' LetGo is the same; what it keeps; the contracts at values that are named. No condition: plain lemmas. -/
import Derived.Test.YtmdjbnicjohkjaaLkLetQ
import Derived.Test.YtmdjbnicjohkjaaLkGoes
namespace Go.Proofs.Ytmdjbnicjohkjaa
open Go.RowKit
set_option linter.unusedSimpArgs false
set_option linter.unusedVariables false
theorem toG_other {G : List Th} (hv : validG G = true) {k : Nat} {u : Th} {l : Int} (hk : G[k]? = some u) (hw : u.waits < 0) (hul : l ∈ u.holds) (h : 0 ≤ toG G l) :
    ∃ b x, toG G l = ((b : Nat) : Int) ∧ G[b]? = some x ∧ x.waits = l ∧ b ≠ k ∧ l ∉ x.holds ∧ 0 ≤ l ∧ l ≤ 5 := by
  have hT := toInv G l
  obtain ⟨b, hb⟩ := Int.eq_ofNat_of_zero_le h
  rw [hb] at hT
  obtain ⟨x, hx, hxw⟩ := hT.at_ (by omega)
  rw [Int.toNat_natCast] at hx
  obtain ⟨_, h2, h3⟩ := validG_iff.1 hv
  have hl := (h2 u (List.mem_of_getElem? hk)).2.1.2 l hul
  have hbk : b ≠ k := by
    rintro rfl
    rw [hk] at hx
    simp at hx
    subst hx
    omega
  exact ⟨b, x, hb, hx, hxw, hbk, sep_get h3 hk hx (fun q => hbk q.symm) l hul, hl.1, hl.2⟩
theorem let_eq (G : List Th) (t l : Int) : rletR G t l = letR G t l := by
  unfold rletR letR
  split
  · rename_i hc
    simp only [Bool.and_eq_true] at hc
    obtain ⟨hv, h0, h1⟩ := isTh_iff.1 hc.1
    split
    · rfl
    · rename_i hn
      split
      · rfl
      · rename_i hb
        obtain ⟨k, rfl⟩ := Int.eq_ofNat_of_zero_le h0
        have hk : G[k]? = some (thAt G k) := by rw [thAt, List.getElem?_eq_getElem (by omega)]; rfl
        rw [Int.toNat_natCast] at hn ⊢
        have hul : l ∈ (thAt G k).holds := hasB_iff.1 (by cases q : hasB (thAt G k).holds l with | true => rfl | false => exact absurd (.inr q) hn)
        obtain ⟨b, x, hbe, hx, hxw, hbk, hxl, hl⟩ := toG_other hv hk (Int.not_le.1 fun q => hn (.inl q)) hul (Int.not_lt.1 hb)
        rw [hbe, Int.toNat_natCast, thAt_eq hx]
        have ha := valid_asc hv (List.mem_of_getElem? hx)
        rw [with_eq ha.1 ha.2 hl hxl]
  · rfl
/-- what LetGo keeps -/
structure LetFull (G A : List Th) (t l b : Int) : Prop where
  keeps : LetKeeps G A b
  hi : b < G.length
  lo : -1 ≤ b
  most : ∀ (j : Nat) (u : Th), G[j]? = some u → u.waits = l → 0 ≤ b ∧ effV G j ≤ effV G b.toNat
  own : A[t.toNat]? = some ⟨(thAt G t.toNat).pri, outL (thAt G t.toNat).holds l, (thAt G t.toNat).waits⟩
theorem let_full {G : List Th} {t l : Int} (h : (letR G t l).2.2 = 0) : LetFull G (letR G t l).1 t l (letR G t l).2.1 := by
  unfold letR at h ⊢
  split at h
  · rename_i hc
    rw [if_pos hc]
    simp only [Bool.and_eq_true] at hc
    obtain ⟨hv, h0, h1⟩ := isTh_iff.1 hc.1
    have hl := inB_iff.1 hc.2
    split at h
    · simp at h
    · rename_i hn
      rw [if_neg hn]
      obtain ⟨k, rfl⟩ := Int.eq_ofNat_of_zero_le h0
      have hk : G[k]? = some (thAt G k) := by rw [thAt, List.getElem?_eq_getElem (by omega)]; rfl
      have hkl : k < G.length := by omega
      rw [Int.toNat_natCast] at hn h ⊢
      have hul : l ∈ (thAt G k).holds := hasB_iff.1 (by cases q : hasB (thAt G k).holds l with | true => rfl | false => exact absurd (.inr q) hn)
      have hw : (thAt G k).waits < 0 := Int.not_le.1 fun q => hn (.inl q)
      have hT := toInv G l
      have hmost : ∀ (j : Nat) (u : Th), G[j]? = some u → u.waits = l → 0 ≤ toG G l ∧ effV G j ≤ effV G (toG G l).toNat := by
        intro j u hj hu
        obtain ⟨m1, m2⟩ := hT.best j u (List.getElem?_eq_some_iff.1 hj).1 hj hu
        refine ⟨m1, ?_⟩
        obtain ⟨b, hb⟩ := Int.eq_ofNat_of_zero_le m1
        have := hT.hi
        rw [hb] at m2 this ⊢
        rw [valAt_eff hv (List.getElem?_eq_some_iff.1 hj).1, valAt_eff hv (by omega)] at m2
        exact m2
      split
      · rename_i hb
        have hk2 := let_nobody hv hk hw (l := l) (fun u hu e => by
          obtain ⟨j, hj, hju⟩ := List.mem_iff_getElem.1 hu
          have := (hmost j u (by rw [List.getElem?_eq_getElem hj, hju]) e).1
          omega)
        exact ⟨⟨hk2.v, hk2.v0, hk2.len, hk2.circ⟩, hT.hi, hT.lo, hmost, by simp [Int.toNat_natCast, hkl]⟩
      · rename_i hb
        obtain ⟨b, x, hbe, hx, hxw, hbk, hxl, _⟩ := toG_other hv hk hw hul (Int.not_lt.1 hb)
        have hk2 := let_other hv hk hx hbk hl hw hul hxw
        have hbl := (List.getElem?_eq_some_iff.1 hx).1
        rw [hbe] at hmost ⊢
        rw [Int.toNat_natCast, thAt_eq hx]
        refine ⟨⟨hk2.v, hk2.v0, hk2.len, hk2.circ⟩, (show ((b : Nat) : Int) < G.length by omega), (show -1 ≤ ((b : Nat) : Int) by omega), fun j u hj hu => ?_, ?_⟩
        · exact hmost j u hj hu
        · rw [Int.toNat_natCast, List.getElem?_set, if_neg hbk, List.getElem?_set, if_pos rfl, if_pos hkl]
  · simp at h
theorem letR_bad {G A : List Th} {t l b x : Int} (h : letR G t l = (A, b, x)) (hx : x ≠ 0) : A = [] := by
  unfold letR at h
  split at h
  · split at h
    · simp at h; exact h.1
    · split at h
      · simp at h; omega
      · simp at h; omega
  · simp at h; exact h.1
theorem circR_none {G A : List Th} {b : Int} (h : LetKeeps G A b) (hne : (circleR G).2 ≠ 0) : (circleR A).2 = 3 := by
  have hc : ∀ i, i < G.length → circG G i = false := by
    rcases circleR_cases h.v0 with q | q
    · exact absurd q hne
    · exact q.2
  rcases circleR_cases h.v with q | q
  · obtain ⟨i, hi, e⟩ := (circle_iff h.v).1 q
    rw [h.circ hc i hi] at e; exact absurd e (by simp)
  · rw [q.1]
section
variable {a : Option Addr} {n c : Nat} {g : List ThV} {w : World} {G A : List Th} {t l x b : Int}
theorem Let_is (hG : RdG w a n g) (hg : g.map ThV.th = G) (hH : ∀ t ∈ g, t.n ≤ 1000) (h : letR G t l = (A, b, x)) : Calls Try.prog 33 #[.slice a n c, .int .i64 t, .int .i64 l] w (OutL 52 w.heap.size w A b x) := by
  have := Let_any a n c g G t l w hG hg hH
  rw [h] at this; exact this
theorem rLet_is (hG : RdG w a n g) (hg : g.map ThV.th = G) (hH : ∀ t ∈ g, t.n ≤ 1000) (h : letR G t l = (A, b, x)) : Calls Try.prog 38 #[.slice a n c, .int .i64 t, .int .i64 l] w (OutL 45 w.heap.size w A b x) := by
  have := rLet_any a n c g G t l w hG hg hH
  rw [let_eq, h] at this; exact this
theorem let_small {w2 : World} {a2 : Option Addr} {n2 : Nat} {g2 : List ThV} (h : letR G t l = (A, b, x)) (h2 : RdG w2 a2 n2 g2) (hg2 : g2.map ThV.th = A) : n2 ≤ 1000 ∧ ∀ t ∈ g2, t.n ≤ 1000 := by
  by_cases hx : x = 0
  · have := let_full (G := G) (t := t) (l := l) (by rw [h]; exact hx)
    rw [h] at this
    have h8 := validG_len this.keeps.v
    have hl := h2.length
    refine ⟨by rw [← hg2] at h8; simp at h8; omega, fun t ht => ?_⟩
    have h1 := asc_len (valid_asc this.keeps.v (t := t.th) (by rw [← hg2]; exact List.mem_map_of_mem ht))
    have h3 := (h2.ok t ht).1.length
    have h4 : t.th.holds = t.holds := rfl
    rw [h4] at h1; omega
  · have := letR_bad h hx
    subst this
    have hl := h2.length
    obtain rfl : g2 = [] := by simpa using hg2
    exact ⟨by simp at hl; omega, by simp⟩
end
end Go.Proofs.Ytmdjbnicjohkjaa
