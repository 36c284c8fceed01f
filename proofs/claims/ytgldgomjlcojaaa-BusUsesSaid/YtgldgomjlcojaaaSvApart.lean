/- The requests of one master by themselves, in plain Lean. No condition: plain lemmas. -/
import Derived.Test.YtgldgomjlcojaaaSvTop
namespace Go.Proofs.Ytgldgomjlcojaaa
open Go.RowKit
set_option linter.unusedSimpArgs false
set_option linter.unusedVariables false
theorem mem_pw_eq {α : Type} {R : α → α → Prop} (has : ∀ a b, R a b → ¬ R b a) : ∀ {a b : List α}, (∀ x, x ∈ a ↔ x ∈ b) → a.Pairwise R → b.Pairwise R → a = b
  | [], [], _, _, _ => rfl
  | [], y :: b, h, _, _ => absurd ((h y).2 (by simp)) (by simp)
  | x :: a, [], h, _, _ => absurd ((h x).1 (by simp)) (by simp)
  | x :: a, y :: b, h, ha, hb => by
    rw [List.pairwise_cons] at ha hb
    have e : x = y := by
      rcases List.mem_cons.1 ((h x).1 (by simp)) with e | h1
      · exact e
      · rcases List.mem_cons.1 ((h y).2 (by simp)) with e | h2
        · exact e.symm
        · exact absurd (hb.1 x h1) (has _ _ (ha.1 y h2))
    subst e
    have hn : ∀ {c : List α}, (∀ z ∈ c, R x z) → x ∉ c := fun hc hx => has _ _ (hc x hx) (hc x hx)
    rw [mem_pw_eq has (fun z => ?_) ha.2 hb.2]
    constructor
    · intro hz
      rcases List.mem_cons.1 ((h z).1 (by simp [hz])) with e | h1
      · subst e; exact absurd hz (hn ha.1)
      · exact h1
    · intro hz
      rcases List.mem_cons.1 ((h z).2 (by simp [hz])) with e | h1
      · subst e; exact absurd hz (hn hb.1)
      · exact h1
theorem aheadQ_asym {q : List Rq} (a b : Int) (h : aheadQ q a b = true) : ¬ aheadQ q b a = true := by rw [aheadQ_iff] at *; omega
/-- the places of one master's requests among the first k -/
def ownK (q : List Rq) (m : Int) (k : Nat) : List Int := (idxs k).filter (fun i => decide ((rqAt q i).m = m))
def ownQ (q : List Rq) (m : Int) : List Rq := (ownK q m q.length).map (rqAt q)
theorem idxs_succ (k : Nat) : idxs (k + 1) = idxs k ++ [(k : Int)] := by simp [idxs, List.range_succ]
theorem ownK_succ (q : List Rq) (m : Int) (k : Nat) : ownK q m (k + 1) = ownK q m k ++ if (rqAt q k).m = m then [(k : Int)] else [] := by
  unfold ownK; rw [idxs_succ, List.filter_append]
  congr 1
  by_cases h : (rqAt q k).m = m <;> simp [h]
theorem ownK_mem {q : List Rq} {m x : Int} {k : Nat} : x ∈ ownK q m k ↔ (0 ≤ x ∧ x < k) ∧ (rqAt q x).m = m := by unfold ownK; rw [List.mem_filter, idxs_mem]; simp
theorem ownK_pw (q : List Rq) (m : Int) (k : Nat) : (ownK q m k).Pairwise (· < ·) := (idxs_pw k).filter _
section
variable {q : List Rq} {m : Int}
theorem ownK_mono {i j : Nat} {x y : Int} (hx : (ownK q m q.length)[i]? = some x) (hy : (ownK q m q.length)[j]? = some y) : i < j ↔ x < y := by
  obtain ⟨h1, rfl⟩ := List.getElem?_eq_some_iff.1 hx
  obtain ⟨h2, rfl⟩ := List.getElem?_eq_some_iff.1 hy
  have hp := List.pairwise_iff_getElem.1 (ownK_pw q m q.length)
  constructor
  · exact hp i j h1 h2
  · intro h
    rcases Nat.lt_trichotomy i j with e | e | e
    · exact e
    · subst e; omega
    · have := hp j i h2 h1 e; omega
theorem ownQ_at {j : Nat} {y : Int} (hy : (ownK q m q.length)[j]? = some y) : rqAt (ownQ q m) j = rqAt q y := by
  refine rqAt_of ?_
  unfold ownQ; rw [List.getElem?_map, hy]; rfl
theorem ownQ_len : (ownQ q m).length = (ownK q m q.length).length := by unfold ownQ; simp
def phi (q : List Rq) (m : Int) (i : Int) : Int := ((ownK q m q.length)[i.toNat]?).getD 0
theorem phi_of {j : Nat} {y : Int} (hy : (ownK q m q.length)[j]? = some y) : phi q m j = y := by unfold phi; rw [Int.toNat_natCast, hy]; rfl
theorem ord_own {i : Int} (hi : i ∈ ordQ (ownQ q m)) : ∃ (k : Nat) (x : Int), i = k ∧ (ownK q m q.length)[k]? = some x := by
  obtain ⟨h0, h1⟩ := ordQ_mem.1 hi
  obtain ⟨k, rfl⟩ := Int.eq_ofNat_of_zero_le h0
  rw [ownQ_len] at h1
  exact ⟨k, _, rfl, List.getElem?_eq_getElem (by omega)⟩
theorem ahead_own {i j : Nat} {x y : Int} (hx : (ownK q m q.length)[i]? = some x) (hy : (ownK q m q.length)[j]? = some y) : aheadQ (ownQ q m) i j = true ↔ aheadQ q x y = true := by
  rw [aheadQ_iff, aheadQ_iff, ownQ_at hx, ownQ_at hy]
  have := ownK_mono hx hy
  omega
theorem pre_own {j : Nat} {y : Int} (hy : (ownK q m q.length)[j]? = some y) : (preQ q y).filter (fun k => decide ((rqAt q k).m = m)) = (preQ (ownQ q m) j).map (phi q m) := by
  refine mem_pw_eq (R := fun a b => aheadQ q a b = true) aheadQ_asym (fun x => ?_) (((ordQ_pw q).filter _).filter _) ?_
  · rw [List.mem_filter, preQ, List.mem_filter, ordQ_mem, List.mem_map]
    constructor
    · rintro ⟨⟨h1, h2⟩, h3⟩
      have hm : x ∈ ownK q m q.length := ownK_mem.2 ⟨h1, by simpa using h3⟩
      obtain ⟨i, hi⟩ := List.getElem?_of_mem hm
      refine ⟨i, ?_, phi_of hi⟩
      rw [preQ, List.mem_filter, ordQ_mem]
      have hil := (List.getElem?_eq_some_iff.1 hi).1
      exact ⟨⟨by omega, by rw [ownQ_len]; omega⟩, (ahead_own hi hy).2 h2⟩
    · rintro ⟨i, hi, rfl⟩
      rw [preQ, List.mem_filter] at hi
      obtain ⟨k, z, rfl, hz⟩ := ord_own hi.1
      rw [phi_of hz]
      have hm := ownK_mem.1 (List.mem_of_getElem? hz)
      exact ⟨⟨hm.1, (ahead_own hz hy).1 hi.2⟩, by simpa using hm.2⟩
  · rw [List.pairwise_map]
    refine List.Pairwise.imp_of_mem (fun {a b} ha hb hab => ?_) ((ordQ_pw (ownQ q m)).filter _)
    obtain ⟨k, z, rfl, hz⟩ := ord_own (List.mem_filter.1 ha).1
    obtain ⟨k2, z2, rfl, hz2⟩ := ord_own (List.mem_filter.1 hb).1
    rw [phi_of hz, phi_of hz2]
    exact (ahead_own hz hz2).1 hab
theorem free_map (T : List Int) (r : Int) : ∀ (L : List Int) (f : Nat), (∀ i ∈ L, i ∈ ordQ (ownQ q m)) →
    (L.map (phi q m)).foldl (fun f k => if (rqAt q k).m = r then endN T r (max (rqAt q k).o.toNat f) (rqAt q k).k.toNat else f) f = L.foldl (fun f k => if (rqAt (ownQ q m) k).m = r then endN T r (max (rqAt (ownQ q m) k).o.toNat f) (rqAt (ownQ q m) k).k.toNat else f) f
  | [], f, _ => rfl
  | i :: L, f, h => by
    obtain ⟨k, z, rfl, hz⟩ := ord_own (h i (by simp))
    simp only [List.map_cons, List.foldl_cons]
    rw [phi_of hz, ownQ_at hz]
    exact free_map T r L _ (fun x hx => h x (by simp [hx]))
theorem en_own (T : List Int) {j : Nat} {y : Int} (hy : (ownK q m q.length)[j]? = some y) : bgN T (ownQ q m) j = bgN T q y ∧ enN T (ownQ q m) j = enN T q y := by
  have hm := (ownK_mem.1 (List.mem_of_getElem? hy)).2
  have e : bgN T (ownQ q m) j = bgN T q y := by
    unfold bgN
    rw [ownQ_at hy, hm, ← freeF_filter T q m (preQ q y), pre_own hy]
    congr 1
    exact (free_map T m _ 0 (fun i hi => (List.mem_filter.1 hi).1)).symm
  exact ⟨e, by unfold enN; rw [e, ownQ_at hy]⟩
theorem endL_own (T : List Int) : endL T (ownQ q m) = (ownK q m q.length).map (fun y => (enN T q y : Int)) := by
  apply List.ext_getElem?
  intro j
  by_cases hj : j < (ownK q m q.length).length
  · have hy := List.getElem?_eq_getElem hj
    rw [endL_get (by rw [ownQ_len]; exact hj), List.getElem?_map, hy, (en_own T hy).2]; rfl
  · rw [List.getElem?_eq_none (by simp [endL, idxs_len, ownQ_len]; omega), List.getElem?_eq_none (by simp; omega)]
theorem srv_own {l : List P2} (h0 : (srvR l q).2.2 = 0) : ∃ B, srvR l (ownQ q m) = (B, (ownK q m q.length).map (fun y => (enN (tableS l) q y : Int)), 0) := by
  obtain ⟨hv, hk, h40, hSR, hOK⟩ := srv_zero h0
  have hsub : ∀ r ∈ ownQ q m, r ∈ q := fun r hr => by
    unfold ownQ at hr
    obtain ⟨x, hx, rfl⟩ := List.mem_map.1 hr
    exact rqAt_mem (ownK_mem.1 hx).1
  refine ⟨begL (tableS l) (ownQ q m), ?_⟩
  rw [← endL_own]
  refine srv_ok hv ?_ ?_ ?_
  · rw [List.all_eq_true] at hk ⊢; exact fun r hr => hk r (hsub r hr)
  · rw [ownQ_len]
    have : (ownK q m q.length).length ≤ (idxs q.length).length := List.length_filter_le _ _
    rw [idxs_len] at this; omega
  · rw [List.any_eq_false]
    intro r hr
    have := hOK.ok.c r (hsub r hr)
    simp; omega
end
theorem srv_none {l : List P2} {q : List Rq} {B1 XS : List Int} {E : Int} (h : srvR l q = (B1, XS, E)) (h0 : ¬ E = 0) : XS = [] := by
  unfold srvR at h
  split at h
  · simp only [Prod.mk.injEq] at h; exact absurd h.2.2.symm h0
  · simp only [Prod.mk.injEq] at h; exact h.2.1.symm
end Go.Proofs.Ytgldgomjlcojaaa
