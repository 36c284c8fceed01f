/- The memory of serve under way: the rows that it writes, what it reads. No condition: plain lemmas. -/
import Derived.Test.YtgldgomjlcojaaaSvMem
namespace Go.Proofs.Ytgldgomjlcojaaa
open Go.RowKit
set_option linter.unusedSimpArgs false
set_option linter.unusedVariables false
/-- numbers laid where S has come, 0 elsewhere -/
def layS (n : Nat) (S : List Int) (f : Int → Nat) : List Int := (idxs n).map fun j => if j ∈ S then (f j : Int) else 0
theorem layS_len (n : Nat) (S : List Int) (f : Int → Nat) : (layS n S f).length = n := by simp [layS, idxs_len]
theorem layS_get {n : Nat} (S : List Int) (f : Int → Nat) {j : Nat} (h : j < n) : (layS n S f)[j]? = some (if (j : Int) ∈ S then (f j : Int) else 0) := by
  unfold layS; rw [List.getElem?_map, idxs_get h]; rfl
theorem layS_nil (n : Nat) (f : Int → Nat) : layS n [] f = List.replicate n 0 := by
  unfold layS
  rw [List.eq_replicate_iff]
  refine ⟨by simp [idxs_len], fun b hb => ?_⟩
  obtain ⟨j, _, rfl⟩ := List.mem_map.1 hb
  simp
theorem layS_set {n : Nat} (S : List Int) (f : Int → Nat) {k : Nat} (h : k < n) : (layS n S f).set k (f k : Int) = layS n (S ++ [(k : Int)]) f := by
  apply List.ext_getElem?
  intro i
  rw [List.getElem?_set]
  by_cases hi : i < n
  · rw [layS_get _ _ hi, layS_get _ _ hi, layS_len]
    by_cases e : k = i
    · subst e; simp [h]
    · have e2 : ¬ ((i : Int) = (k : Int)) := by omega
      simp [e, e2]
  · rw [List.getElem?_eq_none (by rw [layS_len]; omega), List.getElem?_eq_none (by rw [layS_len]; omega)]
    by_cases e : k = i
    · omega
    · simp [e]
theorem layS_step {q : List Rq} {n p k : Nat} (f : Int → Nat) (h : (ordQ q)[p]? = some (k : Int)) (hk : k < n) : layS n ((ordQ q).take (p + 1)) f = (layS n ((ordQ q).take p) f).set k (f k : Int) := by
  rw [List.take_add_one, h, layS_set _ _ hk]; rfl
theorem layS_all {n : Nat} {S : List Int} (h : ∀ j ∈ idxs n, j ∈ S) (f : Int → Nat) : layS n S f = (idxs n).map fun j => (f j : Int) := by
  unfold layS
  exact List.map_congr_left (fun j hj => by rw [if_pos (h j hj)])
theorem addr_neQ {b b' i j : Nat} (h : b ≠ b' ∨ i ≠ j) : (⟨b, i, none⟩ : Addr) ≠ ⟨b', j, none⟩ := by
  intro q; rcases h with h | h
  · exact h (congrArg Addr.block q)
  · exact h (congrArg Addr.off q)
theorem keep_c {w w' : World} (hb : Below w.heap.size w w') {b o : Nat} {v : Value} (h : w.cell? ⟨b, o, none⟩ = some v) : w'.cell? ⟨b, o, none⟩ = some v := (hb.cell (p := ⟨b, o, none⟩) (World.block_lt_of_cell? w _ h)).trans h
theorem owns_away {w : World} {B e k m n c q j : Nat} {v : Value} {xs : List Value} (h : w.ownsRow B e k (.slice (some ⟨m, 0, none⟩) n c) n xs) (hq : m ≠ q) : (w.setCell ⟨q, j, none⟩ v).ownsRow B e k (.slice (some ⟨m, 0, none⟩) n c) n xs :=
  h.kept (row := some q) ⟨rfl, rfl, rfl, by simp [World.setCell], fun k _ hk => Below.heap_setCell _ _ _ _ (fun e => hk (by simp [e]))⟩ (Or.inr (by simpa [Value.ownBlock] using hq))
/-- the memory: O the order, gb and ge the two rows, F the array of the masters; w4: the world ahead of them -/
structure SvSt (w4 w : World) (O gb ge F n : Nat) (ord bs es : List Int) (fr : Nat → Nat) : Prop where
  b : w.ownsRow w4.heap.size 3 1 (.slice (some ⟨gb, 0, none⟩) n n) n (bs.flatMap enc1)
  e : w.ownsRow w4.heap.size 3 1 (.slice (some ⟨ge, 0, none⟩) n n) n (es.flatMap enc1)
  o : w.ownsRow w4.heap.size 3 1 (.slice (some ⟨O, 0, none⟩) n n) n (ord.flatMap enc1)
  f : ∀ m, m < 4 → w.cell? ⟨F, m, none⟩ = some (.int .i64 (fr m))
  ff : ∀ m, w.frozen? ⟨F, m, none⟩ = false
  lb : Below w4.heap.size w4 w
  fl : F < w.heap.size
  pl : w4.heap.size ≤ O ∧ O < gb ∧ O < ge ∧ gb ≠ ge ∧ gb < F ∧ ge < F
section
variable {w4 w w' : World} {O gb ge F n : Nat} {ord bs es : List Int} {fr : Nat → Nat}
theorem SvSt.ext (s : SvSt w4 w O gb ge F n ord bs es fr) (hb : Below w.heap.size w w') : SvSt w4 w' O gb ge F n ord bs es fr := by
  have hfl := s.fl
  have hpl := s.pl
  exact ⟨owns_ext s.b hb, owns_ext s.e hb, owns_ext s.o hb, fun m hm => (hb.cell (p := ⟨F, m, none⟩) hfl).trans (s.f m hm), fun m => (hb.frozen (p := ⟨F, m, none⟩) hfl).trans (s.ff m),
    s.lb.trans (hb.mono s.lb.size), Nat.lt_of_lt_of_le hfl hb.size, hpl⟩
theorem SvSt.setB (s : SvSt w4 w O gb ge F n ord bs es fr) (k : Nat) (x : Int) : SvSt w4 (w.setCell ⟨gb, k, none⟩ (.int .i64 x)) O gb ge F n ord (bs.set k x) es fr := by
  have hpl := s.pl
  exact ⟨ownsI_set s.b k x, owns_away s.e (by omega), owns_away s.o (by omega), fun m hm => (World.cell?_setCell_other _ _ _ _ (addr_neQ (.inl (by omega)))).trans (s.f m hm), fun m => by rw [World.frozen?_setCell]; exact s.ff m,
    s.lb.setCell (p := ⟨gb, k, none⟩) (by show w4.heap.size ≤ gb; omega) _, by simpa using s.fl, hpl⟩
theorem SvSt.setE (s : SvSt w4 w O gb ge F n ord bs es fr) (k : Nat) (x : Int) : SvSt w4 (w.setCell ⟨ge, k, none⟩ (.int .i64 x)) O gb ge F n ord bs (es.set k x) fr := by
  have hpl := s.pl
  exact ⟨owns_away s.b (by omega), ownsI_set s.e k x, owns_away s.o (by omega), fun m hm => (World.cell?_setCell_other _ _ _ _ (addr_neQ (.inl (by omega)))).trans (s.f m hm), fun m => by rw [World.frozen?_setCell]; exact s.ff m,
    s.lb.setCell (p := ⟨ge, k, none⟩) (by show w4.heap.size ≤ ge; omega) _, by simpa using s.fl, hpl⟩
theorem SvSt.setF (s : SvSt w4 w O gb ge F n ord bs es fr) (k : Nat) (hk : k < 4) (x : Nat) : SvSt w4 (w.setCell ⟨F, k, none⟩ (.int .i64 x)) O gb ge F n ord bs es (fun m => if m = k then x else fr m) := by
  have hpl := s.pl
  refine ⟨owns_away s.b (by omega), owns_away s.e (by omega), owns_away s.o (by omega), fun m hm => ?_, fun m => by rw [World.frozen?_setCell]; exact s.ff m,
    s.lb.setCell (p := ⟨F, k, none⟩) (by show w4.heap.size ≤ F; omega) _, by simpa using s.fl, hpl⟩
  by_cases e : m = k
  · subst e; rw [if_pos rfl]; exact World.cell?_setCell_same _ _ _ (by rw [s.f m hm])
  · rw [if_neg e]; exact (World.cell?_setCell_other _ _ _ _ (addr_neQ (.inr (fun q => e q.symm)))).trans (s.f m hm)
end
end Go.Proofs.Ytgldgomjlcojaaa
