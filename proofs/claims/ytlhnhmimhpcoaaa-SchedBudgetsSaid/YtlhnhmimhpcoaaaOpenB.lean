/- From what a row says of an argument, its reach with it, to what the walks use. No condition: plain lemmas. -/
import Derived.Test.YtlhnhmimhpcoaaaBase
import Derived.SizedLaws
namespace Go.Proofs.Ytlhnhmimhpcoaaa
open Go.ChangeShapes Go.WideShapes Go.ChangeAt Go.RowKit Go.Joins Go.Deep
set_option linter.unusedSimpArgs false
set_option linter.unusedVariables false
theorem weightsAll_mem {H : Type} {P : Program} {e : TypeId} {d : DataW H} : ∀ {l : List (DataW H)}, d ∈ l → ∀ n ∈ d.weights P e, n ∈ DataW.weightsAll P e l
  | x :: l, hd, n, hn => by
    unfold DataW.weightsAll
    rcases List.mem_cons.1 hd with rfl | hd
    · exact List.mem_append_left _ hn
    · exact List.mem_append_right _ (weightsAll_mem hd n hn)
/-- what a type's cells read as, the reach known -/
def OpensB (P : Program) (t : TypeId) {α : Type} (R : World → List Value → α → Prop) : Prop :=
  ∀ {H : Type} {enc : TypeId × Value → H} {w : World} {base : Nat} {spare : Nat → Bool} {held : Bool} {fuel : Nat} {cs : List Value} {x : DataW H × List MemPlace}, DataW.trod enc P w base spare held fuel t cs = some x → (∀ n ∈ x.1.weights P t, n ≤ reachBytes) → ∃ y, R w cs y
theorem opensB_int {P : Program} {t : TypeId} (ht : P.underlying t = some (.int .i64)) : OpensB P t (fun _ cs (y : Int) => cs = enc1 y ∧ True) := by
  intro H enc w base spare held fuel cs x h _
  obtain ⟨n, e, _⟩ := DataW.trod_int ht h
  exact ⟨n, e, trivial⟩
theorem addB_add (a : Addr) (i : Nat) (h : a.spot = none) : a.add i = ⟨a.block, a.off + i, none⟩ := by
  obtain ⟨b, o, s⟩ := a
  simp only at h
  subst h
  unfold Addr.add; split <;> simp_all
theorem opensB_slice {P : Program} {t e : TypeId} {k : Nat} {α : Type} [Inhabited α] {en : α → List Value} {ok : World → α → Prop} (ht : P.underlying t = some (.slice e)) (hk : P.cellsOf e = k) (hk0 : 0 < k) (he : OpensB P e (fun w cs y => cs = en y ∧ ok w y)) :
    OpensB P t (fun w cs (ys : List α) => ∃ a n c, cs = [.slice a n c] ∧ Rd w a n k (ys.map en) ∧ (∀ y ∈ ys, ok w y) ∧ (n = 0 → (a = none ∧ c = 0) ∨ ∃ ad, a = some ad) ∧ n * P.bytesOf e ≤ reachBytes) := by
  intro H enc w base spare held fuel cs x h hw
  rcases open_slice ht h with ⟨rfl, _⟩ | ⟨a, len, cap, m, n, D, Pl, rfl, hb, hl, hm, hmm, hxe, hx⟩
  · exact ⟨[], none, 0, 0, rfl, Rd.nil w k none, by simp, fun _ => .inl ⟨rfl, rfl⟩, by omega⟩
  · have hlm : len ≤ m := by rw [hmm]; split <;> omega
    rw [hxe] at hw
    simp only [DataW.weights, ht, List.mem_cons, List.mem_append, List.length_map, List.length_range] at hw
    have each : ∀ i, i < len → ∃ y : α, (∀ j, j < k → w.cell? ((a.add (i * k)).add j) = (en y)[j]?) ∧ ok w y := by
      intro i hi
      obtain ⟨cs', h1, h2⟩ := hx i (by omega)
      rw [hk] at h1
      obtain ⟨_, hlen, hcell⟩ := World.cells?_some h1
      obtain ⟨y, rfl, hok⟩ := he h2 (fun q hq => hw q (.inr (.inl (weightsAll_mem (List.mem_map_of_mem (List.mem_range.2 hi)) q hq))))
      exact ⟨y, hcell, hok⟩
    obtain ⟨q, hq⟩ := choose_lt each
    refine ⟨(List.range len).map q, some a, len, cap, rfl, ⟨by simp, by unfold maxLen at hm; omega, fun h0 => ?_⟩, fun y hy => ?_, fun _ => .inr ⟨a, rfl⟩, ?_⟩
    · have c0 := (hq 0 h0).1 0 hk0
      have hne : ∃ v, w.cell? ((a.add (0 * k)).add 0) = some v := by
        obtain ⟨cs', h1, h2⟩ := hx 0 (by omega)
        rw [hk] at h1
        obtain ⟨_, hlen, hcell⟩ := World.cells?_some h1
        rw [hcell 0 hk0]
        exact ⟨cs'[0], by simp [List.getElem?_eq_getElem, hlen, hk0]⟩
      obtain ⟨v, hv⟩ := hne
      have hs0 := World.cell?_spot hv
      have hsp : a.spot = none := by
        obtain ⟨b, o, s⟩ := a
        unfold Addr.add at hs0
        simp at hs0
        exact hs0
      have hblk := World.block_lt_of_cell? w _ hv
      rw [addB_add _ _ hsp, addB_add _ _ rfl] at hblk
      refine ⟨a.block, a.off, by obtain ⟨b, o, s⟩ := a; simp only at hsp; rw [hsp], hblk, fun i hi j hj => ?_⟩
      have hi' : i < len := by simpa using hi
      have := (hq i hi').1 j hj
      rw [addB_add _ _ hsp, addB_add _ _ rfl] at this
      simp only at this
      rw [this]; simp
    · obtain ⟨i, hi, rfl⟩ := List.mem_map.1 hy
      exact (hq i (List.mem_range.1 hi)).2
    · have h1 := hw _ (.inl rfl)
      have h2 : len * P.bytesOf e ≤ (len + (m - len)) * P.bytesOf e := Nat.mul_le_mul_right _ (by omega)
      omega
end Go.Proofs.Ytlhnhmimhpcoaaa
