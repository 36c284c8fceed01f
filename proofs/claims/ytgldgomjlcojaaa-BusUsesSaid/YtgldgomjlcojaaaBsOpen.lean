/- From what a row says of slots and requests to what the walks use. No condition: plain lemmas. -/
import Derived.Test.YtgldgomjlcojaaaOpen
namespace Go.Proofs.Ytgldgomjlcojaaa
open Go.ChangeShapes Go.WideShapes Go.ChangeAt Go.RowKit Go.Joins Go.Deep
set_option linter.unusedSimpArgs false
set_option linter.unusedVariables false
set_option maxRecDepth 100000 in
theorem opens_slot : Opens Try.prog 27 (fun _ cs (y : P2) => cs = enc2 y) := by
  intro H enc w base spare held fuel cs x h
  obtain ⟨xs, n, _, hx, hl, hxl, hf⟩ := DataW.trod_struct Try.underlying27 h
  have hc : Try.prog.cellsOf 27 = 2 := by kernel_rfl
  have hc1 : Try.prog.cellsOf 3 = 1 := by kernel_rfl
  rw [hc] at hl
  match cs, hl, xs, hxl with
  | [u0, u1], _, [x0, x1], _ =>
    have g0 := hf 0 _ rfl
    have g1 := hf 1 _ rfl
    simp [hc1] at g0 g1
    obtain ⟨p, e0, _⟩ := DataW.trod_int Try.underlying3 g0
    obtain ⟨l, e1, _⟩ := DataW.trod_int Try.underlying3 g1
    simp at e0 e1
    subst e0; subst e1
    exact ⟨(p, l), rfl⟩
set_option maxRecDepth 100000 in
theorem open_Ss {H : Type} {enc : TypeId × Value → H} {w : World} {base b0 : Nat} {spare : Nat → Bool} {held : Bool} {r : Reach} {v : Value} {d : DataW H} {ps : List MemPlace}
    (hv : Value.okWide Try.prog w r b0 22 v) (h : DataW.Trod enc Try.prog w base spare held 22 v d ps) : ∃ a n c, v = .slice a n c ∧ ∃ xs : List P2, Rd w a n 2 (xs.map enc2) ∧ (n = 0 → (a = none ∧ c = 0) ∨ ∃ ad, a = some ad) := by
  obtain ⟨a0, n0, c0, rfl⟩ := okWide_slice Try.underlying22 hv
  obtain ⟨fuel, hf⟩ := h
  obtain ⟨ys, a, n, c, e, h1, h2⟩ := opens_slice (en := enc2) (k := 2) Try.underlying22 (by kernel_rfl) (by decide) opens_slot hf
  simp [Value.cells] at e
  obtain ⟨rfl, rfl, rfl⟩ := e
  exact ⟨_, _, _, rfl, ys, h1, h2⟩
set_option maxRecDepth 100000 in
theorem open_req {H : Type} {enc : TypeId × Value → H} {w : World} {base b0 : Nat} {spare : Nat → Bool} {held : Bool} {r : Reach} {v : Value} {d : DataW H} {ps : List MemPlace}
    (hv : Value.okWide Try.prog w r b0 35 v) (h : DataW.Trod enc Try.prog w base spare held 35 v d ps) : ∃ a b c, v = .agg #[.int .i64 a, .int .i64 b, .int .i64 c] ∧ True :=
  let ⟨a, b, c, e⟩ := open_int3 Try.underlying35 (by kernel_rfl) (by kernel_rfl) Try.underlying3 Try.underlying3 Try.underlying3 hv h
  ⟨a, b, c, e, trivial⟩
set_option maxRecDepth 100000 in
theorem open_t2 {H : Type} {enc : TypeId × Value → H} {w : World} {base b0 : Nat} {spare : Nat → Bool} {held : Bool} {r : Reach} {v : Value} {d : DataW H} {ps : List MemPlace}
    (hv : Value.okWide Try.prog w r b0 41 v) (h : DataW.Trod enc Try.prog w base spare held 41 v d ps) : ∃ a b, v = .agg #[.int .i64 a, .int .i64 b] ∧ True := by
  simp only [Value.okWide, Try.underlying41] at hv
  obtain ⟨cs, rfl, _, _⟩ := hv
  obtain ⟨fuel, hf⟩ := h
  obtain ⟨y, hy⟩ := opens_pair Try.underlying41 Try.underlying3 (by kernel_rfl) (by kernel_rfl) hf
  obtain ⟨l⟩ := cs
  simp only [Value.cells, enc2] at hy
  exact ⟨y.1, y.2, by rw [show l = [.int .i64 y.1, .int .i64 y.2] from hy], trivial⟩
/-- a slice of flat elements -/
theorem opens_slice2 {P : Program} {t e : TypeId} {k : Nat} {α : Type} [Inhabited α] {en : α → List Value} (ht : P.underlying t = some (.slice e)) (hk : P.cellsOf e = k) (hk0 : 0 < k) (he : Opens P e (fun _ cs y => cs = en y)) :
    Opens P t (fun w cs (ys : List α) => ∃ a n c, cs = [.slice a n c] ∧ Rd w a n k (ys.map en) ∧ (n = 0 → (a = none ∧ c = 0) ∨ ∃ ad, a = some ad) ∧ (n ≤ c ∧ c ≤ 9223372036854775807)) := by
  intro H enc w base spare held fuel cs x h
  rcases open_slice ht h with ⟨rfl, _⟩ | ⟨a, len, cap, m, n, D, Pl, rfl, hb, hl, hm, hmm, _, hx⟩
  · exact ⟨[], none, 0, 0, rfl, Rd.nil w k none, fun _ => .inl ⟨rfl, rfl⟩, by omega⟩
  · have hlm : len ≤ m := by rw [hmm]; split <;> omega
    have each : ∀ i, i < len → ∃ y : α, ∀ j, j < k → w.cell? ((a.add (i * k)).add j) = (en y)[j]? := by
      intro i hi
      obtain ⟨cs', h1, h2⟩ := hx i (by omega)
      rw [hk] at h1
      obtain ⟨_, hlen, hcell⟩ := World.cells?_some h1
      obtain ⟨y, rfl⟩ := he h2
      exact ⟨y, hcell⟩
    obtain ⟨q, hq⟩ := choose_lt each
    refine ⟨(List.range len).map q, some a, len, cap, rfl, ⟨by simp, by unfold maxLen at hm; omega, fun h0 => ?_⟩, fun _ => .inr ⟨a, rfl⟩, hl, by unfold maxLen at hm; omega⟩
    have c0 := hq 0 h0 0 hk0
    have hne : ∃ v, w.cell? ((a.add (0 * k)).add 0) = some v := by
      obtain ⟨cs', h1, h2⟩ := hx 0 (by omega)
      rw [hk] at h1
      obtain ⟨_, hlen, hcell⟩ := World.cells?_some h1
      rw [hcell 0 hk0]
      exact ⟨cs'[0], by simp [List.getElem?_eq_getElem, hlen, hk0]⟩
    obtain ⟨v, hv⟩ := hne
    have hs0 := World.cell?_spot hv
    have hsp : a.spot = none := by
      obtain ⟨b, o, s⟩ := a
      unfold Addr.add at hs0
      simp at hs0
      exact hs0
    have hblk := World.block_lt_of_cell? w _ hv
    rw [addr_add _ _ hsp, addr_add _ _ rfl] at hblk
    refine ⟨a.block, a.off, by obtain ⟨b, o, s⟩ := a; simp only at hsp; rw [hsp], hblk, fun i hi j hj => ?_⟩
    have hi' : i < len := by simpa using hi
    have := hq i hi' j hj
    rw [addr_add _ _ hsp, addr_add _ _ rfl] at this
    simp only at this
    rw [this]; simp
set_option maxRecDepth 100000 in
theorem open_Ss3 {H : Type} {enc : TypeId × Value → H} {w : World} {base b0 : Nat} {spare : Nat → Bool} {held : Bool} {r : Reach} {v : Value} {d : DataW H} {ps : List MemPlace}
    (hv : Value.okWide Try.prog w r b0 22 v) (h : DataW.Trod enc Try.prog w base spare held 22 v d ps) : ∃ a n c, v = .slice a n c ∧ ∃ xs : List P2, Rd w a n 2 (xs.map enc2) ∧ (n = 0 → (a = none ∧ c = 0) ∨ ∃ ad, a = some ad) ∧ (n ≤ c ∧ c ≤ 9223372036854775807) := by
  obtain ⟨a0, n0, c0, rfl⟩ := okWide_slice Try.underlying22 hv
  obtain ⟨fuel, hf⟩ := h
  obtain ⟨ys, a, n, c, e, h1, h2, h3⟩ := opens_slice2 (en := enc2) (k := 2) Try.underlying22 (by kernel_rfl) (by decide) opens_slot hf
  simp [Value.cells] at e
  obtain ⟨rfl, rfl, rfl⟩ := e
  exact ⟨_, _, _, rfl, ys, h1, h2, h3⟩
end Go.Proofs.Ytgldgomjlcojaaa
