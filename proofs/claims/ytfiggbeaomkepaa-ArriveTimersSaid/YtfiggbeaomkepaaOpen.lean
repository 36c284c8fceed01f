/- From what a row says of an argument to what the walks use. No condition: plain lemmas. -/
import Derived.Test.YtfiggbeaomkepaaBase
namespace Go.Proofs.Ytfiggbeaomkepaa
open Go.ChangeShapes Go.WideShapes Go.ChangeAt Go.RowKit Go.Joins Go.Deep
set_option linter.unusedSimpArgs false
set_option linter.unusedVariables false
section
variable {H : Type} {enc : TypeId × Value → H} {P : Program} {w : World} {base b0 : Nat} {spare : Nat → Bool} {held : Bool} {r : Reach} {t : TypeId} {v : Value} {d : DataW H} {ps : List MemPlace}
theorem open_i64 (ht : P.underlying t = some (.int .i64)) (hv : Value.okWide P w r b0 t v) (h : DataW.Trod enc P w base spare held t v d ps) : ∃ n, v = .int .i64 n ∧ (-9223372036854775808 ≤ n ∧ n ≤ 9223372036854775807) := by
  obtain ⟨n, rfl, _, _, hw⟩ := open_int ht hv h
  refine ⟨n, rfl, ?_⟩
  simpa [Lit.wf, IntKind.min, IntKind.max, IntKind.signed, IntKind.bits] using hw
theorem open_int3 {f0 f1 f2 : Field} (hs : P.underlying t = some (.struct #[f0, f1, f2])) (hone : oneCellFields P #[f0, f1, f2] = true) (hC : P.cellsOf t = 3)
    (h0 : P.underlying f0.type = some (.int .i64)) (h1 : P.underlying f1.type = some (.int .i64)) (h2 : P.underlying f2.type = some (.int .i64))
    (hv : Value.okWide P w r b0 t v) (h : DataW.Trod enc P w base spare held t v d ps) : ∃ a b c, v = .agg #[.int .i64 a, .int .i64 b, .int .i64 c] := by
  obtain ⟨v0, v1, v2, y0, y1, y2, n, rfl, _, _, k0, k1, k2⟩ := open_agg3 hs hone hC hv h
  obtain ⟨a, e0, _⟩ := DataW.trod_int h0 k0
  obtain ⟨b, e1, _⟩ := DataW.trod_int h1 k1
  obtain ⟨c, e2, _⟩ := DataW.trod_int h2 k2
  simp at e0 e1 e2
  exact ⟨a, b, c, by rw [e0, e1, e2]⟩
end
/-- what a type's cells read as: R w cs y for some y -/
def Opens (P : Program) (t : TypeId) {α : Type} (R : World → List Value → α → Prop) : Prop :=
  ∀ {H : Type} {enc : TypeId × Value → H} {w : World} {base : Nat} {spare : Nat → Bool} {held : Bool} {fuel : Nat} {cs : List Value} {x : DataW H × List MemPlace}, DataW.trod enc P w base spare held fuel t cs = some x → ∃ y, R w cs y
theorem opens_int {P : Program} {t : TypeId} (ht : P.underlying t = some (.int .i64)) : Opens P t (fun _ cs (y : Int) => cs = enc1 y) := by
  intro H enc w base spare held fuel cs x h
  obtain ⟨n, e, _⟩ := DataW.trod_int ht h
  exact ⟨n, e⟩
theorem opens_pair {P : Program} {t e : TypeId} (ht : P.underlying t = some (.array 2 e)) (he : P.underlying e = some (.int .i64)) (hc : P.cellsOf e = 1) (hc2 : P.cellsOf t = 2) : Opens P t (fun _ cs (y : P2) => cs = enc2 y) := by
  intro H enc w base spare held fuel cs x h
  obtain ⟨xs, m, _, _, hl, hx, hf⟩ := DataW.trod_array ht h
  rw [hc2] at hl
  match cs, hl, xs, hx with
  | [u, v], _, [x0, x1], _ =>
    have g0 := hf 0 (by omega)
    have g1 := hf 1 (by omega)
    simp [hc] at g0 g1
    obtain ⟨a, e0, _⟩ := DataW.trod_int he g0
    obtain ⟨b, e1, _⟩ := DataW.trod_int he g1
    simp at e0 e1
    exact ⟨(a, b), by rw [e0, e1]; rfl⟩
theorem addr_add (a : Addr) (i : Nat) (h : a.spot = none) : a.add i = ⟨a.block, a.off + i, none⟩ := by
  obtain ⟨b, o, s⟩ := a
  simp only at h
  subst h
  unfold Addr.add; split <;> simp_all
/-- a slice of flat elements -/
theorem opens_slice {P : Program} {t e : TypeId} {k : Nat} {α : Type} [Inhabited α] {en : α → List Value} (ht : P.underlying t = some (.slice e)) (hk : P.cellsOf e = k) (hk0 : 0 < k) (he : Opens P e (fun _ cs y => cs = en y)) :
    Opens P t (fun w cs (ys : List α) => ∃ a n c, cs = [.slice a n c] ∧ Rd w a n k (ys.map en) ∧ (n = 0 → (a = none ∧ c = 0) ∨ ∃ ad, a = some ad)) := by
  intro H enc w base spare held fuel cs x h
  rcases open_slice ht h with ⟨rfl, _⟩ | ⟨a, len, cap, m, n, D, Pl, rfl, hb, hl, hm, hmm, _, hx⟩
  · exact ⟨[], none, 0, 0, rfl, Rd.nil w k none, fun _ => .inl ⟨rfl, rfl⟩⟩
  · have hlm : len ≤ m := by rw [hmm]; split <;> omega
    have each : ∀ i, i < len → ∃ y : α, ∀ j, j < k → w.cell? ((a.add (i * k)).add j) = (en y)[j]? := by
      intro i hi
      obtain ⟨cs', h1, h2⟩ := hx i (by omega)
      rw [hk] at h1
      obtain ⟨_, hlen, hcell⟩ := World.cells?_some h1
      obtain ⟨y, rfl⟩ := he h2
      exact ⟨y, hcell⟩
    obtain ⟨q, hq⟩ := choose_lt each
    refine ⟨(List.range len).map q, some a, len, cap, rfl, ⟨by simp, by unfold maxLen at hm; omega, fun h0 => ?_⟩, fun _ => .inr ⟨a, rfl⟩⟩
    have c0 := hq 0 h0 0 hk0
    have hne : ∃ v, w.cell? ((a.add (0 * k)).add 0) = some v := by
      obtain ⟨cs', h1, h2⟩ := hx 0 (by omega)
      rw [hk] at h1
      obtain ⟨_, hlen, hcell⟩ := World.cells?_some h1
      rw [hcell 0 hk0]
      exact ⟨cs'[0], by simp [List.getElem?_eq_getElem, hlen, hk0]⟩
    obtain ⟨v, hv⟩ := hne
    have hs0 := World.cell?_spot hv
    have hsp : a.spot = none := by
      obtain ⟨b, o, s⟩ := a
      unfold Addr.add at hs0
      simp at hs0
      exact hs0
    have hblk := World.block_lt_of_cell? w _ hv
    rw [addr_add _ _ hsp, addr_add _ _ rfl] at hblk
    refine ⟨a.block, a.off, by obtain ⟨b, o, s⟩ := a; simp only at hsp; rw [hsp], hblk, fun i hi j hj => ?_⟩
    have hi' : i < len := by simpa using hi
    have := hq i hi' j hj
    rw [addr_add _ _ hsp, addr_add _ _ rfl] at this
    simp only at this
    rw [this]; simp
set_option maxRecDepth 100000 in
theorem open_pat {H : Type} {enc : TypeId × Value → H} {w : World} {base b0 : Nat} {spare : Nat → Bool} {held : Bool} {r : Reach} {v : Value} {d : DataW H} {ps : List MemPlace}
    (hv : Value.okWide Try.prog w r b0 23 v) (h : DataW.Trod enc Try.prog w base spare held 23 v d ps) : ∃ a b c, v = .agg #[.int .i64 a, .int .i64 b, .int .i64 c] ∧ True :=
  let ⟨a, b, c, e⟩ := open_int3 Try.underlying23 (by kernel_rfl) (by kernel_rfl) Try.underlying3 Try.underlying3 Try.underlying3 hv h
  ⟨a, b, c, e, trivial⟩
set_option maxRecDepth 100000 in
theorem open_clk {H : Type} {enc : TypeId × Value → H} {w : World} {base b0 : Nat} {spare : Nat → Bool} {held : Bool} {r : Reach} {v : Value} {d : DataW H} {ps : List MemPlace}
    (hv : Value.okWide Try.prog w r b0 30 v) (h : DataW.Trod enc Try.prog w base spare held 30 v d ps) : ∃ a b c, v = .agg #[.int .i64 a, .int .i64 b, .int .i64 c] ∧ True :=
  let ⟨a, b, c, e⟩ := open_int3 Try.underlying30 (by kernel_rfl) (by kernel_rfl) Try.underlying3 Try.underlying3 Try.underlying3 hv h
  ⟨a, b, c, e, trivial⟩
set_option maxRecDepth 100000 in
theorem open_P2s {H : Type} {enc : TypeId × Value → H} {w : World} {base b0 : Nat} {spare : Nat → Bool} {held : Bool} {r : Reach} {v : Value} {d : DataW H} {ps : List MemPlace}
    (hv : Value.okWide Try.prog w r b0 34 v) (h : DataW.Trod enc Try.prog w base spare held 34 v d ps) : ∃ a n c, v = .slice a n c ∧ ∃ xs : List P2, Rd w a n 2 (xs.map enc2) ∧ (n = 0 → (a = none ∧ c = 0) ∨ ∃ ad, a = some ad) := by
  obtain ⟨a0, n0, c0, rfl⟩ := okWide_slice Try.underlying34 hv
  obtain ⟨fuel, hf⟩ := h
  obtain ⟨ys, a, n, c, e, h1, h2⟩ := opens_slice (en := enc2) (k := 2) Try.underlying34 (by kernel_rfl) (by decide) (opens_pair Try.underlying61 Try.underlying3 (by kernel_rfl) (by kernel_rfl)) hf
  simp [Value.cells] at e
  obtain ⟨rfl, rfl, rfl⟩ := e
  exact ⟨_, _, _, rfl, ys, h1, h2⟩
end Go.Proofs.Ytfiggbeaomkepaa
