/- Tasks made easier: the plain part, and the contract of ease of the law's package. The conditions: the tasks read as named and are valid. -/
import Derived.Test.YtabbmnnohnfbeaaTkMut
import Derived.Test.YtabbmnnohnfbeaaRsEase
import Derived.Test.YtabbmnnohnfbeaaOpenB
import Derived.Test.YtabbmnnohnfbeaaOpen
import Derived.StillTailTactics
namespace Go.Proofs.Ytabbmnnohnfbeaa
open Go.RowKit
set_option linter.unusedSimpArgs false
set_option linter.unusedVariables false
structure Eased (t u : Ta) : Prop where
  pri : u.pri = t.pri
  first : t.first ≤ u.first ∧ u.first ≤ 10000
  gap : t.gap ≤ u.gap ∧ u.gap ≤ 10000
  jit : 0 ≤ u.jit ∧ u.jit ≤ t.jit
  dl : t.dl ≤ u.dl ∧ u.dl ≤ u.gap
  pl : u.pcs.length = t.pcs.length
  pc : ∀ (i : Nat) (p q : P2), t.pcs[i]? = some p → u.pcs[i]? = some q → q.2 = p.2 ∧ 1 ≤ q.1 ∧ q.1 ≤ p.1
def EasedL (L K : List Ta) : Prop := K.length = L.length ∧ ∀ (k : Nat) (t u : Ta), L[k]? = some t → K[k]? = some u → Eased t u
theorem Eased.refl {L : List Ta} (hv : ValidT L) {t : Ta} (h : t ∈ L) : Eased t t :=
  ⟨rfl, ⟨Int.le_refl _, (hv.first t h).2⟩, ⟨Int.le_refl _, (hv.gap t h).2⟩, ⟨(hv.jit t h).1, Int.le_refl _⟩, ⟨Int.le_refl _, (hv.dl t h).2⟩, rfl, fun i p q h1 h2 => by
    rw [h1] at h2; simp at h2; subst h2
    exact ⟨rfl, (hv.r.piece t h p (List.mem_of_getElem? h1)).1.1, Int.le_refl _⟩⟩
theorem EasedL.refl {L : List Ta} (hv : ValidT L) : EasedL L L := ⟨rfl, fun k t u h1 h2 => by rw [h1] at h2; simp at h2; subst h2; exact Eased.refl hv (List.mem_of_getElem? h1)⟩
theorem EasedL.set {L K : List Ta} (h : EasedL L K) {k : Nat} {u u' : Ta} (hu : K[k]? = some u) (hs : ∀ t, Eased t u → Eased t u') : EasedL L (K.set k u') := by
  refine ⟨by simpa using h.1, fun m t x h1 h2 => ?_⟩
  rw [List.getElem?_set] at h2
  split at h2
  · rename_i e; subst e
    split at h2
    · simp at h2; subst h2; exact hs t (h.2 _ t u h1 hu)
    · simp at h2
  · exact h.2 m t x h1 h2
theorem EasedL.eas {L K : List Ta} (h : EasedL L K) : easL L K = true := by
  refine easL_iff.2 ⟨h.1.symm, fun k t u h1 h2 => ?_⟩
  have e := h.2 k t u h1 h2
  refine easT_iff.2 ⟨⟨e.first.1, e.gap.1, e.jit.2⟩, e.pri.symm, e.dl.1, easP_iff.2 ⟨e.pl.symm, fun i p q h3 h4 => ?_⟩⟩
  have := e.pc i p q h3 h4
  exact ⟨this.1.symm, this.2.2⟩
theorem EasedL.mem {L K : List Ta} (h : EasedL L K) {u : Ta} (hu : u ∈ K) : ∃ t, t ∈ L ∧ Eased t u := by
  obtain ⟨k, hk⟩ := List.getElem?_of_mem hu
  have hlt := (List.getElem?_eq_some_iff.1 hk).1
  rw [h.1] at hlt
  exact ⟨L[k], List.getElem_mem hlt, h.2 k _ u (List.getElem?_eq_getElem hlt) hk⟩
theorem EasedL.valid {L K : List Ta} (h : EasedL L K) (hv : ValidT L) : validL K = true := by
  have hpc : ∀ {t u : Ta}, t ∈ L → Eased t u → ∀ q ∈ u.pcs, (1 ≤ q.1 ∧ q.1 ≤ 200) ∧ (-1 ≤ q.2 ∧ q.2 ≤ 5) := fun {t u} ht e q hq => by
    obtain ⟨i, hi⟩ := List.getElem?_of_mem hq
    have hlt := (List.getElem?_eq_some_iff.1 hi).1
    rw [e.pl] at hlt
    have h3 := e.pc i _ q (List.getElem?_eq_getElem hlt) hi
    have h4 := hv.r.piece t ht _ (List.getElem_mem hlt)
    omega
  unfold validL
  rw [Bool.and_eq_true, List.all_eq_true]
  constructor
  · unfold rightB
    rw [Bool.and_eq_true, decide_eq_true_eq, List.all_eq_true]
    refine ⟨by rw [h.1]; exact hv.r.len, fun u hu => ?_⟩
    obtain ⟨t, ht, e⟩ := h.mem hu
    have h1 := hv.r.pri t ht
    have h2 := hv.r.pcs t ht
    have h3 := e.pri
    have h4 := e.pl
    unfold taskB
    rw [Bool.and_eq_true, Bool.and_eq_true, inB_iff, inB_iff, List.all_eq_true]
    refine ⟨⟨by omega, by omega⟩, fun q hq => ?_⟩
    have := hpc ht e q hq
    unfold pieceB
    simp only [Bool.and_eq_true, Bool.or_eq_true, inB_iff, beq_iff_eq, decide_eq_true_eq]
    omega
  · intro u hu
    obtain ⟨t, ht, e⟩ := h.mem hu
    have h1 := hv.gap t ht; have h2 := hv.dl t ht; have h3 := hv.first t ht; have h4 := hv.jit t ht
    refine patB_iff.2 ⟨vpat_iff.2 ?_, ?_⟩
    · have := e.first; have := e.gap; have := e.jit; omega
    · have := e.dl; omega
/-- masks -/
theorem mask_bd (x : Int) (m : Nat) (hm : m ≤ 4095) : 0 ≤ bits .and .i64 x (m : Int) ∧ bits .and .i64 x (m : Int) ≤ m := by
  have h2 : (BitVec.ofInt 64 (m : Int)).toNat = m := by
    rw [BitVec.ofInt_natCast, BitVec.toNat_ofNat]; exact Nat.mod_eq_of_lt (by omega)
  have h3 : (BitVec.ofInt 64 x &&& BitVec.ofInt 64 (m : Int)).toNat ≤ m := by
    rw [BitVec.toNat_and, h2]; exact Nat.and_le_right
  have h4 : bits .and .i64 x (m : Int) = ((BitVec.ofInt 64 x &&& BitVec.ofInt 64 (m : Int)).toNat : Int) := by
    show IntKind.i64.wrap ((BitVec.ofInt 64 x &&& BitVec.ofInt 64 (m : Int)).toNat : Int) = _
    exact IntWalk.i64_in _ (by omega)
  omega
theorem mask4095 (x : Int) : ∃ y, bits .and .i64 x 4095 = y ∧ 0 ≤ y ∧ y ≤ 4095 := ⟨_, rfl, mask_bd x 4095 (by omega)⟩
theorem mask255 (x : Int) : ∃ y, bits .and .i64 x 255 = y ∧ 0 ≤ y ∧ y ≤ 255 := ⟨_, rfl, mask_bd x 255 (by omega)⟩
/-- by how much a task is made easier -/
structure E5 where
  x0 : Int
  x1 : Int
  x2 : Int
  x3 : Int
  x4 : Int
deriving Inhabited
def enc5 (u : E5) : List Value := [.int .i64 u.x0, .int .i64 u.x1, .int .i64 u.x2, .int .i64 u.x3, .int .i64 u.x4]
section
open Go.ChangeShapes Go.WideShapes Go.ChangeAt Go.RowKit Go.Joins Go.Deep
set_option maxRecDepth 100000 in
theorem opens_ease : Opens Try.prog 91 (fun _ cs (y : E5) => cs = enc5 y) := by
  intro H enc w base spare held fuel cs x h
  obtain ⟨xs, n, _, hx, hl, hxl, hf⟩ := DataW.trod_struct Try.underlying91 h
  have hc : Try.prog.cellsOf 91 = 5 := by kernel_rfl
  have hc1 : Try.prog.cellsOf 3 = 1 := by kernel_rfl
  rw [hc] at hl
  match cs, hl, xs, hxl with
  | [u0, u1, u2, u3, u4], _, [x0, x1, x2, x3, x4], _ =>
    have g0 := hf 0 _ rfl
    have g1 := hf 1 _ rfl
    have g2 := hf 2 _ rfl
    have g3 := hf 3 _ rfl
    have g4 := hf 4 _ rfl
    simp [hc1] at g0 g1 g2 g3 g4
    obtain ⟨p, e0, _⟩ := DataW.trod_int Try.underlying3 g0
    obtain ⟨l, e1, _⟩ := DataW.trod_int Try.underlying3 g1
    obtain ⟨m, e2, _⟩ := DataW.trod_int Try.underlying3 g2
    obtain ⟨o, e3, _⟩ := DataW.trod_int Try.underlying3 g3
    obtain ⟨q, e4, _⟩ := DataW.trod_int Try.underlying3 g4
    simp at e0 e1 e2 e3 e4
    subst e0; subst e1; subst e2; subst e3; subst e4
    exact ⟨⟨p, l, m, o, q⟩, rfl⟩
set_option maxRecDepth 100000 in
theorem open_Es {H : Type} {enc : TypeId × Value → H} {w : World} {base b0 : Nat} {spare : Nat → Bool} {held : Bool} {r : Reach} {v : Value} {d : DataW H} {ps : List MemPlace}
    (hv : Value.okWide Try.prog w r b0 56 v) (h : DataW.Trod enc Try.prog w base spare held 56 v d ps) : ∃ a n c, v = .slice a n c ∧ ∃ xs : List E5, Rd w a n 5 (xs.map enc5) := by
  obtain ⟨a0, n0, c0, rfl⟩ := okWide_slice Try.underlying56 hv
  obtain ⟨fuel, hf⟩ := h
  obtain ⟨ys, a, n, c, e, h1, h2⟩ := opens_slice (en := enc5) (k := 5) Try.underlying56 (by kernel_rfl) (by decide) opens_ease hf
  simp [Value.cells] at e
  obtain ⟨rfl, rfl, rfl⟩ := e
  exact ⟨_, _, _, rfl, ys, h1⟩
end
theorem Rd.ease {w : World} {a : Option Addr} {n : Nat} {xs : List E5} (h : Rd w a n 5 (xs.map enc5)) (k : Nat) (hk : k < n) : ∃ (u : E5) (b off : Nat), a = some ⟨b, off, none⟩ ∧ b < w.heap.size ∧
    w.cell? ⟨b, off + k * 5, none⟩ = some (.int .i64 u.x0) ∧ w.cell? ⟨b, off + k * 5 + 1, none⟩ = some (.int .i64 u.x1) ∧ w.cell? ⟨b, off + k * 5 + 2, none⟩ = some (.int .i64 u.x2) ∧ w.cell? ⟨b, off + k * 5 + 3, none⟩ = some (.int .i64 u.x3) ∧ w.cell? ⟨b, off + k * 5 + 4, none⟩ = some (.int .i64 u.x4) := by
  have hl : k < xs.length := by rw [h.length]; exact hk
  obtain ⟨b, off, rfl, hlt, hc⟩ := h.at_ (by omega)
  have c0 := hc k (by simpa using hl) 0 (by omega)
  have c1 := hc k (by simpa using hl) 1 (by omega)
  have c2 := hc k (by simpa using hl) 2 (by omega)
  have c3 := hc k (by simpa using hl) 3 (by omega)
  have c4 := hc k (by simpa using hl) 4 (by omega)
  simp [enc5] at c0 c1 c2 c3 c4
  exact ⟨xs[k], b, off, rfl, hlt, c0, c1, c2, c3, c4⟩
end Go.Proofs.Ytabbmnnohnfbeaa
