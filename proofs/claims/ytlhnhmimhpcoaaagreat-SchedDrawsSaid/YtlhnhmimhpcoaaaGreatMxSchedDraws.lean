/- The drawing of a run, as rows of bytes. No condition: plain lemmas. The drawing in memory: rows of bytes, each in a block of its own. No condition: plain lemmas. The contract of strings.Repeat of one blank. The conditions are the ones that each contract names. slices.Grow of nil and slices.Concat at bytes. The conditions are the ones that each contract names. Rows of bytes that are appended one after the other. No condition: plain lemmas. The contract of Gantt of the program. The conditions: the run reads as named. The contract of Gantt of the reference. The conditions: the run reads as named. The walk of SchedDraws: it returns true. The conditions: the run reads as named. -/
import Derived.Test.YtlhnhmimhpcoaaaGreatMg13
import Derived.Shelf.Strings.Repeat
import Derived.Laws.IdiomStrings
import Derived.Laws.BytesArg
import Derived.Shelf.Spec.SlicesGrow
import Derived.ArgAppend
import Derived.BigRegion
import Derived.Deep.Cut
import Derived.Test.YtlhnhmimhpcoaaaGreatMg6
import Derived.Test.YtlhnhmimhpcoaaaGreatMg12
namespace Go.Proofs.YtlhnhmimhpcoaaaGreat
open Go.RowKit
set_option linter.unusedSimpArgs false
set_option linter.unusedVariables false
/-- a byte is laid into a row -/
def gSet (g : Nat → List Int) (i j : Nat) (x : Int) : Nat → List Int := updF g i ((g i).set j x)
def gBlank (t : Nat) : List Int := List.replicate t 32 ++ [10]
/-- dots from a tick on, while nothing has ended -/
def gDot (i : Nat) (z : Int) : Nat → Nat → (Nat → List Int) → (Nat → List Int)
  | 0, _, g => g
  | f + 1, a, g => if z < 0 ∨ (a : Int) < z then gDot i z f (a + 1) (gSet g i a 46) else g
/-- where an event's dots begin -/
def evS (R : Rn) (i k : Nat) : Nat := ((((evA R i)[k]?).getD default).1 + (((evA R i)[k]?).getD default).2).toNat
def gRow (R : Rn) (X : Nat → List Int) (t : Nat) (i : Nat) : Nat → Nat → (Nat → List Int) → (Nat → List Int)
  | 0, _, g => g
  | f + 1, k, g => gRow R X t i f (k + 1) (gDot i (xAt X i k) (t - evS R i k) (evS R i k) g)
def gAll (R : Rn) (X : Nat → List Int) (t : Nat) : Nat → Nat → (Nat → List Int) → (Nat → List Int)
  | 0, _, g => g
  | f + 1, i, g => gAll R X t f (i + 1) (gRow R X t i (evA R i).length 0 g)
def gEnt (n : Nat) (g : Nat → List Int) (e : En) : Nat → List Int := if e.w = 4 then gSet g e.k.toNat e.m.toNat 35 else if e.w = 3 then gSet g n e.m.toNat 71 else g
def gGr (R : Rn) (t : Nat) : Nat → List Int := (plM R t).o.foldl (gEnt R.L.length) (gAll R (endsRow R (plM R t).o) t R.L.length 0 (fun _ => gBlank t))
def gTxt (m : Nat) (g : Nat → List Int) : List Int := (List.range m).flatMap g
def ganttR (R : Rn) (t : Int) : List Int × Int := if (runB R && inB t 0 2000) = true then (gTxt (R.L.length + 1) (gGr R t.toNat), 0) else ([], 1)
theorem gBlank_len (t : Nat) : (gBlank t).length = t + 1 := by simp [gBlank]
theorem gTxt_succ (m : Nat) (g : Nat → List Int) : gTxt (m + 1) g = gTxt m g ++ g m := by unfold gTxt; rw [List.range_succ, List.flatMap_append]; simp
theorem gTxt_len {L : Nat} {g : Nat → List Int} : ∀ m : Nat, (∀ i, i < m → (g i).length = L) → (gTxt m g).length = m * L
  | 0, _ => by simp [gTxt]
  | m + 1, h => by rw [gTxt_succ, List.length_append, gTxt_len m (fun i hi => h i (by omega)), h m (by omega), Nat.add_mul, Nat.one_mul]
theorem gSet_len (g : Nat → List Int) (i j : Nat) (x : Int) (k : Nat) : (gSet g i j x k).length = (g k).length := by
  unfold gSet updF
  split
  · rename_i e; subst e; simp
  · rfl
end Go.Proofs.YtlhnhmimhpcoaaaGreat
namespace Go.Proofs.YtlhnhmimhpcoaaaGreat
open Go.RowKit
set_option linter.unusedSimpArgs false
set_option linter.unusedVariables false
def encB (x : Int) : List Value := [.int .u8 x]
theorem encB_len (x : Int) : (encB x).length = 1 := rfl
theorem encB_one (x : Int) : ∀ u ∈ encB x, u.oneCell' = true := by intro u hu; simp [encB] at hu; rcases hu with rfl; rfl
/-- of m rows the first k are laid out, each of L bytes -/
structure GrB (B E m k L : Nat) (w : World) (q c : Nat → Nat) (g : Nat → List Int) : Prop where
  km : k ≤ m
  ez : B ≤ E ∧ E < w.heap.size
  be : ∀ i, i < k → w.cell? ⟨E, i, none⟩ = some (.slice (some ⟨q i, 0, none⟩) L (c i))
  bn : ∀ i, k ≤ i → i < m → w.cell? ⟨E, i, none⟩ = some (.slice none 0 0)
  fe : ∀ j, w.frozen? ⟨E, j, none⟩ = false
  len : ∀ i, i < k → (g i).length = L
  qb : ∀ i, i < k → B ≤ q i ∧ q i < w.heap.size ∧ q i ≠ E
  ce : ∀ i, i < k → ∀ j x, (g i)[j]? = some x → w.cell? ⟨q i, j, none⟩ = some (.int .u8 x)
  fz : ∀ i, i < k → ∀ j, j < L → w.frozen? ⟨q i, j, none⟩ = false
  ap : ∀ i j, i < k → j < k → i ≠ j → q i ≠ q j
theorem addr_neG {a b i j : Nat} (h : a ≠ b ∨ i ≠ j) : (⟨a, i, none⟩ : Addr) ≠ ⟨b, j, none⟩ := by
  intro e
  simp at e
  omega
section
variable {B E m k L : Nat} {w w' : World} {q c : Nat → Nat} {g : Nat → List Int}
theorem GrB.ext (h : GrB B E m k L w q c g) (hb : Below w.heap.size w w') : GrB B E m k L w' q c g :=
  ⟨h.km, ⟨h.ez.1, Nat.lt_of_lt_of_le h.ez.2 hb.size⟩, fun i hi => (hb.cell (p := ⟨E, i, none⟩) h.ez.2).trans (h.be i hi), fun i h1 h2 => (hb.cell (p := ⟨E, i, none⟩) h.ez.2).trans (h.bn i h1 h2),
   fun j => (hb.frozen (p := ⟨E, j, none⟩) h.ez.2).trans (h.fe j), h.len, fun i hi => ⟨(h.qb i hi).1, Nat.lt_of_lt_of_le (h.qb i hi).2.1 hb.size, (h.qb i hi).2.2⟩,
   fun i hi j x hx => (hb.cell (p := ⟨q i, j, none⟩) (h.qb i hi).2.1).trans (h.ce i hi j x hx), fun i hi j hj => (hb.frozen (p := ⟨q i, j, none⟩) (h.qb i hi).2.1).trans (h.fz i hi j hj), h.ap⟩
/-- a byte is written -/
theorem GrB.set (h : GrB B E m k L w q c g) {i j : Nat} (hi : i < k) (x : Int) : GrB B E m k L (w.setCell ⟨q i, j, none⟩ (.int .u8 x)) q c (gSet g i j x) := by
  have hqE := (h.qb i hi).2.2
  have hoE : ∀ n, (w.setCell ⟨q i, j, none⟩ (.int .u8 x)).cell? ⟨E, n, none⟩ = w.cell? ⟨E, n, none⟩ := fun n => World.cell?_setCell_other _ _ _ _ (addr_neG (.inl hqE))
  refine ⟨h.km, ⟨h.ez.1, by simpa using h.ez.2⟩, fun n hn => (hoE n).trans (h.be n hn), fun n h1 h2 => (hoE n).trans (h.bn n h1 h2), fun n => by rw [World.frozen?_setCell]; exact h.fe n,
    fun n hn => by rw [gSet_len]; exact h.len n hn, fun n hn => by simpa using h.qb n hn, fun n hn t y hy => ?_, fun n hn t ht => by rw [World.frozen?_setCell]; exact h.fz n hn t ht, h.ap⟩
  by_cases e : n = i
  · subst e
    unfold gSet at hy
    rw [updF_same, List.getElem?_set] at hy
    by_cases e2 : j = t
    · subst e2
      rw [if_pos rfl] at hy
      split at hy
      · rename_i hl
        obtain rfl : x = y := by simpa using hy
        exact World.cell?_setCell_same _ _ _ (h.ce n hn j _ (List.getElem?_eq_getElem hl))
      · simp at hy
    · rw [if_neg e2] at hy
      exact (World.cell?_setCell_other _ _ _ _ (addr_neG (.inr e2))).trans (h.ce n hn t y hy)
  · unfold gSet at hy
    rw [updF_other _ _ e] at hy
    exact (World.cell?_setCell_other _ _ _ _ (addr_neG (.inl (fun z => h.ap n i hn hi e z.symm)))).trans (h.ce n hn t y hy)
/-- the next row is laid -/
theorem GrB.put (h : GrB B E m k L w q c g) (hb : Below w.heap.size w w') (hk : k < m) {Q C : Nat} {l : List Int} (hQ : w.heap.size ≤ Q) (hQ2 : Q < w'.heap.size) (hl : l.length = L)
    (hc : ∀ j x, l[j]? = some x → w'.cell? ⟨Q, j, none⟩ = some (.int .u8 x)) (hf : ∀ j, j < L → w'.frozen? ⟨Q, j, none⟩ = false) :
    GrB B E m (k + 1) L (w'.setCell ⟨E, k, none⟩ (.slice (some ⟨Q, 0, none⟩) L C)) (updF q k Q) (updF c k C) (updF g k l) := by
  have h' := h.ext hb
  have hQE : Q ≠ E := by have := h.ez.2; omega
  have ho : ∀ b n, b ≠ E → (w'.setCell ⟨E, k, none⟩ (.slice (some ⟨Q, 0, none⟩) L C)).cell? ⟨b, n, none⟩ = w'.cell? ⟨b, n, none⟩ := fun b n hb => World.cell?_setCell_other _ _ _ _ (addr_neG (.inl (fun z => hb z.symm)))
  have hB := h.ez.1
  have hE2 := h.ez.2
  refine ⟨hk, ⟨h'.ez.1, by simpa using h'.ez.2⟩, fun n hn => ?_, fun n h1 h2 => ?_, fun n => by rw [World.frozen?_setCell]; exact h'.fe n, fun n hn => ?_, fun n hn => ?_, fun n hn t y hy => ?_, fun n hn t ht => ?_, fun a b ha hb' hab => ?_⟩
  · by_cases e : n = k
    · subst e; rw [updF_same, updF_same]; exact World.cell?_setCell_same _ _ _ (h'.bn n (Nat.le_refl _) hk)
    · rw [updF_other _ _ e, updF_other _ _ e]
      exact (World.cell?_setCell_other _ _ _ _ (addr_neG (.inr (fun z => e z.symm)))).trans (h'.be n (by omega))
  · exact (World.cell?_setCell_other _ _ _ _ (addr_neG (.inr (by omega)))).trans (h'.bn n (by omega) h2)
  · by_cases e : n = k
    · subst e; rw [updF_same]; exact hl
    · rw [updF_other _ _ e]; exact h.len n (by omega)
  · by_cases e : n = k
    · subst e; rw [updF_same]; exact ⟨by omega, by simpa using hQ2, hQE⟩
    · rw [updF_other _ _ e]; simpa using h'.qb n (by omega)
  · by_cases e : n = k
    · subst e; rw [updF_same] at hy ⊢; rw [ho _ _ hQE]; exact hc t y hy
    · rw [updF_other _ _ e] at hy ⊢
      rw [ho _ _ (h.qb n (by omega)).2.2]; exact h'.ce n (by omega) t y hy
  · by_cases e : n = k
    · subst e; rw [updF_same, World.frozen?_setCell]; exact hf t ht
    · rw [updF_other _ _ e, World.frozen?_setCell]; exact h'.fz n (by omega) t ht
  · by_cases e : a = k
    · subst e
      rw [updF_same, updF_other _ _ (fun z => hab z.symm)]
      have := (h.qb b (by omega)).2.1
      omega
    · by_cases e2 : b = k
      · subst e2
        rw [updF_same, updF_other _ _ e]
        have := (h.qb a (by omega)).2.1
        omega
      · rw [updF_other _ _ e, updF_other _ _ e2]; exact h.ap a b (by omega) (by omega) hab
/-- a row reads as bytes -/
theorem GrB.rd (h : GrB B E m k L w q c g) {i : Nat} (hi : i < k) (hL : L ≤ 1000000) : Rd w (some ⟨q i, 0, none⟩) L 1 ((g i).map encB) :=
  ⟨by simpa using h.len i hi, by omega, fun _ => ⟨q i, 0, rfl, (h.qb i hi).2.1, fun n hn j hj => by
    obtain rfl : j = 0 := by omega
    have hn2 : n < (g i).length := by simpa using hn
    have := h.ce i hi n _ (List.getElem?_eq_getElem hn2)
    simpa [encB] using this⟩⟩
theorem GrB.congr {g' : Nat → List Int} (h : GrB B E m k L w q c g) (he : ∀ i, i < k → g i = g' i) : GrB B E m k L w q c g' :=
  ⟨h.km, h.ez, h.be, h.bn, h.fe, fun i hi => by rw [← he i hi]; exact h.len i hi, h.qb, fun i hi j x hx => h.ce i hi j x (by rw [he i hi]; exact hx), h.fz, h.ap⟩
end
end Go.Proofs.YtlhnhmimhpcoaaaGreat
namespace Go.Proofs.YtlhnhmimhpcoaaaGreat
open Go.RowKit Go.Shelf
set_option linter.unusedSimpArgs false
set_option linter.unusedVariables false
def repRen : Go.Shelf.Ren := ⟨fun | 99 => 47 | 105 => 20 | 165 => 48 | 166 => 49 | 169 => 51 | 170 => 50 | 206 => 86 | 212 => 46 | 240 => 87 | 241 => 88 | 263 => 84 | 264 => 85 | 276 => 118 | 277 => 119 | n => n, fun | 0 => 0 | 3 => 3 | 4 => 4 | 5 => 5 | 9 => 9 | 20 => 20 | 37 => 63 | 46 => 94 | 51 => 136 | 53 => 139 | 70 => 98 | 72 => 100 | 75 => 102 | 80 => 105 | 76 => 103 | 109 => 95 | 127 => 142 | 146 => 137 | 148 => 140 | 164 => 157 | n => n, fun n => n⟩
theorem repLay : Go.Proofs.Lays.n105 Tryz.prog repRen := {
  mixed := by kernel_rfl
  f99 := Tryz.func47.trans (congrArg some (by kernel_rfl))
  f105 := Tryz.func20.trans (congrArg some (by kernel_rfl))
  f165 := Tryz.func48.trans (congrArg some (by kernel_rfl))
  f166 := Tryz.func49.trans (congrArg some (by kernel_rfl))
  f169 := Tryz.func51.trans (congrArg some (by kernel_rfl))
  f170 := Tryz.func50.trans (congrArg some (by kernel_rfl))
  f206 := Tryz.func86.trans (congrArg some (by kernel_rfl))
  f212 := Tryz.func46.trans (congrArg some (by kernel_rfl))
  f240 := Tryz.func87.trans (congrArg some (by kernel_rfl))
  f241 := Tryz.func88.trans (congrArg some (by kernel_rfl))
  f263 := Tryz.func84.trans (congrArg some (by kernel_rfl))
  f264 := Tryz.func85.trans (congrArg some (by kernel_rfl))
  f276 := Tryz.func118.trans (congrArg some (by kernel_rfl))
  f277 := Tryz.func119.trans (congrArg some (by kernel_rfl))
  t0 := Tryz.underlying0
  a0 := Tryz.isAgg0
  z0 := Tryz.sizeOf0
  v0 := Tryz.zeroValue0
  t3 := Tryz.underlying3
  a3 := Tryz.isAgg3
  z3 := Tryz.sizeOf3
  v3 := Tryz.zeroValue3
  t4 := Tryz.underlying4
  a4 := Tryz.isAgg4
  z4 := Tryz.sizeOf4
  v4 := Tryz.zeroValue4
  t5 := Tryz.underlying5
  a5 := Tryz.isAgg5
  z5 := Tryz.sizeOf5
  v5 := Tryz.zeroValue5
  t9 := Tryz.underlying9
  a9 := Tryz.isAgg9
  z9 := Tryz.sizeOf9
  v9 := Tryz.zeroValue9
  t20 := Tryz.underlying20
  a20 := Tryz.isAgg20
  z20 := Tryz.sizeOf20
  v20 := Tryz.zeroValue20
  t37 := Tryz.underlying63
  a37 := Tryz.isAgg63
  z37 := Tryz.sizeOf63
  v37 := Tryz.zeroValue63
  t46 := Tryz.underlying94
  a46 := Tryz.isAgg94
  z46 := Tryz.sizeOf94
  v46 := Tryz.zeroValue94
  t51 := Tryz.underlying136
  a51 := Tryz.isAgg136
  z51 := Tryz.sizeOf136
  v51 := Tryz.zeroValue136
  t53 := Tryz.underlying139
  a53 := Tryz.isAgg139
  z53 := Tryz.sizeOf139
  v53 := Tryz.zeroValue139
  t70 := Tryz.underlying98
  a70 := Tryz.isAgg98
  z70 := Tryz.sizeOf98
  v70 := Tryz.zeroValue98
  t72 := Tryz.underlying100
  a72 := Tryz.isAgg100
  z72 := Tryz.sizeOf100
  v72 := Tryz.zeroValue100
  t75 := Tryz.underlying102
  a75 := Tryz.isAgg102
  z75 := Tryz.sizeOf102
  v75 := Tryz.zeroValue102
  t76 := Tryz.underlying103
  a76 := Tryz.isAgg103
  z76 := Tryz.sizeOf103
  v76 := Tryz.zeroValue103
  t109 := Tryz.underlying95
  a109 := Tryz.isAgg95
  z109 := Tryz.sizeOf95
  v109 := Tryz.zeroValue95
  t127 := Tryz.underlying142
  a127 := Tryz.isAgg142
  z127 := Tryz.sizeOf142
  v127 := Tryz.zeroValue142
  t146 := Tryz.underlying137
  a146 := Tryz.isAgg137
  z146 := Tryz.sizeOf137
  v146 := Tryz.zeroValue137
  t148 := Tryz.underlying140
  a148 := Tryz.isAgg140
  z148 := Tryz.sizeOf140
  v148 := Tryz.zeroValue140
  t164 := Tryz.underlying157
  a164 := Tryz.isAgg157
  z164 := Tryz.sizeOf157
  v164 := Tryz.zeroValue157 }
theorem repX : Go.Proofs.Builder.Extra Tryz.prog repRen := { sizeBuilder := by kernel_rfl, liesBuilder := by kernel_rfl, t5 := Tryz.underlying5, a5 := Tryz.isAgg5, z5 := Tryz.sizeOf5, v5 := Tryz.zeroValue5, infoByte := by kernel_rfl, cellsByte := by kernel_rfl, sizeByte := by kernel_rfl, neB5 := by decide }
theorem repL_one (c : Nat) : Lib.repeatL [(32 : UInt8)] c = List.replicate c 32 := by
  induction c with
  | zero => rfl
  | succ c ih => rw [Lib.repeatL, ih]; rfl
theorem repeat_blank (t : Nat) (ht : t ≤ 2000) (w : World) : Calls Tryz.prog 20 #[.string ⟨#[32]⟩, .int .i64 (t : Int)] w fun e w' => e = .returned (.string ⟨(List.replicate t (32 : UInt8)).toArray⟩) ∧ Below w.heap.size w w' := by
  have := Any.strings_Repeat repLay repX ⟨#[32]⟩ t w (by omega) (by show 1 * t ≤ _; omega)
  refine this.mono fun e w' h => ⟨?_, h.2⟩
  rw [h.1]
  show Ending.returned (.string ⟨(Lib.repeatL [(32 : UInt8)] t).toArray⟩) = _
  rw [repL_one]
def blankS (t : Nat) : ByteArray := strOfNums (gBlank t)
theorem blank_add (t : Nat) : (⟨(List.replicate t (32 : UInt8)).toArray⟩ : ByteArray) ++ ⟨#[10]⟩ = blankS t := by
  apply ByteArray.ext
  show ((⟨(List.replicate t (32 : UInt8)).toArray⟩ : ByteArray) ++ ⟨#[10]⟩).data = _
  rw [ByteArray.data_append]
  apply Array.ext'
  simp [blankS, strOfNums, gBlank]
theorem nums_append (xs ys : List Int) : strOfNums xs ++ strOfNums ys = strOfNums (xs ++ ys) := by
  apply ByteArray.ext
  rw [ByteArray.data_append]
  simp [strOfNums]
end Go.Proofs.YtlhnhmimhpcoaaaGreat
namespace Go.Proofs.YtlhnhmimhpcoaaaGreat.Gt
open Go.RowKit Go.Proofs.YtlhnhmimhpcoaaaGreat
set_option linter.unusedSimpArgs false
set_option linter.unusedVariables false
theorem EBy : Elt Tryz.prog 63 5 1 1 := Elt.mk' (z := .int .u8 0) Tryz.underlying63 (by kernel_rfl) rfl (by decide)
def grRen : Go.Shelf.Ren := ⟨fun | 4 => 52 | n => n, fun | 0 => 0 | 3 => 3 | 4 => 4 | 9 => 9 | 20 => 20 | 22 => 63 | 25 => 5 | n => n, fun n => n⟩
theorem grLay : Go.Proofs.Lays8.n4 Tryz.prog grRen := {
  mixed := by kernel_rfl
  f4 := ⟨Tryz.f52.name, by decide, Tryz.func52.trans (congrArg some (by kernel_rfl))⟩
  t0 := Tryz.underlying0
  a0 := Tryz.isAgg0
  z0 := Tryz.sizeOf0
  v0 := Tryz.zeroValue0
  t3 := Tryz.underlying3
  a3 := Tryz.isAgg3
  z3 := Tryz.sizeOf3
  v3 := Tryz.zeroValue3
  t4 := Tryz.underlying4
  a4 := Tryz.isAgg4
  z4 := Tryz.sizeOf4
  v4 := Tryz.zeroValue4
  t9 := Tryz.underlying9
  a9 := Tryz.isAgg9
  z9 := Tryz.sizeOf9
  v9 := Tryz.zeroValue9
  t20 := Tryz.underlying20
  a20 := Tryz.isAgg20
  z20 := Tryz.sizeOf20
  v20 := Tryz.zeroValue20
  t22 := Tryz.underlying63
  a22 := Tryz.isAgg63
  z22 := Tryz.sizeOf63
  v22 := Tryz.zeroValue63 }
theorem grow_any (n : Nat) (w : World) (h0 : 0 < n) (hn : n ≤ 100000) : Calls Tryz.prog 52 #[.slice none 0 0, .int .i64 n] w fun e w' =>
    ∃ a c, e = .returned (.slice a 0 c) ∧ w'.ownsRow w.heap.size 5 1 (.slice a 0 c) 0 [] ∧ Below w.heap.size w w' := by
  obtain ⟨i0, hi0, hz0, hzs, hzb⟩ := info_parts (show (Tryz.prog.info? 5).map (fun i => (i.zero, i.size, i.bytes)) = some (some (.int .u8 0), 1, 1) by kernel_rfl)
  have := Any8.slices_Grow_grow grLay i0 _ hi0 hz0 (by omega) none 0 0 n [] w (by omega) (by omega) (by rw [hzb]; omega) (by omega) (by simp) (fun _ => rfl) (fun a h => by simp at h)
  refine this.mono ?_
  rintro e w' ⟨rfl, rfl⟩
  have hcm : grownCap w (0 + n) 0 5 ≤ maxLen := grownCap_le_maxLen w (0 + n) 0 5 (by unfold maxLen; omega)
  have hge := grownCap_ge w (0 + n) 0 5
  have hb : Below w.heap.size w w.drew := (Below.refl _ _).drew
  refine ⟨_, _, rfl, ⟨rfl, .inr ⟨w.heap.size, _, _, rfl, Nat.le_refl _, heap_alloc_new w.drew _, Nat.zero_le _, hcm, ?_, by simp⟩⟩, hb.alloc (Nat.le_refl _) _⟩
  simp only [Array.size_append, List.size_toArray, size_zeroCells]
  show 0 + (0 + n - 0) * 1 + (grownCap w (0 + n) 0 5 - (0 + n)) * 1 = grownCap w (0 + n) 0 5 * 1
  omega
theorem grow_all (n : Nat) (w : World) (hn : n ≤ 100000) : Calls Tryz.prog 52 #[.slice none 0 0, .int .i64 n] w fun e w' =>
    ∃ a c, e = .returned (.slice a 0 c) ∧ w'.ownsRow w.heap.size 5 1 (.slice a 0 c) 0 [] ∧ Below w.heap.size w w' := by
  rcases Nat.eq_zero_or_pos n with rfl | h
  · refine (Any8.slices_Grow_room grLay none 0 0 0 w (by omega) (by omega) (by omega) (by omega)).mono ?_
    rintro e w' ⟨rfl, rfl⟩
    exact ⟨_, _, rfl, World.ownsRow_nil _ _ _ _, by (repeat' (first | (with_reducible exact Below.refl _ _) | (with_reducible assumption) | (with_reducible refine Below.alloc ?_ ?_ _) | (with_reducible refine Below.drew ?_) | (with_reducible refine Below.draws ?_ _) | (with_reducible refine Below.setCell ?_ ?_ _) | (refine Below.then ?_ (by with_reducible assumption)) | go_size))⟩
  · exact grow_any n w h hn
/-- a slice of ints as it is handed over -/
structure ISl where
  a : Option Addr
  n : Nat
  c : Nat
  xs : List Int
deriving Inhabited
abbrev valS (s : ISl) : Value := .slice s.a s.n s.c
def ISl.ok (w : World) (s : ISl) : Prop := Rd w s.a s.n 1 (s.xs.map encB) ∧ (s.n = 0 → (s.a = none ∧ s.c = 0) ∨ ∃ ad, s.a = some ad)
theorem ISl.ok.ext {w w' : World} {s : ISl} (h : s.ok w) (hb : Below w.heap.size w w') : s.ok w' := ⟨h.1.ext hb, h.2⟩
def sizeS : List ISl → Nat
  | [] => 0
  | s :: g => s.n + sizeS g
def catS : List ISl → List Int
  | [] => []
  | s :: g => s.xs ++ catS g
theorem catS_len {w : World} : ∀ {g : List ISl}, (∀ s ∈ g, s.ok w) → (catS g).length = sizeS g
  | [], _ => rfl
  | s :: g, h => by
    have h1 := (h s (by simp)).1.length
    have h2 := catS_len (g := g) (fun t ht => h t (by simp [ht]))
    rw [catS, sizeS, List.length_append, h1, h2]
set_option maxRecDepth 100000 in
set_option maxHeartbeats 4000000 in
theorem concat_any (a : Option Addr) (n c : Nat) (g : List ISl) (w : World) (hR : Rd w a n 1 (g.map fun s => [valS s])) (hok : ∀ s ∈ g, s.ok w) (hs : sizeS g ≤ 50000) :
    Calls Tryz.prog 21 #[.slice a n c] w fun e w' => ∃ a' c', e = .returned (.slice a' (sizeS g) c') ∧ w'.ownsRow w.heap.size 5 1 (.slice a' (sizeS g) c') (sizeS g) ((catS g).flatMap encB) ∧ Below w.heap.size w w' := by
  have hsm := hR.small
  have HR := Lib.hid hR; have HOK := Lib.hid hok
  have HL : Hid (g.length = n) := Lib.hid (by have := hR.len; simpa using this)
  obtain ⟨R, hRR⟩ : ∃ R, sizeS g = R := ⟨_, rfl⟩
  have HA : Hid (0 + sizeS (g.drop 0) = R) := Lib.hid (by simpa using hRR)
  have HB0 : Hid ([] ++ catS (g.drop 0) = catS g) := Lib.hid rfl
  have HZ : Hid (0 + sizeS (g.drop 0) = R) := HA
  have hE := EBy
  rw [hRR] at hs ⊢
  clear hR hok hRR
  go_enter Tryz.func21, Tryz.ntmps21
  go_wp2
  go_loopw [3, 11] (fun v i wr => ∃ k s : Nat, k ≤ n ∧ v = .int .i64 s ∧ i = .int .i64 k ∧ s + sizeS (g.drop k) = R ∧ w = wr) (fun _ i _ => n - (intOf i).toNat)
  case atStart => exact ⟨0, 0, Nat.zero_le _, rfl, rfl, HA.out, rfl⟩
  case round =>
    obtain ⟨k, s, hk, rfl, rfl, he, rfl⟩ := hrel
    have HE := Lib.hid he; clear he
    by_cases hlt : k < n
    · obtain ⟨x, b, off, rfl, hb, hc, HD⟩ := HR.out.nextV k hlt
      have hE2 := HE.out
      rw [HD.out, sizeS] at hE2
      have HE3 : Hid ((s + x.n) + sizeS (g.drop (k + 1)) = R) := Lib.hid (by omega)
      have hsx : s + x.n ≤ 50000 := by omega
      obtain ⟨xa, xn, xc, xs⟩ := x
      simp only [] at hc hsx
      simp only [valS] at hc
      clear hE2
      go_wp2_with fail
      go_roundw
      case rel => exact ⟨k + 1, s + xn, by omega, by go_num, by go_num, HE3.out, by first | rfl | trivial⟩
      case measure => simp [intOf]; omega
    · have hE2 := HE.out
      rw [List.drop_of_length_le (by rw [HL.out]; omega), sizeS, Nat.add_zero] at hE2
      subst hE2
      go_wp2_with (go_at_call 52; (with_reducible refine (grow_all s _ (by omega)).mono ?_); rintro e w2 ⟨a2, c2, rfl, hown2, hb2⟩; have HO2 := Lib.hid hown2; have B2 := Lib.hid hb2; clear hown2 hb2)
      go_loopw [6, 27] (fun v i wr => ∃ (k m : Nat) (a' : Option Addr) (c' : Nat) (ys : List Int), k ≤ n ∧ v = .slice a' m c' ∧ i = .int .i64 k ∧ m + sizeS (g.drop k) = s ∧ ys ++ catS (g.drop k) = catS g ∧ wr.ownsRow w.heap.size 5 1 (.slice a' m c') m (ys.flatMap encB) ∧ Below w.heap.size w wr) (fun _ i _ => n - (intOf i).toNat)
      case atStart => exact ⟨0, 0, a2, c2, [], Nat.zero_le _, rfl, rfl, HZ.out, HB0.out, HO2.out, B2.out⟩
      case round =>
        clear HO2 B2
        obtain ⟨k2, m, a', c', ys, hk2, rfl, rfl, he, hy, hO, hB⟩ := hrel
        have HE4 := Lib.hid he; have HY := Lib.hid hy; have HO := Lib.hid hO; have HB := Lib.hid hB
        have hz := hB.size
        clear he hy hO hB
        by_cases hlt2 : k2 < n
        · obtain ⟨x, b, off, rfl, hb, hc, HD⟩ := (HR.out.ext HB.out).nextV k2 hlt2
          have hxm : x ∈ g := List.mem_of_mem_drop (by rw [HD.out]; simp)
          have hx := (HOK.out x hxm).ext HB.out
          have hE2 := HE4.out
          have hY2 := HY.out
          rw [HD.out, sizeS] at hE2
          rw [HD.out, catS, ← List.append_assoc] at hY2
          have HX1 := Lib.hid hx.1; have HX2 := Lib.hid hx.2
          have HE5 : Hid ((m + x.n) + sizeS (g.drop (k2 + 1)) = s) := Lib.hid (by omega)
          have HY5 := Lib.hid hY2
          have hmx : m + x.n ≤ 50000 := by omega
          obtain ⟨xa, xn, xc, xs⟩ := x
          simp only [] at hc hmx
          simp only [valS] at hc
          clear hE2 hY2 hx hxm
          go_wp2_with (at_builtin; refine wpList_pushAll (B := w.heap.size) rfl _ _ _ rfl hE encB_len encB_one rfl HO.out rfl HX1.out HX2.out (by omega) (by decide) (by omega) ?_; intro v3 w3 hown3 hv3 hb3; obtain ⟨a3, c3, rfl⟩ := hv3; have HO3 := Lib.hid hown3; have B3 := Lib.hid hb3; clear hown3 hb3)
          go_roundw
          case rel => exact ⟨k2 + 1, m + xn, a3, c3, ys ++ xs, by omega, rfl, by go_num, HE5.out, HY5.out, by rw [List.flatMap_append]; exact HO3.out, HB.out.trans B3.out⟩
          case measure => simp [intOf]; omega
        · have hE2 := HE4.out
          have hY2 := HY.out
          rw [List.drop_of_length_le (by rw [HL.out]; omega), sizeS, Nat.add_zero] at hE2
          rw [List.drop_of_length_le (by rw [HL.out]; omega), catS, List.append_nil] at hY2
          subst hE2
          subst hY2
          go_wp2_with fail
          go_ret
          exact ⟨_, _, rfl, HO.out, HB.out⟩
end Go.Proofs.YtlhnhmimhpcoaaaGreat.Gt
namespace Go.Proofs.YtlhnhmimhpcoaaaGreat
open Go.RowKit
set_option linter.unusedSimpArgs false
set_option linter.unusedVariables false
theorem ERB : Elt Tryz.prog 62 63 1 24 := Elt.mk' (z := .slice none 0 0) Tryz.underlying62 (by kernel_rfl) rfl (by decide)
def hdB (L : Nat) (q c : Nat → Nat) (i : Nat) : List Value := (List.range i).map fun j => .slice (some ⟨q j, 0, none⟩) L (c j)
theorem hdB_succ (L : Nat) (q c : Nat → Nat) (i Q C : Nat) : hdB L (updF q i Q) (updF c i C) (i + 1) = hdB L q c i ++ [.slice (some ⟨Q, 0, none⟩) L C] := by
  unfold hdB
  rw [List.range_succ, List.map_append]
  congr 1
  · refine List.map_congr_left (fun j hj => ?_)
    have : j ≠ i := by have := List.mem_range.1 hj; omega
    rw [updF_other _ _ this, updF_other _ _ this]
  · simp only [List.map_cons, List.map_nil, updF_same]
structure GrU (B i t : Nat) (w : World) (ra : Option Addr) (rc : Nat) (q c : Nat → Nat) : Prop where
  own : w.ownsRow B 63 1 (.slice ra i rc) i (hdB (t + 1) q c i)
  row : ∀ j, j < i → w.ownsRow B 5 1 (.slice (some ⟨q j, 0, none⟩) (t + 1) (c j)) (t + 1) ((gBlank t).flatMap encB)
  ap : ∀ a b, a < i → b < i → a ≠ b → q a ≠ q b
section
variable {B i t rc : Nat} {w w' : World} {ra : Option Addr} {q c : Nat → Nat}
theorem GrU.nil (B t : Nat) (w : World) (q c : Nat → Nat) : GrU B 0 t w none 0 q c := ⟨World.ownsRow_nil _ _ _ _, fun j hj => by omega, fun a b ha => by omega⟩
theorem GrU.ext (h : GrU B i t w ra rc q c) (hb : Below w.heap.size w w') : GrU B i t w' ra rc q c := ⟨owns_ext h.own hb, fun j hj => owns_ext (h.row j hj) hb, h.ap⟩
/-- a row is appended -/
theorem GrU.push (h : GrU B i t w ra rc q c) (hb : Below w.heap.size w w') {Q C : Nat} {ra' : Option Addr} {rc' : Nat} {w3 : World} {o : Obj} (hBw : B ≤ w.heap.size)
    (hr : w'.ownsRow w.heap.size 5 1 (.slice (some ⟨Q, 0, none⟩) (t + 1) C) (t + 1) ((gBlank t).flatMap encB))
    (hO3 : w3.ownsRow B 63 1 (.slice ra' (i + 1) rc') (i + 1) (hdB (t + 1) q c i ++ [.slice (some ⟨Q, 0, none⟩) (t + 1) C])) (hg : (w'.alloc o).grownBy w3 (Value.slice ra i rc).ownBlock) :
    GrU B (i + 1) t w3 ra' rc' (updF q i Q) (updF c i C) := by
  have hOw := (owns_ext h.own hb).alloc o
  refine ⟨by rw [hdB_succ]; exact hO3, fun j hj => ?_, fun a b ha hb' hab => ?_⟩
  · by_cases e : j = i
    · subst e
      rw [updF_same, updF_same]
      exact owns_kept ((owns_mono hr hBw).alloc o) hOw (by decide) hg
    · rw [updF_other _ _ e, updF_other _ _ e]
      exact owns_kept ((owns_ext (h.row j (by omega)) hb).alloc o) hOw (by decide) hg
  · have hQ : ∀ j, j < i → q j ≠ Q := fun j hj e => by
      have h1 := ((h.row j hj).lt (q j) rfl).2
      have h2 := (hr.lt Q rfl).1
      omega
    by_cases e : a = i
    · subst e
      rw [updF_same, updF_other _ _ (Ne.symm hab)]
      exact fun z => hQ b (by omega) z.symm
    · by_cases e2 : b = i
      · subst e2
        rw [updF_same, updF_other _ _ e]
        exact hQ a (by omega)
      · rw [updF_other _ _ e, updF_other _ _ e2]
        exact h.ap a b (by omega) (by omega) hab
theorem owns_diffB {w : World} {B B' e e' k k' n n' E c : Nat} {v : Value} {xs xs' : List Value} (h : w.ownsRow B e k (.slice (some ⟨E, 0, none⟩) n c) n xs) (h' : w.ownsRow B' e' k' v n' xs') (hne : e ≠ e') : v.ownBlock ≠ some E := by
  rcases h.2 with ⟨hv, _⟩ | ⟨g, cap, cur, hv, _, hh, _⟩
  · simp at hv
  · obtain rfl : E = g := by simp at hv; exact hv.1
    rcases h'.2 with ⟨rfl, _⟩ | ⟨g', cap', cur', rfl, _, hh', _⟩
    · simp [Value.ownBlock]
    · simp only [Value.ownBlock, ne_eq, Option.some.injEq]
      rintro rfl
      rw [hh] at hh'
      simp at hh'
      exact hne hh'.2
/-- all rows are there -/
theorem GrU.done {E : Nat} (h : GrU B i t w (some ⟨E, 0, none⟩) rc q c) (hi : 0 < i) : GrB B E i i (t + 1) w q c (fun _ => gBlank t) := by
  have hE := h.own.lt E rfl
  have hl : (hdB (t + 1) q c i).length = i := by simp [hdB]
  refine ⟨Nat.le_refl _, hE, fun j hj => ?_, fun j h1 h2 => by omega, fun j => h.own.frozenAt _, fun j hj => gBlank_len t, fun j hj => ?_, fun j hj y x hx => ?_, fun j hj y hy => (h.row j hj).frozenAt _, h.ap⟩
  · have := h.own.cellAt j (by rw [Nat.mul_one]; exact hj)
    rw [this]
    unfold hdB
    rw [List.getElem?_map, List.getElem?_range hj]; rfl
  · have := (h.row j hj).lt (q j) rfl
    refine ⟨this.1, this.2, fun e => ?_⟩
    exact owns_diffB h.own (h.row j hj) (by decide) (by rw [e]; rfl)
  · obtain ⟨hy, e⟩ := List.getElem?_eq_some_iff.1 hx
    have := (Rd.of_owns encB_len (by decide) (h.row j hj))
    obtain ⟨b, off, e1, hb, hc⟩ := this.at_ (by omega)
    simp only [Option.some.injEq, Addr.mk.injEq] at e1
    obtain ⟨rfl, rfl, _⟩ := e1
    have h1 := hc y (by simpa using hy) 0 (by omega)
    simp only [List.getElem_map, encB, Nat.mul_one, Nat.add_zero, Nat.zero_add] at h1
    rw [h1]; simp [e]
end
theorem blank_snoc (j : Nat) : (List.replicate (j + 1) (32 : Int)).flatMap encB = (List.replicate j (32 : Int)).flatMap encB ++ [.int .u8 32] := by
  rw [List.replicate_succ', List.flatMap_append]; rfl
theorem blank_end (t : Nat) : (gBlank t).flatMap encB = (List.replicate t (32 : Int)).flatMap encB ++ [.int .u8 10] := by
  unfold gBlank; rw [List.flatMap_append]; rfl
end Go.Proofs.YtlhnhmimhpcoaaaGreat
namespace Go.Proofs.YtlhnhmimhpcoaaaGreat
open Go.RowKit
set_option linter.unusedSimpArgs false
set_option linter.unusedVariables false
theorem blankS_size (t : Nat) : (blankS t).size = t + 1 := by unfold blankS; rw [strOfNums_size, gBlank_len]
theorem blank_bytes {t j : Nat} {x : Int} {c : Nat} (h : (gBlank t)[j]? = some x) : (bytesRow (blankS t) c)[j]? = some (.int .u8 x) := by
  obtain ⟨h1, h2⟩ := List.getElem?_eq_some_iff.1 h
  have hs : j < (blankS t).data.size := by have := blankS_size t; have h3 : (blankS t).data.size = t + 1 := this; rw [gBlank_len] at h1; omega
  rw [bytesRow_at _ _ _ hs]
  congr 2
  have hd : (blankS t).data[j] = UInt8.ofNat x.toNat := by
    have : (blankS t).data = ((gBlank t).map fun n => UInt8.ofNat n.toNat).toArray := rfl
    simp only [this, List.getElem_toArray, List.getElem_map, h2]
  have hx : x = 32 ∨ x = 10 := by
    have := List.mem_of_getElem? h
    unfold gBlank at this
    rcases List.mem_append.1 this with q | q
    · exact .inl (List.mem_replicate.1 q).2
    · simp at q; exact .inr q
  rw [hd]
  rcases hx with rfl | rfl <;> rfl
/-- a row of blanks, as it is laid -/
theorem conv_blank (t : Nat) (w : World) : (convert 9 63 (.string (blankS t))).run Tryz.prog w = .ok (.slice (some ⟨w.heap.size, 0, none⟩) (t + 1) (grownCap w (t + 1) 0 5))
    (w.drew.alloc (.cells (bytesRow (blankS t) (grownCap w (t + 1) 0 5)) 5 ((bytesRow (blankS t) (grownCap w (t + 1) 0 5)).size, (bytesRow (blankS t) (grownCap w (t + 1) 0 5)).size + 1))) := by
  have := run_bytes_of_string (P := Tryz.prog) w 9 63 5 (blankS t) Tryz.underlying9 Tryz.underlying63 Tryz.underlying5
  rw [blankS_size] at this; exact this
theorem GrB.blank {B E m k t : Nat} {w w' : World} {q c : Nat → Nat} (h : GrB B E m k (t + 1) w q c (fun _ => gBlank t)) (hb : Below w.heap.size w w') (hk : k < m) (C : Nat) :
    GrB B E m (k + 1) (t + 1) ((w'.alloc (.cells (bytesRow (blankS t) C) 5 ((bytesRow (blankS t) C).size, (bytesRow (blankS t) C).size + 1))).setCell ⟨E, k, none⟩ (.slice (some ⟨w'.heap.size, 0, none⟩) (t + 1) C)) (updF q k w'.heap.size) (updF c k C) (fun _ => gBlank t) := by
  have hs : t + 1 ≤ (bytesRow (blankS t) C).size := by
    have h3 : (blankS t).data.size = t + 1 := blankS_size t
    unfold bytesRow; simp [h3]
  have := h.put (w' := w'.alloc (.cells (bytesRow (blankS t) C) 5 ((bytesRow (blankS t) C).size, (bytesRow (blankS t) C).size + 1))) (hb.alloc hb.size _) hk (Q := w'.heap.size) (C := C) (l := gBlank t) hb.size (by simp) (gBlank_len t)
    (fun j x hx => by rw [World.cell?_alloc_mark]; exact blank_bytes hx) (fun j hj => by rw [World.frozen?_alloc_mark]; simp; intro; omega)
  refine this.congr fun i hi => ?_
  unfold updF; split <;> rfl
theorem catS_map (f : Nat → Gt.ISl) : ∀ l : List Nat, Gt.catS (l.map f) = l.flatMap (fun i => (f i).xs)
  | [] => rfl
  | i :: l => by rw [List.map_cons, Gt.catS, catS_map f l, List.flatMap_cons]
theorem sizeS_map (f : Nat → Gt.ISl) (L : Nat) : ∀ l : List Nat, (∀ i ∈ l, (f i).n = L) → Gt.sizeS (l.map f) = l.length * L
  | [], _ => by simp [Gt.sizeS]
  | i :: l, h => by rw [List.map_cons, Gt.sizeS, sizeS_map f L l (fun j hj => h j (List.mem_cons_of_mem _ hj)), h i List.mem_cons_self, List.length_cons, Nat.add_mul]; omega
/-- bytes that read as xs, as a text -/
theorem conv_text {w : World} {q n c : Nat} {xs : List Int} (h : Rd w (some ⟨q, 0, none⟩) n 1 (xs.map encB)) (hn : 0 < n) : (convert 63 9 (.slice (some ⟨q, 0, none⟩) n c)).run Tryz.prog w = .ok (.string (strOfNums xs)) w := by
  have hl : xs.length = n := by have := h.len; simpa using this
  obtain ⟨b, off, e, hb, hc⟩ := h.at_ hn
  simp only [Option.some.injEq, Addr.mk.injEq] at e
  obtain ⟨rfl, rfl, _⟩ := e
  refine run_convert_bytes_arg (P := Tryz.prog) w 63 5 Tryz.underlying63 Tryz.underlying5 q 0 n c xs hl (fun i hi => ?_) 9 Tryz.underlying9
  have h1 := hc i (by simp; omega) 0 (by omega)
  have hil : i < xs.length := by omega
  simp only [List.getElem_map, encB, Nat.mul_one, Nat.add_zero] at h1
  rw [h1]
  simp [List.getD, List.getElem?_eq_getElem hil]
set_option maxRecDepth 100000 in
set_option maxHeartbeats 8000000 in
theorem Gantt_any (H : RunH) (R : Rn) (t : Int) (w : World) (hR : ReadRun w H R) : Calls Tryz.prog 8 #[runV H R.fr R.sl, .int .i64 t] w fun e w' => e = .returned (.tuple #[.string (strOfNums (ganttR R t).1), .int .i64 (ganttR R t).2]) ∧ Below w.heap.size w w' := by
  obtain ⟨B, hB⟩ : ∃ B, (runB R && inB t 0 2000) = B := ⟨_, rfl⟩
  unfold ganttR
  rw [hB]
  have HI := Lib.hid (fun w1 (hb : Below w.heap.size w w1) => is_any H R t w1 (hR.ext hb) hB)
  cases B
  · obtain ⟨fr, hfr⟩ : ∃ x, R.fr = x := ⟨_, rfl⟩
    obtain ⟨sl_, hsl⟩ : ∃ x, R.sl = x := ⟨_, rfl⟩
    rw [hfr, hsl] at HI ⊢
    obtain ⟨tA, tN, tC, eA, eN, eC, bA, bN, bC, sA, sN, sC⟩ := H
    unfold runV at HI ⊢
    simp only [] at HI ⊢
    clear hR hB hfr hsl
    go_enter Tryz.func8, Tryz.ntmps8
    go_wp2_with (go_at_call 17; (with_reducible refine (HI.out _ (by (repeat' (first | (with_reducible exact Below.refl _ _) | (with_reducible assumption) | (with_reducible refine Below.alloc ?_ ?_ _) | (with_reducible refine Below.drew ?_) | (with_reducible refine Below.draws ?_ _) | (with_reducible refine Below.setCell ?_ ?_ _) | (refine Below.then ?_ (by with_reducible assumption)) | go_size)))).mono ?_); rintro e w1 ⟨rfl, hb1⟩; have B1 : Hid (Below w.heap.size w w1) := Lib.hid (Below.trans (by (repeat' (first | (with_reducible exact Below.refl _ _) | (with_reducible assumption) | (with_reducible refine Below.alloc ?_ ?_ _) | (with_reducible refine Below.drew ?_) | (with_reducible refine Below.draws ?_ _) | (with_reducible refine Below.setCell ?_ ?_ _) | (refine Below.then ?_ (by with_reducible assumption)) | go_size))) (hb1.mono (by simp))); have z1 : w.heap.size < w1.heap.size := Nat.lt_of_lt_of_le (by simp) hb1.size; have c1_0 := (hb1.cell (p := ⟨w.heap.size, 0, none⟩) (by simp)).trans (by simp [go_sem]; rfl); have c1_1 := (hb1.cell (p := ⟨w.heap.size, 1, none⟩) (by simp)).trans (by simp [go_sem]; rfl); have c1_2 := (hb1.cell (p := ⟨w.heap.size, 2, none⟩) (by simp)).trans (by simp [go_sem]; rfl); have c1_3 := (hb1.cell (p := ⟨w.heap.size, 3, none⟩) (by simp)).trans (by simp [go_sem]; rfl); have c1_4 := (hb1.cell (p := ⟨w.heap.size, 4, none⟩) (by simp)).trans (by simp [go_sem]; rfl); have c1_5 := (hb1.cell (p := ⟨w.heap.size, 5, none⟩) (by simp)).trans (by simp [go_sem]; rfl); clear hb1)
    go_ret2
    exact ⟨rfl, B1.out⟩
  · rw [Bool.and_eq_true, inB_iff] at hB
    obtain ⟨tn, rfl⟩ := Int.eq_ofNat_of_zero_le hB.2.1
    rw [if_pos rfl, Int.toNat_natCast]
    obtain ⟨hr, hvl, _⟩ := run_ok hB.1
    have hv := valid_of hvl
    have htn : tn ≤ 2000 := by omega
    have hol := plM_olen hr htn
    have hok4 : ∀ e ∈ (plM R tn).o, e.w = 4 → ∃ i p x : Nat, e.k = (i : Int) ∧ e.a = (p : Int) ∧ e.b = (x : Int) ∧ i < R.L.length ∧ p < (taAt R.L i).pcs.length ∧ x < (evA R i).length := fun e he h4 => by obtain ⟨_, _, q⟩ := plM_ei hr tn; exact q.ok4 e he h4
    have hom : ∀ e ∈ (plM R tn).o, e.w = 3 ∨ e.w = 4 → 0 ≤ e.m ∧ e.m < tn := fun e he h => by obtain ⟨_, _, q⟩ := plM_ei hr tn; have := q.okm e he; exact ⟨this.1, this.2.2 h⟩
    have HP := Lib.hid (fun w1 (hb : Below w.heap.size w w1) => play_any H R tn w1 (hR.ext hb).rd hr (by omega))
    have HEN := Lib.hid (fun (w1 : World) (a : Option Addr) (n c : Nat) (hb : Below w.heap.size w w1) (hx : Rd w1 a n 5 ((plM R tn).o.map encE)) => ends_any H R (plM R tn).o a n c w1 (hR.ext hb).rd hr hx (by have h1 := hx.length; omega) (plM_ok5 hr tn))
    have HR := Lib.hid hR.rd; have HRN := Lib.hid hr; have HVT := Lib.hid hv
    unfold gGr
    obtain ⟨o, ho⟩ : ∃ x, (plM R tn).o = x := ⟨_, rfl⟩
    rw [ho] at HP HEN hol hok4 hom ⊢
    obtain ⟨X, hX⟩ : ∃ X, endsRow R o = X := ⟨_, rfl⟩
    have hXl : ∀ i, (X i).length = (evA R i).length := fun i => by rw [← hX]; exact endsRow_len _ _ _
    rw [hX] at HEN ⊢
    have hTN := hR.t.length
    have hEN := hR.rd.e.len
    have hev := hr.ev
    have hL5 := hr.r.len
    obtain ⟨nL, hnL⟩ : ∃ x, R.L.length = x := ⟨_, rfl⟩
    rw [hnL] at HEN ⊢
    have HNL := Lib.hid hnL
    have HOK4 : Hid (∀ e ∈ o, e.w = 4 → ∃ i : Nat, e.k = (i : Int) ∧ i < nL) := Lib.hid (fun e he h4 => by obtain ⟨i, _, _, h1, _, _, h2, _⟩ := hok4 e he h4; exact ⟨i, h1, by rw [← hnL]; exact h2⟩)
    have HOM := Lib.hid hom; have HXL := Lib.hid hXl; have HOL := Lib.hid hol
    obtain ⟨m, hm⟩ : ∃ m, nL + 1 = m := ⟨_, rfl⟩
    obtain ⟨G1, hG1⟩ : ∃ G, gAll R X tn nL 0 (fun _ => gBlank tn) = G := ⟨_, rfl⟩
    obtain ⟨G2, hG2⟩ : ∃ G, o.foldl (gEnt nL) G1 = G := ⟨_, rfl⟩
    rw [hG1, hG2, hm]
    have HG1 : Hid (gAll R X tn (nL - 0) 0 (fun _ => gBlank tn) = G1) := Lib.hid hG1
    have HG2 := Lib.hid hG2
    obtain ⟨fr, hfr⟩ : ∃ x, R.fr = x := ⟨_, rfl⟩
    obtain ⟨sl_, hsl⟩ : ∃ x, R.sl = x := ⟨_, rfl⟩
    rw [hfr, hsl] at HI HP HEN ⊢
    obtain ⟨tA, tN, tC, eA, eN, eC, bA, bN, bC, sA, sN, sC⟩ := H
    unfold runV at HI ⊢
    simp only [] at HI HP HEN HR hTN hEN ⊢
    obtain rfl : tN = nL := by omega
    obtain rfl : eN = tN := by omega
    have hn5 : eN ≤ 5 := by omega
    have wm : IntKind.i64.wrap ((eN : Int) + 1) = (m : Int) := by rw [IntWalk.i64_in _ (by omega)]; omega
    have hmk := run_make_row' (P := Tryz.prog) 62 63 (.slice none 0 0) 24 Tryz.underlying62 (by kernel_rfl) rfl .i64 .i64 m (by omega) (by omega)
    have hadd : (⟨Array.replicate tn (32 : UInt8)⟩ : ByteArray) ++ ⟨#[10]⟩ = blankS tn := by simpa using blank_add tn
    have hcv := conv_blank tn
    clear hR hB hfr hsl hr hvl hv hol hok4 hom ho hX hXl hTN hEN hev hL5 hnL hG1 hG2
    go_enter Tryz.func8, Tryz.ntmps8
    go_upto_region 6 with (first | (go_at_call 17; (with_reducible refine (HI.out _ (by (repeat' (first | (with_reducible exact Below.refl _ _) | (with_reducible assumption) | (with_reducible refine Below.alloc ?_ ?_ _) | (with_reducible refine Below.drew ?_) | (with_reducible refine Below.draws ?_ _) | (with_reducible refine Below.setCell ?_ ?_ _) | (refine Below.then ?_ (by with_reducible assumption)) | go_size)))).mono ?_); rintro e w1 ⟨rfl, hb1⟩; have B1 : Hid (Below w.heap.size w w1) := Lib.hid (Below.trans (by (repeat' (first | (with_reducible exact Below.refl _ _) | (with_reducible assumption) | (with_reducible refine Below.alloc ?_ ?_ _) | (with_reducible refine Below.drew ?_) | (with_reducible refine Below.draws ?_ _) | (with_reducible refine Below.setCell ?_ ?_ _) | (refine Below.then ?_ (by with_reducible assumption)) | go_size))) (hb1.mono (by simp))); have z1 : w.heap.size < w1.heap.size := Nat.lt_of_lt_of_le (by simp) hb1.size; have c1_0 := (hb1.cell (p := ⟨w.heap.size, 0, none⟩) (by simp)).trans (by simp [go_sem]; rfl); have c1_1 := (hb1.cell (p := ⟨w.heap.size, 1, none⟩) (by simp)).trans (by simp [go_sem]; rfl); have c1_2 := (hb1.cell (p := ⟨w.heap.size, 2, none⟩) (by simp)).trans (by simp [go_sem]; rfl); have c1_3 := (hb1.cell (p := ⟨w.heap.size, 3, none⟩) (by simp)).trans (by simp [go_sem]; rfl); have c1_4 := (hb1.cell (p := ⟨w.heap.size, 4, none⟩) (by simp)).trans (by simp [go_sem]; rfl); have c1_5 := (hb1.cell (p := ⟨w.heap.size, 5, none⟩) (by simp)).trans (by simp [go_sem]; rfl); clear hb1) | (go_at_call 18; (with_reducible refine (HP.out _ B1.out).mono ?_); rintro e w2 ⟨a2, n2, c2', rfl, h2, hb2⟩; have HO2 := Lib.hid (Rd.of_owns encE_len (by decide) h2); clear h2; have B2 := Lib.hid (Below.then B1.out hb2); have z2 : w.heap.size < w2.heap.size := Nat.lt_of_lt_of_le z1 hb2.size; have c2_0 := (hb2.cell (p := ⟨w.heap.size, 0, none⟩) z1).trans c1_0; have c2_1 := (hb2.cell (p := ⟨w.heap.size, 1, none⟩) z1).trans c1_1; have c2_2 := (hb2.cell (p := ⟨w.heap.size, 2, none⟩) z1).trans c1_2; have c2_3 := (hb2.cell (p := ⟨w.heap.size, 3, none⟩) z1).trans c1_3; have c2_4 := (hb2.cell (p := ⟨w.heap.size, 4, none⟩) z1).trans c1_4; have c2_5 := (hb2.cell (p := ⟨w.heap.size, 5, none⟩) z1).trans c1_5; clear hb2 c1_0 c1_1 c1_2 c1_3 c1_4 c1_5) | (go_at_call 19; (with_reducible refine (HEN.out _ _ _ _ B2.out HO2.out).mono ?_); rintro e w3 ⟨a3, rfl, h3, hb3⟩; have HX3 := Lib.hid h3; have HO3 := Lib.hid (HO2.out.ext hb3); clear h3; have B3 := Lib.hid (Below.then B2.out hb3); have z3 : w.heap.size < w3.heap.size := Nat.lt_of_lt_of_le z2 hb3.size; have c3_0 := (hb3.cell (p := ⟨w.heap.size, 0, none⟩) z2).trans c2_0; have c3_1 := (hb3.cell (p := ⟨w.heap.size, 1, none⟩) z2).trans c2_1; have c3_2 := (hb3.cell (p := ⟨w.heap.size, 2, none⟩) z2).trans c2_2; have c3_3 := (hb3.cell (p := ⟨w.heap.size, 3, none⟩) z2).trans c2_3; have c3_4 := (hb3.cell (p := ⟨w.heap.size, 4, none⟩) z2).trans c2_4; have c3_5 := (hb3.cell (p := ⟨w.heap.size, 5, none⟩) z2).trans c2_5; clear hb3 c2_0 c2_1 c2_2 c2_3 c2_4 c2_5))
    obtain ⟨wE, hwE⟩ : ∃ x, x = w3.alloc (.cells (madeCells #[.slice none 0 0] m) 63) := ⟨_, rfl⟩
    obtain ⟨E, hE⟩ : ∃ E, w3.heap.size = E := ⟨_, rfl⟩
    have hbE : Below w3.heap.size w3 wE := by rw [hwE]; (repeat' (first | (with_reducible exact Below.refl _ _) | (with_reducible assumption) | (with_reducible refine Below.alloc ?_ ?_ _) | (with_reducible refine Below.drew ?_) | (with_reducible refine Below.draws ?_ _) | (with_reducible refine Below.setCell ?_ ?_ _) | (refine Below.then ?_ (by with_reducible assumption)) | go_size))
    have hkE : Blk wE E (madeCells #[.slice none 0 0] m) := by rw [hwE]; exact Blk.at _ _ _ _ hE.symm
    have HG0 : Hid (GrB E E m 0 (tn + 1) wE (fun _ => 0) (fun _ => 0) (fun _ => gBlank tn)) := Lib.hid ⟨Nat.zero_le _, ⟨Nat.le_refl _, hkE.l⟩, fun i hi => by omega, fun i _ hi => (hkE.c i).trans (made_one _ m i hi), hkE.f, fun i hi => by omega, fun i hi => by omega, fun i hi => by omega, fun i hi => by omega, fun i j hi => by omega⟩
    have HXE := Lib.hid (HX3.out.ext hbE); have HOE := Lib.hid (HO3.out.ext hbE); have BE := Lib.hid (Below.then B3.out hbE)
    have b0 := (hbE.cell (p := ⟨w.heap.size, 0, none⟩) z3).trans c3_0
    have b3 := (hbE.cell (p := ⟨w.heap.size, 3, none⟩) z3).trans c3_3
    have bz := Nat.lt_of_lt_of_le z3 hbE.size
    have HB0 := Lib.hid b0
    have HXW : Hid (∀ wz, Below E wE wz → RdE wz a3 eN X) := Lib.hid (fun wz hz => HX3.out.ext (by rw [hE] at hbE ⊢; exact hbE.trans hz))
    have HOW : Hid (∀ wz, Below E wE wz → Rd wz a2 n2 5 (o.map encE)) := Lib.hid (fun wz hz => HO3.out.ext (by rw [hE] at hbE ⊢; exact hbE.trans hz))
    rw [← hwE]
    rw [hE]
    have hwl : w.heap.size < E := by rw [← hE]; exact z3
    clear hwE hbE hkE c3_0 c3_1 c3_2 c3_3 c3_4 c3_5 z3 hmk wm hE
    go_wp2_with fail
    go_loopw [35] (fun v wr => ∃ (k : Nat) (q c : Nat → Nat), k ≤ m ∧ v = .int .i64 k ∧ GrB E E m k (tn + 1) wr q c (fun _ => gBlank tn) ∧ Below E wE wr) (fun v _ => m - (intOf v).toNat)
    case atStart => exact ⟨0, _, _, Nat.zero_le _, rfl, HG0.out, Below.refl _ _⟩
    case round =>
      clear HG0
      obtain ⟨k, q, c, hk, rfl, hG, hB⟩ := hrel
      have HG := Lib.hid hG; have HB := Lib.hid hB
      by_cases hlt : k < m
      · have x1 := hG.bn k (Nat.le_refl _) hlt
        have x2 := hG.fe k
        have x3 := hG.ez.2
        clear hG hB
        go_wp2_with (go_at_call 20; (with_reducible refine (repeat_blank tn htn _).mono ?_); rintro e w5 ⟨rfl, hb5⟩; have y1 := keep_c hb5 x1; have y2 := (hb5.frozen (p := ⟨E, k, none⟩) x3).trans x2; have y3 := Nat.lt_of_lt_of_le x3 hb5.size; have HB5 := Lib.hid hb5; clear hb5)
        go_roundw
        case rel =>
          have hp := HG.out.blank HB5.out hlt (grownCap w5 (tn + 1) 0 5)
          rw [World.setCell_alloc_past _ _ _ _ y3] at hp
          refine ⟨k + 1, _, _, hlt, by go_num, hp.ext (Below.refl _ _).drew, ?_⟩
          exact (((HB.out.trans (HB5.out.mono (by omega))).setCell (p := ⟨E, k, none⟩) (Nat.le_refl _) _).alloc (by simp; omega) _).drew
        case measure => simp [intOf]; omega
      · obtain rfl : k = m := by omega
        obtain ⟨wo, hwo⟩ : ∃ wo : World, wo = wr := ⟨_, rfl⟩
        subst hwo
        have b0' := (hB.cell (p := ⟨w.heap.size, 0, none⟩) hwl).trans b0
        have b3' := (hB.cell (p := ⟨w.heap.size, 3, none⟩) hwl).trans b3
        have bz' := Nat.lt_of_lt_of_le bz hB.size
        have hEz := hG.ez.2
        clear hG hB hlt hk b0 b3 bz
        go_wp2_with fail
        go_loopw [49] (fun v wr => ∃ (i : Nat) (G : Nat → List Int), i ≤ eN ∧ v = .int .i64 i ∧ gAll R X tn (eN - i) i G = G1 ∧ GrB E E k k (tn + 1) wr q c G ∧ Below E wE wr) (fun v _ => eN - (intOf v).toNat)
        case atStart => exact ⟨0, _, Nat.zero_le _, rfl, HG1.out, HG.out, HB.out⟩
        case round =>
          clear HG HB
          obtain ⟨i, G, hi, rfl, hA, hG, hB⟩ := hrel
          have HG := Lib.hid hG; have HB := Lib.hid hB
          have HBW := Lib.hid (BE.out.trans (hB.mono (by omega)))
          by_cases hlt : i < eN
          · rw [show eN - i = (eN - (i + 1)) + 1 by omega, gAll] at hA
            obtain ⟨eb, eo, ea, en, ec, rfl, heb, hec, hRd⟩ := HR.out.e.at_ i hlt
            have hlen : (evA R i).length = en := hRd.length
            rw [hlen] at hA
            obtain ⟨GA, hGA⟩ : ∃ g, gRow R X tn i en 0 G = g := ⟨_, rfl⟩
            rw [hGA] at hA
            have HA := Lib.hid hA
            have HGA : Hid (gRow R X tn i (en - 0) 0 G = GA) := Lib.hid hGA
            have hec' := (HBW.out.cell (p := ⟨eb, eo + i, none⟩) heb).trans hec
            have hez' := Nat.lt_of_lt_of_le heb HBW.out.size
            have HRd := Lib.hid hRd; have HLEN := Lib.hid hlen
            have hens := hRd.small
            have hie : i < k := by omega
            clear hG hB hA hGA hRd hlen hec
            go_wp2_with fail
            go_loopw [56] (fun v wr => ∃ (x : Nat) (G : Nat → List Int), x ≤ en ∧ v = .int .i64 x ∧ gRow R X tn i (en - x) x G = GA ∧ GrB E E k k (tn + 1) wr q c G ∧ Below E wE wr) (fun v _ => en - (intOf v).toNat)
            case atStart => exact ⟨0, _, Nat.zero_le _, rfl, HGA.out, HG.out, HB.out⟩
            case round =>
              clear HG HB HGA HBW
              obtain ⟨x, G, hx, rfl, hA2, hG, hB⟩ := hrel
              have HG := Lib.hid hG; have HB := Lib.hid hB
              have HBW := Lib.hid (BE.out.trans (hB.mono (by omega)))
              by_cases hxl : x < en
              · rw [show en - x = (en - (x + 1)) + 1 by omega, gRow] at hA2
                obtain ⟨e0, e1, vb, vo, rfl, hvb, g0, g1, hg, -⟩ := (HRd.out.ext HBW.out).pc_at' x hxl
                have hiL : i < R.L.length := by rw [HNL.out]; exact hlt
                have hel := HRN.out.el (evAt R.ev i) (by unfold evAt; rw [List.getElem?_eq_getElem (by rw [HRN.out.ev]; exact hiL)]; exact List.getElem_mem _)
                have heb2 := hel.2 _ (List.mem_of_getElem? hg)
                simp only [] at heb2
                have hev : evS R i x = (e0 + e1).toNat := by
                  have : (evA R i)[x]? = some (e0, e1) := hg
                  unfold evS; rw [this]; rfl
                rw [hev] at hA2
                obtain ⟨sx, hsx⟩ := Int.eq_ofNat_of_zero_le (show 0 ≤ e0 + e1 by omega)
                rw [hsx, Int.toNat_natCast] at hA2
                have wadd : IntKind.i64.wrap (e0 + e1) = (sx : Int) := by rw [IntWalk.i64_in _ (by omega)]; exact hsx
                obtain ⟨ab, ao, xb, xo, xn, xc, rfl, habz, hac, hxn, hxbz, hxc⟩ := (HXW.out _ hB).xat hlt (k := x) (by rw [HXL.out, HLEN.out]; exact hxl)
                obtain ⟨z, hz⟩ : ∃ z, xAt X i x = z := ⟨_, rfl⟩
                rw [hz] at hxc hA2
                have hxlen : x < xn := by have := HXL.out i; have := HLEN.out; omega
                obtain ⟨GB, hGB⟩ : ∃ g, gDot i z (tn - sx) sx G = g := ⟨_, rfl⟩
                rw [hGB] at hA2
                have HA2 := Lib.hid hA2
                have HGB : Hid (gDot i z (tn - sx) sx G = GB) := Lib.hid hGB
                have hEw : E ≤ wr.heap.size := by have := hB.size; have := HG.out.ez.2; omega
                clear hG hB hA2 hGB hel heb2 hev hg hz hxn hsx
                go_wp2_with fail
                go_loopw [15] (fun v wr => ∃ (a : Nat) (G : Nat → List Int), v = .int .i64 a ∧ gDot i z (tn - a) a G = GB ∧ GrB E E k k (tn + 1) wr q c G ∧ Below E wE wr) (fun v _ => tn - (intOf v).toNat)
                case atStart => exact ⟨sx, _, rfl, HGB.out, HG.out.ext (by (repeat' (first | (with_reducible exact Below.refl _ _) | (with_reducible assumption) | (with_reducible refine Below.alloc ?_ ?_ _) | (with_reducible refine Below.drew ?_) | (with_reducible refine Below.draws ?_ _) | (with_reducible refine Below.setCell ?_ ?_ _) | (refine Below.then ?_ (by with_reducible assumption)) | go_size))), HB.out.trans (by (repeat' (first | (with_reducible exact Below.refl _ _) | (with_reducible assumption) | (with_reducible refine Below.alloc ?_ ?_ _) | (with_reducible refine Below.drew ?_) | (with_reducible refine Below.draws ?_ _) | (with_reducible refine Below.setCell ?_ ?_ _) | (refine Below.then ?_ (by with_reducible assumption)) | go_size)))⟩
                case round =>
                  clear HG HB HGB HBW
                  obtain ⟨a, G, rfl, hA3, hG, hB⟩ := hrel
                  have HG := Lib.hid hG; have HB := Lib.hid hB
                  by_cases hat : a < tn
                  · have d1 : decide ((a : Int) < (tn : Int)) = true := by simp; omega
                    rw [show tn - a = (tn - (a + 1)) + 1 by omega, gDot] at hA3
                    by_cases hzz : z < 0 ∨ (a : Int) < z
                    · rw [if_pos hzz] at hA3
                      have HA3 := Lib.hid hA3
                      have y1 := hG.be i hie
                      have hla : a < (G i).length := by rw [hG.len i hie]; omega
                      have y2 := hG.ce i hie a _ (List.getElem?_eq_getElem hla)
                      have y3 := hG.fz i hie a (by omega)
                      have hqE := (hG.qb i hie).1
                      obtain ⟨qi, hqi⟩ : ∃ x, q i = x := ⟨_, rfl⟩
                      obtain ⟨ci, hci⟩ : ∃ x, c i = x := ⟨_, rfl⟩
                      obtain ⟨old, hold⟩ : ∃ x, (G i)[a] = x := ⟨_, rfl⟩
                      rw [hqi, hci] at y1
                      rw [hqi, hold] at y2
                      rw [hqi] at y3 hqE
                      have HQI := Lib.hid hqi
                      have ht1 : (a : Int) ≤ 2000 := by omega
                      clear hG hB hA3 hqi hci hold hla
                      by_cases z0 : z < 0
                      · have d2 : decide (z < 0) = true := by simpa using z0
                        clear hzz
                        go_wp2_with fail
                        go_roundw
                        case rel => exact ⟨a + 1, _, by go_num, HA3.out, by rw [← HQI.out]; exact HG.out.set hie 46, HB.out.setCell (p := ⟨qi, a, none⟩) hqE _⟩
                        case measure => simp [intOf]; omega
                      · have d2 : decide (z < 0) = false := by simpa using z0
                        have d3 : decide ((a : Int) < z) = true := by simpa using hzz.resolve_left z0
                        clear hzz
                        go_wp2_with fail
                        go_roundw
                        case rel => exact ⟨a + 1, _, by go_num, HA3.out, by rw [← HQI.out]; exact HG.out.set hie 46, HB.out.setCell (p := ⟨qi, a, none⟩) hqE _⟩
                        case measure => simp [intOf]; omega
                    · rw [if_neg hzz] at hA3
                      subst hA3
                      have d2 : decide (z < 0) = false := by simpa using fun h => hzz (.inl h)
                      have d3 : decide ((a : Int) < z) = false := by simpa using fun h => hzz (.inr h)
                      clear hG hB hzz
                      go_wp2_with fail
                      go_roundw
                      case rel => exact ⟨x + 1, G, hxl, by go_num, HA2.out, HG.out, HB.out⟩
                      case measure => simp [intOf]; omega
                  · have d1 : decide ((a : Int) < (tn : Int)) = false := by simp; omega
                    rw [show tn - a = 0 by omega, gDot] at hA3
                    subst hA3
                    clear hG hB
                    go_wp2_with fail
                    go_roundw
                    case rel => exact ⟨x + 1, G, hxl, by go_num, HA2.out, HG.out, HB.out⟩
                    case measure => simp [intOf]; omega
              · have hx0 : en - x = 0 := by omega
                rw [hx0, gRow] at hA2
                subst hA2
                clear hG hB hx0
                go_wp2_with fail
                go_roundw
                case rel => exact ⟨i + 1, G, hlt, by go_num, HA.out, HG.out, HB.out⟩
                case measure => simp [intOf]; omega
          · have hi0 : eN - i = 0 := by omega
            rw [hi0, gAll] at hA
            subst hA
            clear hG hB hi0
            go_upto_region 24 with fail
            have hwz : w.heap.size < wr.heap.size := Nat.lt_of_lt_of_le (Nat.lt_trans hwl HG.out.ez.2) (Nat.le_refl _)
            have HN2 : Hid (o.length = n2) := Lib.hid (HOE.out.length)
            have HF0 : Hid ((o.drop 0).foldl (gEnt eN) G = G2) := Lib.hid HG2.out
            have hn2 : n2 ≤ 504000 := by rw [← HN2.out]; exact HOL.out
            go_wp2_with fail
            go_loopw [97] (fun v wr => ∃ (j : Nat) (G : Nat → List Int), j ≤ n2 ∧ v = .int .i64 j ∧ (o.drop j).foldl (gEnt eN) G = G2 ∧ GrB E E k k (tn + 1) wr q c G ∧ Below E wE wr) (fun v _ => n2 - (intOf v).toNat)
            case atStart => exact ⟨0, G, Nat.zero_le _, rfl, HF0.out, HG.out, HB.out⟩
            case round =>
              clear HG HB HF0 HBW
              obtain ⟨j, G, hj, rfl, hF, hG, hB⟩ := hrel
              have HG := Lib.hid hG; have HB := Lib.hid hB
              have HBW := Lib.hid (BE.out.trans (hB.mono (by omega)))
              by_cases hjn : j < n2
              · obtain ⟨e, eb, eo, rfl, heb, hx, p0, p1, p2, p3, p4⟩ := (HOW.out _ hB).en_at j hjn
                have hem := List.mem_of_getElem? hx
                have hd : o.drop j = e :: o.drop (j + 1) := by obtain ⟨h1, h2⟩ := List.getElem?_eq_some_iff.1 hx; rw [List.drop_eq_getElem_cons h1, h2]
                rw [hd, List.foldl_cons] at hF
                have b0'' := (hB.cell (p := ⟨w.heap.size, 0, none⟩) hwl).trans HB0.out
                have hwz2 : w.heap.size < wr.heap.size := by have := hG.ez.2; omega
                have hEw : E ≤ wr.heap.size := by have := hG.ez.2; omega
                obtain ⟨em, ek, ew, ea2, eb2⟩ := e
                simp only [] at p0 p1 p2 p3 p4
                by_cases h4 : ew = 4
                · subst h4
                  obtain ⟨i, hik, hil⟩ := HOK4.out _ hem rfl
                  have hmm := HOM.out _ hem (.inr rfl)
                  simp only [] at hik hmm
                  subst hik
                  obtain ⟨mm, rfl⟩ := Int.eq_ofNat_of_zero_le hmm.1
                  have hie : i < k := by omega
                  have hmt : mm < tn := by omega
                  have hF2 : (o.drop (j + 1)).foldl (gEnt eN) (gSet G i mm 35) = G2 := hF
                  have HF := Lib.hid hF2
                  have y1 := hG.be i hie
                  have hla : mm < (G i).length := by rw [hG.len i hie]; omega
                  have y2 := hG.ce i hie mm _ (List.getElem?_eq_getElem hla)
                  have y3 := hG.fz i hie mm (by omega)
                  have hqE := (hG.qb i hie).1
                  have hqz := (hG.qb i hie).2.1
                  have hEz2 := hG.ez.2
                  obtain ⟨qi, hqi⟩ : ∃ x, q i = x := ⟨_, rfl⟩
                  obtain ⟨ci, hci⟩ : ∃ x, c i = x := ⟨_, rfl⟩
                  obtain ⟨old, hold⟩ : ∃ x, (G i)[mm] = x := ⟨_, rfl⟩
                  rw [hqi, hci] at y1
                  rw [hqi, hold] at y2
                  rw [hqi] at y3 hqE hqz
                  have HQI := Lib.hid hqi
                  clear hG hB hF hF2 hx hem hd hqi hci hold hla hmm
                  go_upto_region 29 with fail
                  go_region
                  all_goals
                    go_wp2_with fail
                    go_roundw
                    case rel =>
                      have hs : GrB E E k k (tn + 1) (wr.setCell ⟨qi, mm, none⟩ (.int .u8 35)) q c (gSet G i mm 35) := by rw [← HQI.out]; exact HG.out.set hie 35
                      exact ⟨j + 1, _, hjn, by go_num, HF.out, hs.ext (by (repeat' (first | (with_reducible exact Below.refl _ _) | (with_reducible assumption) | (with_reducible refine Below.alloc ?_ ?_ _) | (with_reducible refine Below.drew ?_) | (with_reducible refine Below.draws ?_ _) | (with_reducible refine Below.setCell ?_ ?_ _) | (refine Below.then ?_ (by with_reducible assumption)) | go_size))), ((HB.out.setCell (p := ⟨qi, mm, none⟩) hqE _).alloc (by simp; omega) _).drew⟩
                    case measure => simp [intOf]; omega
                · by_cases h3 : ew = 3
                  · subst h3
                    have hmm := HOM.out _ hem (.inl rfl)
                    simp only [] at hmm
                    have hEq : (eN : Int) = ((eN : Nat) : Int) := rfl
                    obtain ⟨mm, rfl⟩ := Int.eq_ofNat_of_zero_le hmm.1
                    have hie : eN < k := by omega
                    have hmt : mm < tn := by omega
                    have hF2 : (o.drop (j + 1)).foldl (gEnt eN) (gSet G eN mm 71) = G2 := hF
                    have HF := Lib.hid hF2
                    have y1 := hG.be eN hie
                    have hla : mm < (G eN).length := by rw [hG.len eN hie]; omega
                    have y2 := hG.ce eN hie mm _ (List.getElem?_eq_getElem hla)
                    have y3 := hG.fz eN hie mm (by omega)
                    have hqE := (hG.qb eN hie).1
                    have hqz := (hG.qb eN hie).2.1
                    have hEz2 := hG.ez.2
                    obtain ⟨qi, hqi⟩ : ∃ x, q eN = x := ⟨_, rfl⟩
                    obtain ⟨ci, hci⟩ : ∃ x, c eN = x := ⟨_, rfl⟩
                    obtain ⟨old, hold⟩ : ∃ x, (G eN)[mm] = x := ⟨_, rfl⟩
                    rw [hqi, hci] at y1
                    rw [hqi, hold] at y2
                    rw [hqi] at y3 hqE hqz
                    have HQI := Lib.hid hqi
                    clear hG hB hF hF2 hx hem hd hqi hci hold hla hmm
                    go_upto_region 31 with fail
                    go_region
                    all_goals
                      go_wp2_with fail
                      go_roundw
                      case rel =>
                        have hs : GrB E E k k (tn + 1) (wr.setCell ⟨qi, mm, none⟩ (.int .u8 71)) q c (gSet G eN mm 71) := by rw [← HQI.out]; exact HG.out.set hie 71
                        exact ⟨j + 1, _, hjn, by go_num, HF.out, hs.ext (by (repeat' (first | (with_reducible exact Below.refl _ _) | (with_reducible assumption) | (with_reducible refine Below.alloc ?_ ?_ _) | (with_reducible refine Below.drew ?_) | (with_reducible refine Below.draws ?_ _) | (with_reducible refine Below.setCell ?_ ?_ _) | (refine Below.then ?_ (by with_reducible assumption)) | go_size))), ((HB.out.setCell (p := ⟨qi, mm, none⟩) hqE _).alloc (by simp; omega) _).drew⟩
                      case measure => simp [intOf]; omega
                  · have h4' : (ew == 4) = false := by simpa using h4
                    have h3' : (ew == 3) = false := by simpa using h3
                    have hF2 : (o.drop (j + 1)).foldl (gEnt eN) G = G2 := by
                      have e : gEnt eN G ⟨em, ek, ew, ea2, eb2⟩ = G := by unfold gEnt; rw [if_neg h4, if_neg h3]
                      rw [e] at hF; exact hF
                    have HF := Lib.hid hF2
                    clear hG hB hF hF2 hx hem hd h4 h3
                    go_wp2_with fail
                    go_roundw
                    case rel => exact ⟨j + 1, G, hjn, by go_num, HF.out, HG.out.ext (by (repeat' (first | (with_reducible exact Below.refl _ _) | (with_reducible assumption) | (with_reducible refine Below.alloc ?_ ?_ _) | (with_reducible refine Below.drew ?_) | (with_reducible refine Below.draws ?_ _) | (with_reducible refine Below.setCell ?_ ?_ _) | (refine Below.then ?_ (by with_reducible assumption)) | go_size))), HB.out.trans (by (repeat' (first | (with_reducible exact Below.refl _ _) | (with_reducible assumption) | (with_reducible refine Below.alloc ?_ ?_ _) | (with_reducible refine Below.drew ?_) | (with_reducible refine Below.draws ?_ _) | (with_reducible refine Below.setCell ?_ ?_ _) | (refine Below.then ?_ (by with_reducible assumption)) | go_size)))⟩
                    case measure => simp [intOf]; omega
              · obtain rfl : j = n2 := by omega
                rw [List.drop_of_length_le (by rw [HN2.out]; exact Nat.le_refl _), List.foldl_nil] at hF
                subst hF
                clear hB hjn hj
                obtain ⟨gs, hgs⟩ : ∃ gs, (List.range k).map (fun i => (⟨some ⟨q i, 0, none⟩, tn + 1, c i, G i⟩ : Gt.ISl)) = gs := ⟨_, rfl⟩
                have hgl : gs.length = k := by rw [← hgs]; simp
                have hR2 : Rd wr (some ⟨E, 0, none⟩) k 1 (gs.map fun s => [Gt.valS s]) := ⟨by simpa using hgl, by omega, fun _ => ⟨E, 0, rfl, hG.ez.2, fun i hi y hy => by
                  obtain rfl : y = 0 := by omega
                  have hik : i < k := by simpa [hgl] using hi
                  have := hG.be i hik
                  subst hgs
                  simpa using this⟩⟩
                have hok : ∀ s ∈ gs, Gt.ISl.ok wr s := fun s hs => by
                  rw [← hgs] at hs
                  obtain ⟨i, hi, rfl⟩ := List.mem_map.1 hs
                  exact ⟨hG.rd (List.mem_range.1 hi) (by omega), fun h => .inr ⟨_, rfl⟩⟩
                have hcat : Gt.catS gs = gTxt k G := by rw [← hgs, catS_map]; rfl
                have hsz : Gt.sizeS gs = k * (tn + 1) := by rw [← hgs, sizeS_map _ (tn + 1) _ (fun i _ => rfl), List.length_range]
                obtain ⟨n5, hn5'⟩ : ∃ n, Gt.sizeS gs = n := ⟨_, rfl⟩
                have hn5p : 0 < n5 := by
                  rw [← hn5', hsz]; exact Nat.mul_pos (by omega) (by omega)
                have hn5b : n5 ≤ 50000 := by
                  rw [← hn5', hsz]
                  have : k * (tn + 1) ≤ 6 * 2001 := Nat.mul_le_mul (by omega) (by omega)
                  omega
                have HCC := Lib.hid (Gt.concat_any (some ⟨E, 0, none⟩) k k gs wr hR2 hok (by rw [hn5']; exact hn5b))
                rw [hn5', hcat] at HCC
                clear hG hgs hgl hR2 hok hcat hsz hn5'
                go_wp2_with (go_at_call 21; (with_reducible refine HCC.out.mono ?_); rintro e w5 ⟨a5, c5, rfl, ho5, hb5⟩; obtain ⟨q5, rfl, hq5, hq6⟩ := owns_addr ho5 hn5p; have hcs := conv_text (c := c5) (Rd.of_owns encB_len (by decide) ho5) hn5p; have HB5 := Lib.hid hb5; clear ho5 hb5)
                go_ret2
                exact ⟨rfl, Below.then HBW.out HB5.out⟩
end Go.Proofs.YtlhnhmimhpcoaaaGreat
namespace Go.Proofs.YtlhnhmimhpcoaaaGreat
open Go.RowKit
set_option linter.unusedSimpArgs false
set_option linter.unusedVariables false
theorem rEnds_is {H : RunH} {R : Rn} {t : Int} {w : World} {n : Nat} {X : Nat → List Int} {er : Int} (hR : ReadRun w H R) (h1 : endN R t = n) (h2 : endX R t = X) (h3 : endE R t = er) : Calls Tryz.prog 22 #[runV H R.fr R.sl, .int .i64 t] w (OutX w n X er) := by subst h1; subst h2; subst h3; exact rEnds_any H R t w hR
theorem rSimG_is {H : RunH} {R : Rn} {t : Int} {w : World} {xs : List En} {y : Int} (hR : ReadRun w H R) (h : simR R t = (xs, y)) : Calls Tryz.prog 23 #[runV H R.fr R.sl, .int .i64 t] w (OutEn w xs y) := by
  have := rSim_any H R t w hR
  rw [h] at this; exact this
set_option maxRecDepth 100000 in
set_option maxHeartbeats 8000000 in
theorem rGantt_any (H : RunH) (R : Rn) (t : Int) (w : World) (hR : ReadRun w H R) : Calls Tryz.prog 9 #[runV H R.fr R.sl, .int .i64 t] w fun e w' => e = .returned (.tuple #[.string (strOfNums (ganttR R t).1), .int .i64 (ganttR R t).2]) ∧ Below w.heap.size w w' := by
  obtain ⟨B, hB⟩ : ∃ B, (runB R && inB t 0 2000) = B := ⟨_, rfl⟩
  unfold ganttR
  rw [hB]
  cases B
  · have HE := Lib.hid (fun w1 (hb : Below w.heap.size w w1) => rEnds_is (t := t) (w := w1) (n := 0) (er := 1) (hR.ext hb) (by unfold endN; rw [hB]; rfl) rfl (by unfold endE; rw [hB]; rfl))
    obtain ⟨fr, hfr⟩ : ∃ x, R.fr = x := ⟨_, rfl⟩
    obtain ⟨sl_, hsl⟩ : ∃ x, R.sl = x := ⟨_, rfl⟩
    rw [hfr, hsl] at HE ⊢
    obtain ⟨tA, tN, tC, eA, eN, eC, bA, bN, bC, sA, sN, sC⟩ := H
    unfold runV at HE ⊢
    simp only [] at HE ⊢
    clear hR hB hfr hsl
    go_enter Tryz.func9, Tryz.ntmps9
    go_wp2_with (go_at_call 22; (with_reducible refine (HE.out _ (by (repeat' (first | (with_reducible exact Below.refl _ _) | (with_reducible assumption) | (with_reducible refine Below.alloc ?_ ?_ _) | (with_reducible refine Below.drew ?_) | (with_reducible refine Below.draws ?_ _) | (with_reducible refine Below.setCell ?_ ?_ _) | (refine Below.then ?_ (by with_reducible assumption)) | go_size)))).mono ?_); rintro e w1 ⟨a3, c3, rfl, h3, hb1⟩; have HX1 := Lib.hid h3; clear h3; have B1 : Hid (Below w.heap.size w w1) := Lib.hid (Below.trans (by (repeat' (first | (with_reducible exact Below.refl _ _) | (with_reducible assumption) | (with_reducible refine Below.alloc ?_ ?_ _) | (with_reducible refine Below.drew ?_) | (with_reducible refine Below.draws ?_ _) | (with_reducible refine Below.setCell ?_ ?_ _) | (refine Below.then ?_ (by with_reducible assumption)) | go_size))) (hb1.mono (by simp))); have z1 : w.heap.size < w1.heap.size := Nat.lt_of_lt_of_le (by simp) hb1.size; have c1_0 := (hb1.cell (p := ⟨w.heap.size, 0, none⟩) (by simp)).trans (by simp [go_sem]; rfl); have c1_1 := (hb1.cell (p := ⟨w.heap.size, 1, none⟩) (by simp)).trans (by simp [go_sem]; rfl); have c1_2 := (hb1.cell (p := ⟨w.heap.size, 2, none⟩) (by simp)).trans (by simp [go_sem]; rfl); have c1_3 := (hb1.cell (p := ⟨w.heap.size, 3, none⟩) (by simp)).trans (by simp [go_sem]; rfl); have c1_4 := (hb1.cell (p := ⟨w.heap.size, 4, none⟩) (by simp)).trans (by simp [go_sem]; rfl); have c1_5 := (hb1.cell (p := ⟨w.heap.size, 5, none⟩) (by simp)).trans (by simp [go_sem]; rfl); clear hb1)
    go_ret2
    exact ⟨rfl, B1.out⟩
  · have hBB := hB
    rw [Bool.and_eq_true, inB_iff] at hB
    obtain ⟨tn, rfl⟩ := Int.eq_ofNat_of_zero_le hB.2.1
    rw [if_pos rfl, Int.toNat_natCast]
    obtain ⟨hr, hvl, _⟩ := run_ok hB.1
    have hv := valid_of hvl
    have htn : tn ≤ 2000 := by omega
    have hol := plM_olen hr htn
    have hok4 : ∀ e ∈ (plM R tn).o, e.w = 4 → ∃ i p x : Nat, e.k = (i : Int) ∧ e.a = (p : Int) ∧ e.b = (x : Int) ∧ i < R.L.length ∧ p < (taAt R.L i).pcs.length ∧ x < (evA R i).length := fun e he h4 => by obtain ⟨_, _, q⟩ := plM_ei hr tn; exact q.ok4 e he h4
    have hom : ∀ e ∈ (plM R tn).o, e.w = 3 ∨ e.w = 4 → 0 ≤ e.m ∧ e.m < tn := fun e he h => by obtain ⟨_, _, q⟩ := plM_ei hr tn; have := q.okm e he; exact ⟨this.1, this.2.2 h⟩
    have HE := Lib.hid (fun w1 (hb : Below w.heap.size w w1) => rEnds_is (t := (tn : Int)) (w := w1) (n := R.L.length) (X := endsRow R (plM R tn).o) (er := 0) (hR.ext hb) (by unfold endN; rw [hBB]; rfl) rfl (by unfold endE; rw [hBB]; rfl))
    have HS := Lib.hid (fun w1 (hb : Below w.heap.size w w1) => rSimG_is (t := (tn : Int)) (w := w1) (xs := (plM R tn).o) (y := 0) (hR.ext hb) (by unfold simR; rw [hBB]; rfl))
    have HR := Lib.hid hR.rd; have HRN := Lib.hid hr; have HVT := Lib.hid hv
    unfold gGr
    obtain ⟨o, ho⟩ : ∃ x, (plM R tn).o = x := ⟨_, rfl⟩
    rw [ho] at HE HS hol hok4 hom ⊢
    obtain ⟨X, hX⟩ : ∃ X, endsRow R o = X := ⟨_, rfl⟩
    have hXl : ∀ i, (X i).length = (evA R i).length := fun i => by rw [← hX]; exact endsRow_len _ _ _
    rw [hX] at HE ⊢
    have hTN := hR.t.length
    have hEN := hR.rd.e.len
    have hev := hr.ev
    have hL5 := hr.r.len
    obtain ⟨nL, hnL⟩ : ∃ x, R.L.length = x := ⟨_, rfl⟩
    rw [hnL] at HE ⊢
    have HNL := Lib.hid hnL
    have HOK4 : Hid (∀ e ∈ o, e.w = 4 → ∃ i : Nat, e.k = (i : Int) ∧ i < nL) := Lib.hid (fun e he h4 => by obtain ⟨i, _, _, h1, _, _, h2, _⟩ := hok4 e he h4; exact ⟨i, h1, by rw [← hnL]; exact h2⟩)
    have HOM := Lib.hid hom; have HXL := Lib.hid hXl; have HOL := Lib.hid hol
    obtain ⟨m, hm⟩ : ∃ m, nL + 1 = m := ⟨_, rfl⟩
    obtain ⟨G1, hG1⟩ : ∃ G, gAll R X tn nL 0 (fun _ => gBlank tn) = G := ⟨_, rfl⟩
    obtain ⟨G2, hG2⟩ : ∃ G, o.foldl (gEnt nL) G1 = G := ⟨_, rfl⟩
    rw [hG1, hG2, hm]
    have HG1 : Hid (gAll R X tn (nL - 0) 0 (fun _ => gBlank tn) = G1) := Lib.hid hG1
    have HG2 := Lib.hid hG2
    obtain ⟨fr, hfr⟩ : ∃ x, R.fr = x := ⟨_, rfl⟩
    obtain ⟨sl_, hsl⟩ : ∃ x, R.sl = x := ⟨_, rfl⟩
    rw [hfr, hsl] at HE HS ⊢
    obtain ⟨tA, tN, tC, eA, eN, eC, bA, bN, bC, sA, sN, sC⟩ := H
    unfold runV at HE HS ⊢
    simp only [] at HE HS HR hTN hEN ⊢
    obtain rfl : tN = nL := by omega
    obtain rfl : eN = tN := by omega
    have hn5 : eN ≤ 5 := by omega
    clear hR hB hBB hfr hsl hr hvl hv hol hok4 hom ho hX hXl hTN hEN hev hL5 hnL hG1 hG2
    have eB := Gt.EBy
    have eR := ERB
    go_enter Tryz.func9, Tryz.ntmps9
    go_upto_region 5 with (first | (go_at_call 22; (with_reducible refine (HE.out _ (by (repeat' (first | (with_reducible exact Below.refl _ _) | (with_reducible assumption) | (with_reducible refine Below.alloc ?_ ?_ _) | (with_reducible refine Below.drew ?_) | (with_reducible refine Below.draws ?_ _) | (with_reducible refine Below.setCell ?_ ?_ _) | (refine Below.then ?_ (by with_reducible assumption)) | go_size)))).mono ?_); rintro e w1 ⟨a3, c3, rfl, h3, hb1⟩; have HX1 := Lib.hid h3; clear h3; have B1 : Hid (Below w.heap.size w w1) := Lib.hid (Below.trans (by (repeat' (first | (with_reducible exact Below.refl _ _) | (with_reducible assumption) | (with_reducible refine Below.alloc ?_ ?_ _) | (with_reducible refine Below.drew ?_) | (with_reducible refine Below.draws ?_ _) | (with_reducible refine Below.setCell ?_ ?_ _) | (refine Below.then ?_ (by with_reducible assumption)) | go_size))) (hb1.mono (by simp))); have z1 : w.heap.size < w1.heap.size := Nat.lt_of_lt_of_le (by simp) hb1.size; have c1_0 := (hb1.cell (p := ⟨w.heap.size, 0, none⟩) (by simp)).trans (by simp [go_sem]; rfl); have c1_1 := (hb1.cell (p := ⟨w.heap.size, 1, none⟩) (by simp)).trans (by simp [go_sem]; rfl); have c1_2 := (hb1.cell (p := ⟨w.heap.size, 2, none⟩) (by simp)).trans (by simp [go_sem]; rfl); have c1_3 := (hb1.cell (p := ⟨w.heap.size, 3, none⟩) (by simp)).trans (by simp [go_sem]; rfl); have c1_4 := (hb1.cell (p := ⟨w.heap.size, 4, none⟩) (by simp)).trans (by simp [go_sem]; rfl); have c1_5 := (hb1.cell (p := ⟨w.heap.size, 5, none⟩) (by simp)).trans (by simp [go_sem]; rfl); clear hb1) | (go_at_call 23; (with_reducible refine (HS.out _ B1.out).mono ?_); rintro e w2 ⟨a2, n2, c2', rfl, h2, hb2⟩; have HO2 := Lib.hid (Rd.of_owns encE_len (by decide) h2); have HX2 := Lib.hid (HX1.out.ext hb2); clear h2; have B2 := Lib.hid (Below.then B1.out hb2); have z2 : w.heap.size < w2.heap.size := Nat.lt_of_lt_of_le z1 hb2.size; have c2_0 := (hb2.cell (p := ⟨w.heap.size, 0, none⟩) z1).trans c1_0; have c2_1 := (hb2.cell (p := ⟨w.heap.size, 1, none⟩) z1).trans c1_1; have c2_2 := (hb2.cell (p := ⟨w.heap.size, 2, none⟩) z1).trans c1_2; have c2_3 := (hb2.cell (p := ⟨w.heap.size, 3, none⟩) z1).trans c1_3; have c2_4 := (hb2.cell (p := ⟨w.heap.size, 4, none⟩) z1).trans c1_4; have c2_5 := (hb2.cell (p := ⟨w.heap.size, 5, none⟩) z1).trans c1_5; clear hb2 c1_0 c1_1 c1_2 c1_3 c1_4 c1_5))
    obtain ⟨WB, hWB⟩ : ∃ W : World, W = w2 := ⟨_, rfl⟩
    have HXB : Hid (RdE WB a3 eN X) := Lib.hid (by rw [hWB]; exact HX2.out)
    have HOB : Hid (Rd WB a2 n2 5 (o.map encE)) := Lib.hid (by rw [hWB]; exact HO2.out)
    have BB : Hid (Below w.heap.size w WB) := Lib.hid (by rw [hWB]; exact B2.out)
    rw [← hWB] at c2_0 c2_3 z2 ⊢
    clear hWB HX1 HX2 HO2 B1 B2 c2_1 c2_2 c2_4 c2_5 z1 HE HS
    obtain ⟨BS, hBS⟩ : ∃ n, WB.heap.size = n := ⟨_, rfl⟩
    have hwl : w.heap.size < BS := by rw [← hBS]; exact z2
    have HBS := Lib.hid hBS
    have HC0 := Lib.hid c2_0; have HC3 := Lib.hid c2_3
    clear z2 hBS
    go_wp2_with fail
    go_loopw [10, 11] (fun v10 v11 wr => ∃ (i : Nat) (ra : Option Addr) (rc : Nat) (q c : Nat → Nat), i ≤ m ∧ v10 = .slice ra i rc ∧ v11 = .int .i64 i ∧ GrU BS i tn wr ra rc q c ∧ Below BS WB wr) (fun _ v _ => m - (intOf v).toNat)
    case atStart => exact ⟨0, none, 0, fun _ => 0, fun _ => 0, Nat.zero_le _, rfl, rfl, GrU.nil _ _ _ _ _, Below.refl _ _⟩
    case round =>
      obtain ⟨i, ra, rc, q, c, hi, rfl, rfl, hU, hB⟩ := hrel
      have HU := Lib.hid hU; have HB := Lib.hid hB
      have b0 := (hB.cell (p := ⟨w.heap.size, 0, none⟩) hwl).trans c2_0
      have hBw : BS ≤ wr.heap.size := by rw [← HBS.out]; exact hB.size
      have hwz : w.heap.size < wr.heap.size := by omega
      obtain ⟨wo, hwo⟩ : ∃ wo : World, wo = wr := ⟨_, rfl⟩
      subst hwo
      by_cases hlt : i < m
      · have d1 : decide ((i : Int) ≤ (eN : Int)) = true := by simp; omega
        clear hU hB
        go_wp2_with fail
        go_loopw [12, 13] (fun v12 v13 wr => ∃ (j : Nat) (a' : Option Addr) (c' : Nat), j ≤ tn ∧ v12 = .slice a' j c' ∧ v13 = .int .i64 j ∧ wr.ownsRow wo.heap.size 5 1 (.slice a' j c') j ((List.replicate j (32 : Int)).flatMap encB) ∧ Below wo.heap.size wo wr) (fun _ v _ => tn - (intOf v).toNat)
        case atStart => exact ⟨0, none, 0, Nat.zero_le _, rfl, rfl, World.ownsRow_nil _ _ _ _, Below.refl _ _⟩
        case round =>
          obtain ⟨j, a', c', hj, rfl, rfl, hO, hB⟩ := hrel
          have HO := Lib.hid hO; have HB2 := Lib.hid hB
          have hzo := hB.size
          clear hO hB
          by_cases hjt : j < tn
          · go_wp2_with (at_builtin; refine wpList_push rfl _ _ _ rfl eB rfl HO.out rfl rfl (by intro u hu; simp at hu; rcases hu with rfl; rfl) (by omega) (by decide) (by omega) ?_; intro a1 c1 w1 hown1 hb1; have HO1 := Lib.hid hown1; have HB1 := Lib.hid hb1; clear hown1 hb1)
            go_roundw
            case rel => exact ⟨j + 1, hjt, a1, c1, ⟨rfl, rfl, rfl⟩, by simp, by rw [blank_snoc]; exact HO1.out, HB2.out.trans HB1.out⟩
            case measure => simp [intOf]; omega
          · obtain rfl : j = tn := by omega
            go_wp2_with (first
              | (at_builtin; refine wpList_push rfl _ _ _ rfl eB rfl HO.out rfl rfl (by intro u hu; simp at hu; rcases hu with rfl; rfl) (by omega) (by decide) (by omega) ?_; intro a1 c1 w1 hown1 hb1; obtain ⟨Q, rfl, hQ1, hQ2⟩ := owns_addr hown1 (by omega); have HO1 := Lib.hid hown1; have HB1 := Lib.hid (HB2.out.trans hb1); clear hown1 hb1)
              | (at_builtin; refine wpList_pushM (N := w1.heap.size) (v := .slice ra i rc) (by rfl) rfl _ _ _ rfl eR rfl (owns_ext HU.out.own HB1.out) rfl rfl (by intro u hu; simp at hu; rcases hu with rfl; rfl) (by omega) (by decide) (by have := HB1.out.size; omega) ?_; intro a4 c4 w4 hown4 hg4; have HO4 := Lib.hid hown4; have HG4 := Lib.hid hg4; clear hown4 hg4))
            go_roundw
            case rel =>
              have hpush := HU.out.push HB1.out hBw (by rw [blank_end]; exact HO1.out) HO4.out HG4.out
              have hz1 := HB1.out.size
              exact ⟨i + 1, _, _, _, _, hlt, rfl, by go_num, hpush, ((HB.out.trans (HB1.out.mono hBw)).alloc (by omega) _).grown HG4.out (by simp; omega) (fun q hq => (HU.out.own.lt q hq).1)⟩
            case measure => simp [intOf]; omega
      · obtain rfl : i = m := by omega
        have d1 : decide ((i : Int) ≤ (eN : Int)) = false := by simp; omega
        obtain ⟨E, rfl, hE1, hE2⟩ := owns_addr hU.own (by omega)
        have HG := Lib.hid (hU.done (by omega))
        clear hU hB HU
        obtain ⟨k, hk⟩ : ∃ k, i = k := ⟨_, rfl⟩
        subst hk
        go_upto_region 15 with fail
        clear c2_0 c2_3 b0 hlt d1 hwz
        go_wp2_with fail
        go_loopw [14] (fun v wr => ∃ (y : Nat) (G : Nat → List Int), y ≤ eN ∧ v = .int .i64 y ∧ gAll R X tn (eN - y) y G = G1 ∧ GrB BS E i i (tn + 1) wr q c G ∧ Below BS WB wr) (fun v _ => eN - (intOf v).toNat)
        case atStart => exact ⟨0, _, Nat.zero_le _, rfl, HG1.out, HG.out, HB.out⟩
        case round =>
          clear HG HB
          obtain ⟨y, G, hy, rfl, hA, hG, hB⟩ := hrel
          have HG := Lib.hid hG; have HB := Lib.hid hB
          have b0 := (hB.cell (p := ⟨w.heap.size, 0, none⟩) hwl).trans HC0.out
          have hEw : BS ≤ wr.heap.size := by have := hG.ez; omega
          have hwz : w.heap.size < wr.heap.size := by omega
          by_cases hlt : y < eN
          · rw [show eN - y = (eN - (y + 1)) + 1 by omega, gAll] at hA
            obtain ⟨eb, eo, ea, en, ec, rfl, heb, hec, hRd⟩ := HR.out.e.at_ y hlt
            have hlen : (evA R y).length = en := hRd.length
            rw [hlen] at hA
            obtain ⟨GA, hGA⟩ : ∃ g, gRow R X tn y en 0 G = g := ⟨_, rfl⟩
            rw [hGA] at hA
            have HA := Lib.hid hA
            have HGA : Hid (gRow R X tn y (en - 0) 0 G = GA) := Lib.hid hGA
            have HRd := Lib.hid hRd; have HLEN := Lib.hid hlen
            have hens := hRd.small
            have hie : y < i := by omega
            have HEC : Hid (∀ wz, Below BS WB wz → wz.cell? ⟨eb, eo + y, none⟩ = some (.slice ea en ec) ∧ eb < wz.heap.size) := Lib.hid (fun wz hz => by
              have h := BB.out.trans (hz.mono (by omega))
              exact ⟨(h.cell (p := ⟨eb, eo + y, none⟩) heb).trans hec, Nat.lt_of_lt_of_le heb h.size⟩)
            clear hG hB hA hGA hRd hlen hec
            go_wp2_with fail
            go_loopw [15] (fun v wr => ∃ (x : Nat) (G : Nat → List Int), x ≤ en ∧ v = .int .i64 x ∧ gRow R X tn y (en - x) x G = GA ∧ GrB BS E i i (tn + 1) wr q c G ∧ Below BS WB wr) (fun v _ => en - (intOf v).toNat)
            case atStart => exact ⟨0, _, Nat.zero_le _, rfl, HGA.out, HG.out, HB.out⟩
            case round =>
              clear HG HB HGA
              obtain ⟨x, G, hx, rfl, hA2, hG, hB⟩ := hrel
              have HG := Lib.hid hG; have HB := Lib.hid hB
              have HBW := Lib.hid (BB.out.trans (hB.mono (by omega)))
              have b3 := (hB.cell (p := ⟨w.heap.size, 3, none⟩) hwl).trans HC3.out
              obtain ⟨hec, hez⟩ := HEC.out _ hB
              have hEw : BS ≤ wr.heap.size := by have := hG.ez; omega
              have hwz : w.heap.size < wr.heap.size := by omega
              by_cases hxl : x < en
              · rw [show en - x = (en - (x + 1)) + 1 by omega, gRow] at hA2
                obtain ⟨e0, e1, vb, vo, rfl, hvb, g0, g1, hg, -⟩ := (HRd.out.ext HBW.out).pc_at' x hxl
                have hiL : y < R.L.length := by rw [HNL.out]; exact hlt
                have hel := HRN.out.el (evAt R.ev y) (by unfold evAt; rw [List.getElem?_eq_getElem (by rw [HRN.out.ev]; exact hiL)]; exact List.getElem_mem _)
                have heb2 := hel.2 _ (List.mem_of_getElem? hg)
                simp only [] at heb2
                have hev : evS R y x = (e0 + e1).toNat := by
                  have : (evA R y)[x]? = some (e0, e1) := hg
                  unfold evS; rw [this]; rfl
                rw [hev] at hA2
                obtain ⟨sx, hsx⟩ := Int.eq_ofNat_of_zero_le (show 0 ≤ e0 + e1 by omega)
                rw [hsx, Int.toNat_natCast] at hA2
                have wadd : IntKind.i64.wrap (e0 + e1) = (sx : Int) := by rw [IntWalk.i64_in _ (by omega)]; exact hsx
                have hXx : x < (X y).length := by rw [HXL.out, HLEN.out]; exact hxl
                obtain ⟨z, hz⟩ : ∃ z, xAt X y x = z := ⟨_, rfl⟩
                have HXC : Hid (∀ wz, Below BS WB wz → ∃ (ab ao xb xo xn xc : Nat), a3 = some ⟨ab, ao, none⟩ ∧ wz.cell? ⟨ab, ao + y, none⟩ = some (.slice (some ⟨xb, xo, none⟩) xn xc) ∧ x < xn ∧ wz.cell? ⟨xb, xo + x, none⟩ = some (.int .i64 z) ∧ ab < wz.heap.size ∧ xb < wz.heap.size) := Lib.hid (fun wz hwz => by
                  obtain ⟨ab, ao, xb, xo, xn, xc, h1, h2, h3, h4, h5, h6⟩ := (HXB.out.ext (by rw [HBS.out]; exact hwz)).xat hlt hXx
                  rw [hz] at h6
                  exact ⟨ab, ao, xb, xo, xn, xc, h1, h3, by omega, h6, h2, h5⟩)
                rw [hz] at hA2
                obtain ⟨GB, hGB⟩ : ∃ g, gDot y z (tn - sx) sx G = g := ⟨_, rfl⟩
                rw [hGB] at hA2
                have HA2 := Lib.hid hA2
                have HGB : Hid (gDot y z (tn - sx) sx G = GB) := Lib.hid hGB
                clear hG hB hA2 hGB hel heb2 hev hg hz hsx hXx
                go_wp2_with (refine wp_region_later_lit (by kernel_rfl) (by kernel_rfl) ?_; (repeat (go_big_quiet_step (fail))); refine wpQuiet_nil ?_; intro w5 hb5)
                have HB5 := Lib.hid hb5
                clear hb5
                go_wp2_with fail
                go_loopw [16] (fun v wr => ∃ (a : Nat) (G : Nat → List Int), v = .int .i64 a ∧ gDot y z (tn - a) a G = GB ∧ GrB BS E i i (tn + 1) wr q c G ∧ Below BS WB wr) (fun v _ => tn - (intOf v).toNat)
                case atStart => exact ⟨sx, _, rfl, HGB.out, HG.out.ext HB5.out, HB.out.trans (HB5.out.mono hEw)⟩
                case round =>
                  clear HG HB HGB HBW HB5 b0 b3 hec hez hEw hwz
                  obtain ⟨a, G, rfl, hA3, hG, hB⟩ := hrel
                  have HG := Lib.hid hG; have HB := Lib.hid hB
                  have hEw : BS ≤ wr.heap.size := by have := hG.ez; omega
                  obtain ⟨ab, ao, xb, xo, xn, xc, rfl, hac, hxn, hxc, habz, hxbz⟩ := HXC.out _ hB
                  by_cases hat : a < tn
                  · have d1 : decide ((a : Int) < (tn : Int)) = true := by simp; omega
                    rw [show tn - a = (tn - (a + 1)) + 1 by omega, gDot] at hA3
                    by_cases hzz : z < 0 ∨ (a : Int) < z
                    · rw [if_pos hzz] at hA3
                      have HA3 := Lib.hid hA3
                      have y1 := hG.be y hie
                      have hla : a < (G y).length := by rw [hG.len y hie]; omega
                      have y2 := hG.ce y hie a _ (List.getElem?_eq_getElem hla)
                      have y3 := hG.fz y hie a (by omega)
                      have hqE := (hG.qb y hie).1
                      obtain ⟨qi, hqi⟩ : ∃ x, q y = x := ⟨_, rfl⟩
                      obtain ⟨ci, hci⟩ : ∃ x, c y = x := ⟨_, rfl⟩
                      obtain ⟨old, hold⟩ : ∃ x, (G y)[a] = x := ⟨_, rfl⟩
                      rw [hqi, hci] at y1
                      rw [hqi, hold] at y2
                      rw [hqi] at y3 hqE
                      have HQI := Lib.hid hqi
                      have ht1 : (a : Int) ≤ 2000 := by omega
                      clear hG hB hA3 hqi hci hold hla
                      by_cases z0 : z < 0
                      · have d2 : decide (z < 0) = true := by simpa using z0
                        clear hzz
                        go_wp2_with fail
                        go_roundw
                        case rel => exact ⟨a + 1, _, by go_num, HA3.out, by rw [← HQI.out]; exact HG.out.set hie 46, HB.out.setCell (p := ⟨qi, a, none⟩) hqE _⟩
                        case measure => simp [intOf]; omega
                      · have d2 : decide (z < 0) = false := by simpa using z0
                        have d3 : decide ((a : Int) < z) = true := by simpa using hzz.resolve_left z0
                        clear hzz
                        go_wp2_with fail
                        go_roundw
                        case rel => exact ⟨a + 1, _, by go_num, HA3.out, by rw [← HQI.out]; exact HG.out.set hie 46, HB.out.setCell (p := ⟨qi, a, none⟩) hqE _⟩
                        case measure => simp [intOf]; omega
                    · rw [if_neg hzz] at hA3
                      subst hA3
                      have d2 : decide (z < 0) = false := by simpa using fun h => hzz (.inl h)
                      have d3 : decide ((a : Int) < z) = false := by simpa using fun h => hzz (.inr h)
                      clear hG hB hzz
                      go_wp2_with fail
                      go_roundw
                      case rel => exact ⟨x + 1, G, hxl, by go_num, HA2.out, HG.out, HB.out⟩
                      case measure => simp [intOf]; omega
                  · have d1 : decide ((a : Int) < (tn : Int)) = false := by simp; omega
                    rw [show tn - a = 0 by omega, gDot] at hA3
                    subst hA3
                    clear hG hB
                    go_wp2_with fail
                    go_roundw
                    case rel => exact ⟨x + 1, G, hxl, by go_num, HA2.out, HG.out, HB.out⟩
                    case measure => simp [intOf]; omega
              · have hx0 : en - x = 0 := by omega
                rw [hx0, gRow] at hA2
                subst hA2
                clear hG hB hx0
                go_wp2_with fail
                go_roundw
                case rel => exact ⟨y + 1, G, hlt, by go_num, HA.out, HG.out, HB.out⟩
                case measure => simp [intOf]; omega
          · have hy0 : eN - y = 0 := by omega
            rw [hy0, gAll] at hA
            subst hA
            clear hG hB hy0
            have HN2 : Hid (o.length = n2) := Lib.hid (HOB.out.length)
            have HF0 : Hid ((o.drop 0).foldl (gEnt eN) G = G2) := Lib.hid HG2.out
            have hn2 : n2 ≤ 504000 := by rw [← HN2.out]; exact HOL.out
            go_upto_region 25 with fail
            clear b0
            go_wp2_with fail
            go_loopw [17] (fun v wr => ∃ (j : Nat) (G : Nat → List Int), j ≤ n2 ∧ v = .int .i64 j ∧ (o.drop j).foldl (gEnt eN) G = G2 ∧ GrB BS E i i (tn + 1) wr q c G ∧ Below BS WB wr) (fun v _ => n2 - (intOf v).toNat)
            case atStart => exact ⟨0, G, Nat.zero_le _, rfl, HF0.out, HG.out, HB.out⟩
            case round =>
              clear HG HB HF0 hEw hwz
              obtain ⟨j, G, hj, rfl, hF, hG, hB⟩ := hrel
              have HG := Lib.hid hG; have HB := Lib.hid hB
              by_cases hjn : j < n2
              · obtain ⟨e, eb, eo, rfl, heb0, hx, p0, p1, p2, p3, p4⟩ := HOB.out.en_at j hjn
                have hWB : Below WB.heap.size WB wr := by rw [HBS.out]; exact hB
                have heb := Nat.lt_of_lt_of_le heb0 hWB.size
                replace p0 := keep_c hWB p0
                replace p1 := keep_c hWB p1
                replace p2 := keep_c hWB p2
                replace p3 := keep_c hWB p3
                replace p4 := keep_c hWB p4
                rw [HBS.out] at heb0
                have hem := List.mem_of_getElem? hx
                have hd : o.drop j = e :: o.drop (j + 1) := by obtain ⟨h1, h2⟩ := List.getElem?_eq_some_iff.1 hx; rw [List.drop_eq_getElem_cons h1, h2]
                rw [hd, List.foldl_cons] at hF
                have b0 := (hB.cell (p := ⟨w.heap.size, 0, none⟩) hwl).trans HC0.out
                have hEw : BS ≤ wr.heap.size := by have := hG.ez; omega
                have hwz2 : w.heap.size < wr.heap.size := by omega
                obtain ⟨em, ek, ew, ea2, eb2⟩ := e
                simp only [] at p0 p1 p2 p3 p4
                by_cases h4 : ew = 4
                · subst h4
                  obtain ⟨y, hik, hil⟩ := HOK4.out _ hem rfl
                  have hmm := HOM.out _ hem (.inr rfl)
                  simp only [] at hik hmm
                  subst hik
                  obtain ⟨mm, rfl⟩ := Int.eq_ofNat_of_zero_le hmm.1
                  have hie : y < i := by omega
                  have hmt : mm < tn := by omega
                  have hF2 : (o.drop (j + 1)).foldl (gEnt eN) (gSet G y mm 35) = G2 := hF
                  have HF := Lib.hid hF2
                  have y1 := hG.be y hie
                  have hla : mm < (G y).length := by rw [hG.len y hie]; omega
                  have y2 := hG.ce y hie mm _ (List.getElem?_eq_getElem hla)
                  have y3 := hG.fz y hie mm (by omega)
                  have hqE := (hG.qb y hie).1
                  have hqz := (hG.qb y hie).2.1
                  have hEz2 := hG.ez.2
                  obtain ⟨qi, hqi⟩ : ∃ x, q y = x := ⟨_, rfl⟩
                  obtain ⟨ci, hci⟩ : ∃ x, c y = x := ⟨_, rfl⟩
                  obtain ⟨old, hold⟩ : ∃ x, (G y)[mm] = x := ⟨_, rfl⟩
                  rw [hqi, hci] at y1
                  rw [hqi, hold] at y2
                  rw [hqi] at y3 hqE hqz
                  have HQI := Lib.hid hqi
                  have hne : qi ≠ eb := by omega
                  clear hG hB hWB hF hF2 hx hem hd hqi hci hold hla hmm
                  go_upto_region 29 with fail
                  go_region
                  all_goals
                    go_wp2_with fail
                    go_roundw
                    case rel =>
                      have hs : GrB BS E i i (tn + 1) (wr.setCell ⟨qi, mm, none⟩ (.int .u8 35)) q c (gSet G y mm 35) := by rw [← HQI.out]; exact HG.out.set hie 35
                      exact ⟨j + 1, _, hjn, by go_num, HF.out, hs.ext (Below.refl _ _).drew, (HB.out.setCell (p := ⟨qi, mm, none⟩) hqE _).drew⟩
                    case measure => simp [intOf]; omega
                · by_cases h3 : ew = 3
                  · subst h3
                    have hmm := HOM.out _ hem (.inl rfl)
                    simp only [] at hmm
                    obtain ⟨mm, rfl⟩ := Int.eq_ofNat_of_zero_le hmm.1
                    have hie : eN < i := by omega
                    have hmt : mm < tn := by omega
                    have hF2 : (o.drop (j + 1)).foldl (gEnt eN) (gSet G eN mm 71) = G2 := hF
                    have HF := Lib.hid hF2
                    have y1 := hG.be eN hie
                    have hla : mm < (G eN).length := by rw [hG.len eN hie]; omega
                    have y2 := hG.ce eN hie mm _ (List.getElem?_eq_getElem hla)
                    have y3 := hG.fz eN hie mm (by omega)
                    have hqE := (hG.qb eN hie).1
                    have hqz := (hG.qb eN hie).2.1
                    have hEz2 := hG.ez.2
                    obtain ⟨qi, hqi⟩ : ∃ x, q eN = x := ⟨_, rfl⟩
                    obtain ⟨ci, hci⟩ : ∃ x, c eN = x := ⟨_, rfl⟩
                    obtain ⟨old, hold⟩ : ∃ x, (G eN)[mm] = x := ⟨_, rfl⟩
                    rw [hqi, hci] at y1
                    rw [hqi, hold] at y2
                    rw [hqi] at y3 hqE hqz
                    have HQI := Lib.hid hqi
                    have hne : qi ≠ eb := by omega
                    clear hG hB hWB hF hF2 hx hem hd hqi hci hold hla hmm
                    go_upto_region 31 with fail
                    go_region
                    all_goals
                      go_wp2_with fail
                      go_roundw
                      case rel =>
                        have hs : GrB BS E i i (tn + 1) (wr.setCell ⟨qi, mm, none⟩ (.int .u8 71)) q c (gSet G eN mm 71) := by rw [← HQI.out]; exact HG.out.set hie 71
                        exact ⟨j + 1, _, hjn, by go_num, HF.out, hs.ext (Below.refl _ _).drew, (HB.out.setCell (p := ⟨qi, mm, none⟩) hqE _).drew⟩
                      case measure => simp [intOf]; omega
                  · have h4' : (ew == 4) = false := by simpa using h4
                    have h3' : (ew == 3) = false := by simpa using h3
                    have hF2 : (o.drop (j + 1)).foldl (gEnt eN) G = G2 := by
                      have e : gEnt eN G ⟨em, ek, ew, ea2, eb2⟩ = G := by unfold gEnt; rw [if_neg h4, if_neg h3]
                      rw [e] at hF; exact hF
                    have HF := Lib.hid hF2
                    clear hG hB hWB hF hF2 hx hem hd h4 h3
                    go_wp2_with fail
                    go_roundw
                    case rel => exact ⟨j + 1, G, hjn, by go_num, HF.out, HG.out, HB.out⟩
                    case measure => simp [intOf]; omega
              · obtain rfl : j = n2 := by omega
                rw [List.drop_of_length_le (by rw [HN2.out]; exact Nat.le_refl _), List.foldl_nil] at hF
                subst hF
                have HBW := Lib.hid (BB.out.trans (hB.mono (by omega)))
                clear hG hB hjn hj
                have HSA := Lib.hid (nums_append)
                obtain ⟨wo, hwo⟩ : ∃ wo : World, wo = wr := ⟨_, rfl⟩
                subst hwo
                go_wp2_with fail
                go_loopw [18, 19] (fun v18 v19 wr => ∃ (y : Nat) (sx : ByteArray), y ≤ i ∧ v18 = .string sx ∧ v19 = .int .i64 y ∧ sx = strOfNums (gTxt y G) ∧ wo = wr) (fun _ v _ => i - (intOf v).toNat)
                case atStart => exact ⟨0, _, Nat.zero_le _, rfl, rfl, rfl, rfl⟩
                case round =>
                  obtain ⟨y, sx, hy, rfl, rfl, hsx, rfl⟩ := hrel
                  have HSX := Lib.hid hsx
                  clear hsx
                  by_cases hyi : y < i
                  · have y1 := HG.out.be y hyi
                    have hEz3 := HG.out.ez.2
                    have hcs := conv_text (c := c y) (HG.out.rd hyi (by omega)) (by omega)
                    obtain ⟨qi, hqi⟩ : ∃ x, q y = x := ⟨_, rfl⟩
                    obtain ⟨ci, hci⟩ : ∃ x, c y = x := ⟨_, rfl⟩
                    obtain ⟨tx, htx⟩ : ∃ x, strOfNums (G y) = x := ⟨_, rfl⟩
                    rw [hqi, hci] at y1
                    rw [hqi, hci, htx] at hcs
                    have HTX := Lib.hid htx
                    have hns : ¬ 9223372036854775807 < sx.size + tx.size := by
                      rw [HSX.out, ← htx, strOfNums_size, strOfNums_size, HG.out.len y hyi, gTxt_len y (fun v hv => HG.out.len v (by omega))]
                      have : y * (tn + 1) ≤ 6 * 2001 := Nat.mul_le_mul (by omega) (by omega)
                      omega
                    clear hqi hci htx
                    go_wp2_with fail
                    go_roundw
                    case rel => exact ⟨y + 1, _, hyi, rfl, by go_num, by rw [HSX.out, ← HTX.out, gTxt_succ, nums_append], trivial⟩
                    case measure => simp [intOf]; omega
                  · obtain rfl : y = i := by omega
                    go_wp2_with fail
                    go_ret2
                    have he := HSX.out
                    subst he
                    exact ⟨rfl, HBW.out⟩
end Go.Proofs.YtlhnhmimhpcoaaaGreat
namespace Go.Proofs.YtlhnhmimhpcoaaaGreat
open Go.RowKit
set_option linter.unusedSimpArgs false
set_option linter.unusedVariables false
set_option maxRecDepth 100000 in
set_option maxHeartbeats 4000000 in
theorem draws_walk {w : World} (H : RunH) (R : Rn) (hR : ReadRun w H R) (hS : RunS H R) (t : Int) (ht : -9223372036854775808 ≤ t ∧ t ≤ 9223372036854775807) :
    Calls Tryz.prog 3 #[runV H R.fr R.sl, .int .i64 t] w fun e w' => e = .returned (.bool true) ∧ Below w.heap.size w w' := by
  have HH := Lib.hid (fun w1 (hb : Below w.heap.size w w1) => heavy_any H R w1 (hR.ext hb) hS)
  have HP := Lib.hid (fun w1 (hb : Below w.heap.size w w1) => Gantt_any H R t w1 (hR.ext hb))
  have HQ := Lib.hid (fun w1 (hb : Below w.heap.size w w1) => rGantt_any H R t w1 (hR.ext hb))
  have HAS := Lib.hid (as_any H R.fr R.sl)
  obtain ⟨B, hB⟩ : ∃ B, heavyB R = B := ⟨_, rfl⟩
  rw [hB] at HH
  obtain ⟨tx, htx⟩ : ∃ x, strOfNums (ganttR R t).1 = x := ⟨_, rfl⟩
  obtain ⟨er, her⟩ : ∃ x, (ganttR R t).2 = x := ⟨_, rfl⟩
  rw [htx, her] at HP HQ
  obtain ⟨fr, hfr⟩ : ∃ x, R.fr = x := ⟨_, rfl⟩
  obtain ⟨sl_, hsl⟩ : ∃ x, R.sl = x := ⟨_, rfl⟩
  rw [hfr, hsl] at HH HP HQ HAS ⊢
  obtain ⟨tA, tN, tC, eA, eN, eC, bA, bN, bC, sA, sN, sC⟩ := H
  unfold runV at HH HP HQ HAS ⊢
  simp only [] at HH HP HQ HAS ⊢
  clear hR hS hB hfr hsl htx her
  cases B
  · by_cases q1 : 300 < t
    · have d1 : decide (300 < t) = true := by simpa using q1
      by_cases q2 : t ≤ 2000
      · have d2 : decide (t ≤ 2000) = true := by simpa using q2
        go_enter Tryz.func3, Tryz.ntmps3
        go_wp2_with (first | (go_at_call 6; (with_reducible refine (HH.out _ (by (repeat' (first | (with_reducible exact Below.refl _ _) | (with_reducible assumption) | (with_reducible refine Below.alloc ?_ ?_ _) | (with_reducible refine Below.drew ?_) | (with_reducible refine Below.draws ?_ _) | (with_reducible refine Below.setCell ?_ ?_ _) | (refine Below.then ?_ (by with_reducible assumption)) | go_size)))).mono ?_); rintro e w1 ⟨rfl, hb1⟩; have B1 : Hid (Below w.heap.size w w1) := Lib.hid (Below.trans (by (repeat' (first | (with_reducible exact Below.refl _ _) | (with_reducible assumption) | (with_reducible refine Below.alloc ?_ ?_ _) | (with_reducible refine Below.drew ?_) | (with_reducible refine Below.draws ?_ _) | (with_reducible refine Below.setCell ?_ ?_ _) | (refine Below.then ?_ (by with_reducible assumption)) | go_size))) (hb1.mono (by simp))); have z1 : w.heap.size < w1.heap.size := Nat.lt_of_lt_of_le (by simp) hb1.size; have c1_0 := (hb1.cell (p := ⟨w.heap.size, 0, none⟩) (by simp)).trans (by simp [go_sem]; rfl); have c1_1 := (hb1.cell (p := ⟨w.heap.size, 1, none⟩) (by simp)).trans (by simp [go_sem]; rfl); have c1_2 := (hb1.cell (p := ⟨w.heap.size, 2, none⟩) (by simp)).trans (by simp [go_sem]; rfl); have c1_3 := (hb1.cell (p := ⟨w.heap.size, 3, none⟩) (by simp)).trans (by simp [go_sem]; rfl); have c1_4 := (hb1.cell (p := ⟨w.heap.size, 4, none⟩) (by simp)).trans (by simp [go_sem]; rfl); have c1_5 := (hb1.cell (p := ⟨w.heap.size, 5, none⟩) (by simp)).trans (by simp [go_sem]; rfl); clear hb1) | (go_at_call 7; (with_reducible refine (sane_any _).mono ?_); rintro e w9 ⟨rfl, hb9⟩))
        go_ret
        exact ⟨rfl, Below.then B1.out hb9⟩
      · have d2 : decide (t ≤ 2000) = false := by simpa using q2
        go_enter Tryz.func3, Tryz.ntmps3
        go_wp2_with (first | (go_at_call 6; (with_reducible refine (HH.out _ (by (repeat' (first | (with_reducible exact Below.refl _ _) | (with_reducible assumption) | (with_reducible refine Below.alloc ?_ ?_ _) | (with_reducible refine Below.drew ?_) | (with_reducible refine Below.draws ?_ _) | (with_reducible refine Below.setCell ?_ ?_ _) | (refine Below.then ?_ (by with_reducible assumption)) | go_size)))).mono ?_); rintro e w1 ⟨rfl, hb1⟩; have B1 : Hid (Below w.heap.size w w1) := Lib.hid (Below.trans (by (repeat' (first | (with_reducible exact Below.refl _ _) | (with_reducible assumption) | (with_reducible refine Below.alloc ?_ ?_ _) | (with_reducible refine Below.drew ?_) | (with_reducible refine Below.draws ?_ _) | (with_reducible refine Below.setCell ?_ ?_ _) | (refine Below.then ?_ (by with_reducible assumption)) | go_size))) (hb1.mono (by simp))); have z1 : w.heap.size < w1.heap.size := Nat.lt_of_lt_of_le (by simp) hb1.size; have c1_0 := (hb1.cell (p := ⟨w.heap.size, 0, none⟩) (by simp)).trans (by simp [go_sem]; rfl); have c1_1 := (hb1.cell (p := ⟨w.heap.size, 1, none⟩) (by simp)).trans (by simp [go_sem]; rfl); have c1_2 := (hb1.cell (p := ⟨w.heap.size, 2, none⟩) (by simp)).trans (by simp [go_sem]; rfl); have c1_3 := (hb1.cell (p := ⟨w.heap.size, 3, none⟩) (by simp)).trans (by simp [go_sem]; rfl); have c1_4 := (hb1.cell (p := ⟨w.heap.size, 4, none⟩) (by simp)).trans (by simp [go_sem]; rfl); have c1_5 := (hb1.cell (p := ⟨w.heap.size, 5, none⟩) (by simp)).trans (by simp [go_sem]; rfl); clear hb1) | (go_at_call 9; (with_reducible refine (HQ.out _ B3.out).mono ?_); rintro e w4 ⟨rfl, hb4⟩; have B4 := Lib.hid (Below.then B3.out hb4); have z4 : w.heap.size < w4.heap.size := Nat.lt_of_lt_of_le z3 hb4.size; have c4_0 := (hb4.cell (p := ⟨w.heap.size, 0, none⟩) z3).trans c3_0; have c4_1 := (hb4.cell (p := ⟨w.heap.size, 1, none⟩) z3).trans c3_1; have c4_2 := (hb4.cell (p := ⟨w.heap.size, 2, none⟩) z3).trans c3_2; have c4_3 := (hb4.cell (p := ⟨w.heap.size, 3, none⟩) z3).trans c3_3; have c4_4 := (hb4.cell (p := ⟨w.heap.size, 4, none⟩) z3).trans c3_4; have c4_5 := (hb4.cell (p := ⟨w.heap.size, 5, none⟩) z3).trans c3_5; clear hb4 c3_0 c3_1 c3_2 c3_3 c3_4 c3_5) | (go_at_call 10; (with_reducible refine (HAS.out _).mono ?_); rintro e w3 ⟨rfl, hb3⟩; have B3 := Lib.hid (Below.then B2.out hb3); have z3 : w.heap.size < w3.heap.size := Nat.lt_of_lt_of_le z2 hb3.size; have c3_0 := (hb3.cell (p := ⟨w.heap.size, 0, none⟩) z2).trans c2_0; have c3_1 := (hb3.cell (p := ⟨w.heap.size, 1, none⟩) z2).trans c2_1; have c3_2 := (hb3.cell (p := ⟨w.heap.size, 2, none⟩) z2).trans c2_2; have c3_3 := (hb3.cell (p := ⟨w.heap.size, 3, none⟩) z2).trans c2_3; have c3_4 := (hb3.cell (p := ⟨w.heap.size, 4, none⟩) z2).trans c2_4; have c3_5 := (hb3.cell (p := ⟨w.heap.size, 5, none⟩) z2).trans c2_5; clear hb3 c2_0 c2_1 c2_2 c2_3 c2_4 c2_5) | (go_at_call 8; (with_reducible refine (HP.out _ B1.out).mono ?_); rintro e w2 ⟨rfl, hb2⟩; have B2 := Lib.hid (Below.then B1.out hb2); have z2 : w.heap.size < w2.heap.size := Nat.lt_of_lt_of_le z1 hb2.size; have c2_0 := (hb2.cell (p := ⟨w.heap.size, 0, none⟩) z1).trans c1_0; have c2_1 := (hb2.cell (p := ⟨w.heap.size, 1, none⟩) z1).trans c1_1; have c2_2 := (hb2.cell (p := ⟨w.heap.size, 2, none⟩) z1).trans c1_2; have c2_3 := (hb2.cell (p := ⟨w.heap.size, 3, none⟩) z1).trans c1_3; have c2_4 := (hb2.cell (p := ⟨w.heap.size, 4, none⟩) z1).trans c1_4; have c2_5 := (hb2.cell (p := ⟨w.heap.size, 5, none⟩) z1).trans c1_5; clear hb2 c1_0 c1_1 c1_2 c1_3 c1_4 c1_5) | (go_at_call 7; (with_reducible refine (sane_any _).mono ?_); rintro e w9 ⟨rfl, hb9⟩))
        go_ret
        exact ⟨rfl, Below.then B4.out hb9⟩
    · have d1 : decide (300 < t) = false := by simpa using q1
      go_enter Tryz.func3, Tryz.ntmps3
      go_wp2_with (first | (go_at_call 6; (with_reducible refine (HH.out _ (by (repeat' (first | (with_reducible exact Below.refl _ _) | (with_reducible assumption) | (with_reducible refine Below.alloc ?_ ?_ _) | (with_reducible refine Below.drew ?_) | (with_reducible refine Below.draws ?_ _) | (with_reducible refine Below.setCell ?_ ?_ _) | (refine Below.then ?_ (by with_reducible assumption)) | go_size)))).mono ?_); rintro e w1 ⟨rfl, hb1⟩; have B1 : Hid (Below w.heap.size w w1) := Lib.hid (Below.trans (by (repeat' (first | (with_reducible exact Below.refl _ _) | (with_reducible assumption) | (with_reducible refine Below.alloc ?_ ?_ _) | (with_reducible refine Below.drew ?_) | (with_reducible refine Below.draws ?_ _) | (with_reducible refine Below.setCell ?_ ?_ _) | (refine Below.then ?_ (by with_reducible assumption)) | go_size))) (hb1.mono (by simp))); have z1 : w.heap.size < w1.heap.size := Nat.lt_of_lt_of_le (by simp) hb1.size; have c1_0 := (hb1.cell (p := ⟨w.heap.size, 0, none⟩) (by simp)).trans (by simp [go_sem]; rfl); have c1_1 := (hb1.cell (p := ⟨w.heap.size, 1, none⟩) (by simp)).trans (by simp [go_sem]; rfl); have c1_2 := (hb1.cell (p := ⟨w.heap.size, 2, none⟩) (by simp)).trans (by simp [go_sem]; rfl); have c1_3 := (hb1.cell (p := ⟨w.heap.size, 3, none⟩) (by simp)).trans (by simp [go_sem]; rfl); have c1_4 := (hb1.cell (p := ⟨w.heap.size, 4, none⟩) (by simp)).trans (by simp [go_sem]; rfl); have c1_5 := (hb1.cell (p := ⟨w.heap.size, 5, none⟩) (by simp)).trans (by simp [go_sem]; rfl); clear hb1) | (go_at_call 9; (with_reducible refine (HQ.out _ B3.out).mono ?_); rintro e w4 ⟨rfl, hb4⟩; have B4 := Lib.hid (Below.then B3.out hb4); have z4 : w.heap.size < w4.heap.size := Nat.lt_of_lt_of_le z3 hb4.size; have c4_0 := (hb4.cell (p := ⟨w.heap.size, 0, none⟩) z3).trans c3_0; have c4_1 := (hb4.cell (p := ⟨w.heap.size, 1, none⟩) z3).trans c3_1; have c4_2 := (hb4.cell (p := ⟨w.heap.size, 2, none⟩) z3).trans c3_2; have c4_3 := (hb4.cell (p := ⟨w.heap.size, 3, none⟩) z3).trans c3_3; have c4_4 := (hb4.cell (p := ⟨w.heap.size, 4, none⟩) z3).trans c3_4; have c4_5 := (hb4.cell (p := ⟨w.heap.size, 5, none⟩) z3).trans c3_5; clear hb4 c3_0 c3_1 c3_2 c3_3 c3_4 c3_5) | (go_at_call 10; (with_reducible refine (HAS.out _).mono ?_); rintro e w3 ⟨rfl, hb3⟩; have B3 := Lib.hid (Below.then B2.out hb3); have z3 : w.heap.size < w3.heap.size := Nat.lt_of_lt_of_le z2 hb3.size; have c3_0 := (hb3.cell (p := ⟨w.heap.size, 0, none⟩) z2).trans c2_0; have c3_1 := (hb3.cell (p := ⟨w.heap.size, 1, none⟩) z2).trans c2_1; have c3_2 := (hb3.cell (p := ⟨w.heap.size, 2, none⟩) z2).trans c2_2; have c3_3 := (hb3.cell (p := ⟨w.heap.size, 3, none⟩) z2).trans c2_3; have c3_4 := (hb3.cell (p := ⟨w.heap.size, 4, none⟩) z2).trans c2_4; have c3_5 := (hb3.cell (p := ⟨w.heap.size, 5, none⟩) z2).trans c2_5; clear hb3 c2_0 c2_1 c2_2 c2_3 c2_4 c2_5) | (go_at_call 8; (with_reducible refine (HP.out _ B1.out).mono ?_); rintro e w2 ⟨rfl, hb2⟩; have B2 := Lib.hid (Below.then B1.out hb2); have z2 : w.heap.size < w2.heap.size := Nat.lt_of_lt_of_le z1 hb2.size; have c2_0 := (hb2.cell (p := ⟨w.heap.size, 0, none⟩) z1).trans c1_0; have c2_1 := (hb2.cell (p := ⟨w.heap.size, 1, none⟩) z1).trans c1_1; have c2_2 := (hb2.cell (p := ⟨w.heap.size, 2, none⟩) z1).trans c1_2; have c2_3 := (hb2.cell (p := ⟨w.heap.size, 3, none⟩) z1).trans c1_3; have c2_4 := (hb2.cell (p := ⟨w.heap.size, 4, none⟩) z1).trans c1_4; have c2_5 := (hb2.cell (p := ⟨w.heap.size, 5, none⟩) z1).trans c1_5; clear hb2 c1_0 c1_1 c1_2 c1_3 c1_4 c1_5) | (go_at_call 7; (with_reducible refine (sane_any _).mono ?_); rintro e w9 ⟨rfl, hb9⟩))
      go_ret
      exact ⟨rfl, Below.then B4.out hb9⟩
  · go_enter Tryz.func3, Tryz.ntmps3
    go_wp2_with (first | (go_at_call 6; (with_reducible refine (HH.out _ (by (repeat' (first | (with_reducible exact Below.refl _ _) | (with_reducible assumption) | (with_reducible refine Below.alloc ?_ ?_ _) | (with_reducible refine Below.drew ?_) | (with_reducible refine Below.draws ?_ _) | (with_reducible refine Below.setCell ?_ ?_ _) | (refine Below.then ?_ (by with_reducible assumption)) | go_size)))).mono ?_); rintro e w1 ⟨rfl, hb1⟩; have B1 : Hid (Below w.heap.size w w1) := Lib.hid (Below.trans (by (repeat' (first | (with_reducible exact Below.refl _ _) | (with_reducible assumption) | (with_reducible refine Below.alloc ?_ ?_ _) | (with_reducible refine Below.drew ?_) | (with_reducible refine Below.draws ?_ _) | (with_reducible refine Below.setCell ?_ ?_ _) | (refine Below.then ?_ (by with_reducible assumption)) | go_size))) (hb1.mono (by simp))); have z1 : w.heap.size < w1.heap.size := Nat.lt_of_lt_of_le (by simp) hb1.size; have c1_0 := (hb1.cell (p := ⟨w.heap.size, 0, none⟩) (by simp)).trans (by simp [go_sem]; rfl); have c1_1 := (hb1.cell (p := ⟨w.heap.size, 1, none⟩) (by simp)).trans (by simp [go_sem]; rfl); have c1_2 := (hb1.cell (p := ⟨w.heap.size, 2, none⟩) (by simp)).trans (by simp [go_sem]; rfl); have c1_3 := (hb1.cell (p := ⟨w.heap.size, 3, none⟩) (by simp)).trans (by simp [go_sem]; rfl); have c1_4 := (hb1.cell (p := ⟨w.heap.size, 4, none⟩) (by simp)).trans (by simp [go_sem]; rfl); have c1_5 := (hb1.cell (p := ⟨w.heap.size, 5, none⟩) (by simp)).trans (by simp [go_sem]; rfl); clear hb1) | (go_at_call 7; (with_reducible refine (sane_any _).mono ?_); rintro e w9 ⟨rfl, hb9⟩))
    go_ret
    exact ⟨rfl, Below.then B1.out hb9⟩
end Go.Proofs.YtlhnhmimhpcoaaaGreat
