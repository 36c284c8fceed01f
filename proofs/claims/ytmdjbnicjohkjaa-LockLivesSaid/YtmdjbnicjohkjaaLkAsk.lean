/- The contract of Ask of the program. The conditions: the graph reads as named. -/
import Derived.Test.YtmdjbnicjohkjaaLkAskP
import Derived.Test.YtmdjbnicjohkjaaLkIs
namespace Go.Proofs.Ytmdjbnicjohkjaa
open Go.RowKit
set_option linter.unusedSimpArgs false
set_option linter.unusedVariables false
def thAt (g : List Th) (k : Nat) : Th := (g[k]?).getD default
/-- what Ask gives -/
def askR (g : List Th) (t l : Int) : List Th × Bool × Int :=
  if isTh g t && inB l 0 5 then
    (if 0 ≤ (thAt g t.toNat).waits ∨ hasB (thAt g t.toNat).holds l = true then ([], false, 13)
     else if holderG g l < 0 then (g.set t.toNat ⟨(thAt g t.toNat).pri, insL (thAt g t.toNat).holds (cntLt (thAt g t.toNat).holds l) l, (thAt g t.toNat).waits⟩, true, 0)
     else if hasB (chainG g (holderG g l).toNat) t = true then ([], false, 10)
     else (g.set t.toNat ⟨(thAt g t.toNat).pri, (thAt g t.toNat).holds, l⟩, false, 0))
  else ([], false, 1)
def OutA (T B : Nat) (w : World) (g : List Th) (b : Bool) (x : Int) (e : Ending) (w' : World) : Prop :=
  ∃ a n c g', e = .returned (.tuple #[.slice a n c, .bool b, .int .i64 x]) ∧ OwnG T B w' a n c g' ∧ g'.map ThV.th = g ∧ Below B w w'
theorem OutA.none {T B : Nat} {w w' : World} {x : Int} (hb : Below B w w') : OutA T B w [] false x (.returned (.tuple #[.slice none 0 0, .bool false, .int .i64 x])) w' := ⟨_, _, _, [], rfl, ⟨World.ownsRow_nil _ _ _ _, by simp⟩, rfl, hb⟩
theorem OwnG.mono {T B B' : Nat} {w : World} {a : Option Addr} {n c : Nat} {g : List ThV} (h : OwnG T B w a n c g) (hB : B' ≤ B) : OwnG T B' w a n c g := ⟨owns_mono h.own hB, fun t ht => owns_mono (h.ok t ht) hB⟩
theorem mem_set {α : Type} {l : List α} {k : Nat} {x y : α} (h : y ∈ l.set k x) : y = x ∨ ∃ j, j ≠ k ∧ l[j]? = some y := by
  obtain ⟨j, hj, e⟩ := List.mem_iff_getElem.1 h
  have e2 : (l.set k x)[j]? = some y := by rw [List.getElem?_eq_getElem hj, e]
  rw [List.getElem?_set] at e2
  split at e2
  · split at e2
    · simp at e2; exact .inl e2.symm
    · simp at e2
  · rename_i q; exact .inr ⟨j, fun e => q e.symm, e2⟩
theorem blk_ne {g : List ThV} (h : BlkAp g) {i j : Nat} {t u : ThV} (ht : g[i]? = some t) (hu : g[j]? = some u) (hij : i ≠ j) : t.blk = none ∨ t.blk ≠ u.blk := by
  cases e : t.blk with
  | none => exact .inl rfl
  | some x =>
    right
    intro q
    rcases Nat.lt_or_gt_of_ne hij with hlt | hlt
    · exact pair_get h ht hu hlt x e (by rw [← q])
    · exact pair_get h hu ht hlt x (by rw [← q]) e
theorem map_set_th {g : List ThV} {k : Nat} {t : ThV} : (g.set k t).map ThV.th = (g.map ThV.th).set k t.th := List.map_set
/-- one thread of an own graph gets other locks -/
theorem hold_own {B b k n c : Nat} {w3 w4 : World} {g2 : List ThV} {t : ThV} {e : Ending} {xs : List Int} (hO : OwnG 52 B w3 (some ⟨b, 0, none⟩) n c g2) (hap : BlkAp g2) (hk : g2[k]? = some t)
    (h : HoldP B b (k * 3) w3 (.slice t.a t.n t.c) xs e w4) (hBb : B ≤ b) (hBw : B ≤ w3.heap.size) :
    ∃ t' : ThV, t'.th = ⟨t.pri, xs, t.waits⟩ ∧ OwnG 52 B w4 (some ⟨b, 0, none⟩) n c (g2.set k t') ∧ Below B w3 w4 := by
  obtain ⟨rfl, a', n', c', w1, hn, hg, rfl⟩ := h
  have ht := hO.ok t (List.mem_of_getElem? hk)
  have ho1 := owns_kept hO.own ht (by decide) hg
  have hs := ho1.stored (k * 3 + 1) (.slice a' n' c')
  rw [flat_setH _ k t _ _ _ xs hk] at hs
  refine ⟨⟨t.pri, a', n', c', t.waits, xs⟩, rfl, ⟨hs.1, fun u hu => ?_⟩, ?_⟩
  · rcases mem_set hu with rfl | ⟨j, hj, hju⟩
    · exact owns_kept (B := B) (show ThO B w1 ⟨t.pri, a', n', c', t.waits, xs⟩ from hn) ho1 (by decide) hs.2
    · have hu1 : ThO B w1 u := World.ownsRow.kept (hO.ok u (List.mem_of_getElem? hju)) hg (blk_ne hap hju hk hj)
      exact owns_kept hu1 ho1 (by decide) hs.2
  · refine Below.setCell (p := ⟨b, k * 3 + 1, none⟩) ((Below.refl B w3).grown hg hBw (fun j hj => (ThO.low ht j hj).1)) hBb _
theorem wait_own {T B b k n c : Nat} {w3 : World} {g2 : List ThV} {t : ThV} {x : Int} (hT : 3 ≠ T) (hO : OwnG T B w3 (some ⟨b, 0, none⟩) n c g2) (hk : g2[k]? = some t) (hBb : B ≤ b) (hBw : B ≤ w3.heap.size) :
    OwnG T B (w3.setCell ⟨b, k * 3 + 2, none⟩ (.int .i64 x)) (some ⟨b, 0, none⟩) n c (g2.set k ⟨t.pri, t.a, t.n, t.c, x, t.holds⟩) ∧ Below B w3 (w3.setCell ⟨b, k * 3 + 2, none⟩ (.int .i64 x)) := by
  have hs := hO.own.stored (k * 3 + 2) (.int .i64 x)
  rw [flat_setW _ k t _ hk] at hs
  refine ⟨⟨hs.1, fun u hu => ?_⟩, Below.setCell (p := ⟨b, k * 3 + 2, none⟩) (Below.refl B w3) hBb _⟩
  rcases mem_set hu with rfl | ⟨j, hj, hju⟩
  · exact owns_kept (show ThO B w3 ⟨t.pri, t.a, t.n, t.c, x, t.holds⟩ from hO.ok t (List.mem_of_getElem? hk)) hO.own hT hs.2
  · exact owns_kept (hO.ok u (List.mem_of_getElem? hju)) hO.own hT hs.2
section
variable {a : Option Addr} {n c : Nat} {g : List ThV} {w : World} {G : List Th} {t l : Int}
theorem isThread_is {b : Bool} (hG : RdG w a n g) (hg : g.map ThV.th = G) (h : isTh G t = b) : Calls Try.prog 48 #[.slice a n c, .int .i64 t] w fun e w' => e = .returned (.bool b) ∧ Below w.heap.size w w' := by subst hg; subst h; exact isThread_any a n c g t w hG
theorem isLock_is {b : Bool} (h : inB l 0 5 = b) : Calls Try.prog 54 #[.int .i64 l] w fun e w' => e = .returned (.bool b) ∧ w = w' := by subst h; exact isLock_any l w
theorem contains_is {b : Bool} {xs : List Int} {v : Int} (hR : Rd w a n 1 (xs.map enc1)) (h : hasB xs v = b) : Calls Try.prog 60 #[.slice a n c, .int .i64 v] w fun e w' => e = .returned (.bool b) ∧ w = w' := by subst h; exact contains_any a n c xs v w hR
theorem holder_is {x : Int} (hG : RdG w a n g) (hg : g.map ThV.th = G) (h : holderG G l = x) : Calls Try.prog 55 #[.slice a n c, .int .i64 l] w fun e w' => e = .returned (.int .i64 x) ∧ Below w.heap.size w w' := by subst hg; subst h; exact holder_any a n c g l w hG
theorem copied_is (hn0 : 0 < n) (hn : n ≤ 1000) (hH : ∀ t ∈ g, t.n ≤ 1000) (hG : RdG w a n g) (hg : g.map ThV.th = G) : Calls Try.prog 64 #[.slice a n c] w (OutC 52 n w G) := by subst hg; exact copied_any a n c g hn0 hn hH w hG
theorem chain_is {i : Nat} {L : List Int} (hi : i < n) (hn : n ≤ 1000) (hG : RdG w a n g) (hg : g.map ThV.th = G) (h : chainG G i = L) : Calls Try.prog 49 #[.slice a n c, .int .i64 i] w (OutI w.heap.size w L) := by subst hg; subst h; exact chain_any a n c g i hi hn w hG
end
end Go.Proofs.Ytmdjbnicjohkjaa
