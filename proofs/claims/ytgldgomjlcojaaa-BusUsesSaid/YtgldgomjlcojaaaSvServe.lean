/- The contract of serve of the program. The conditions: the slots and the requests read as named. -/
import Derived.Test.YtgldgomjlcojaaaSvSt
import Derived.BigRegion
import Derived.Deep.RegionHeld3
import Derived.Deep.Cut
import Derived.IntWalk
import Derived.Deep.OwnRows
namespace Go.Proofs.Ytgldgomjlcojaaa
open Go.RowKit
set_option linter.unusedSimpArgs false
set_option linter.unusedVariables false
def srvE (l : List P2) (q : List Rq) : Int := if validS l && q.all okQ then (if 40 < q.length then 2 else if q.any (fun r => decide (cnt (tableS l) r.m = 0)) then 3 else 0) else 1
def begL (T : List Int) (q : List Rq) : List Int := (idxs q.length).map fun j => (bgN T q j : Int)
def endL (T : List Int) (q : List Rq) : List Int := (idxs q.length).map fun j => (enN T q j : Int)
def srvR (l : List P2) (q : List Rq) : List Int × List Int × Int := if srvE l q = 0 then (begL (tableS l) q, endL (tableS l) q, 0) else ([], [], srvE l q)
def OutSv (w : World) (bs es : List Int) (E : Int) (e : Ending) (w' : World) : Prop :=
  ∃ a n c a' n' c', e = .returned (.tuple #[.slice a n c, .slice a' n' c', .int .i64 E]) ∧ w'.ownsRow w.heap.size 3 1 (.slice a n c) n (bs.flatMap enc1) ∧ w'.ownsRow w.heap.size 3 1 (.slice a' n' c') n' (es.flatMap enc1) ∧ Below w.heap.size w w'
theorem OutSv.none {w w' : World} {E : Int} (hb : Below w.heap.size w w') : OutSv w [] [] E (.returned (.tuple #[.slice none 0 0, .slice none 0 0, .int .i64 E])) w' := ⟨_, _, _, _, _, _, rfl, World.ownsRow_nil _ _ _ _, World.ownsRow_nil _ _ _ _, hb⟩
theorem con1_val {a : Option Addr} {n c : Nat} {q : List Rq} {w : World} {b : Bool} (hR : Rd w a n 3 (q.map encQ)) (h : (!q.all okQ) = b) :
    Calls Try.prog 67 #[.slice a n c, .func (.func 68) #[] #[]] w fun e w' => e = .returned (.bool b) ∧ Below w.heap.size w w' := by
  have := rq_con 68 #[] (fun r => !okQ r) a n c q w hR ⟨fun args w => by kernel_rfl, fun x _ w' _ => sv1_any x w'⟩
  rw [any_not, h] at this
  exact this
theorem con2_val {a : Option Addr} {n c p : Nat} {q : List Rq} {w : World} {b : Bool} {h : Nat → Hdr} {T : List Int} (hR : Rd w a n 3 (q.map encQ)) (hq : ∀ r ∈ q, 0 ≤ r.m ∧ r.m ≤ 3) (hW : WhC p w h) (hT : RdW w h T) (hb : q.any (fun r => decide (cnt T r.m = 0)) = b) :
    Calls Try.prog 67 #[.slice a n c, .func (.func 69) #[] #[.pointer (some ⟨p, 0, none⟩)]] w fun e w' => e = .returned (.bool b) ∧ Below w.heap.size w w' := by
  have := rq_con 69 #[.pointer (some ⟨p, 0, none⟩)] (fun r => decide (cnt T r.m = 0)) a n c q w hR ⟨fun args w => by kernel_rfl, fun x hx w' hb' => sv2_any x w' p h T (hq x hx) (hW.ext hb') (hT.ext hb')⟩
  rw [hb] at this
  exact this
theorem okQ_iff {r : Rq} : okQ r = true ↔ (0 ≤ r.m ∧ r.m ≤ 3) ∧ (0 ≤ r.o ∧ r.o ≤ 10000) ∧ 1 ≤ r.k ∧ r.k ≤ 100 := okR_iff
/-- how late it can be -/
theorem endN_far {T : List Int} {m : Int} (hc : 0 < cnt T m) {a k : Nat} (hk : 1 ≤ k) (hk2 : k ≤ 100) (hT : T.length ≤ 400) : endN T m a k ≤ a + 40000 := by
  have h1 := endN_le hc (a := a) (x := a + k * T.length) hk
  have h2 : cF T m (a + k * T.length) = k * cnt T m + cF T m a := by rw [Nat.add_comm]; exact cF_mul a k
  have h3 : k * 1 ≤ k * cnt T m := Nat.mul_le_mul_left k hc
  have h4 : k * T.length ≤ 100 * 400 := Nat.mul_le_mul hk2 hT
  have := h1.2 (by omega)
  omega
structure OkS (T : List Int) (q : List Rq) : Prop where
  ok : OkQ T q
  b : ∀ r ∈ q, (0 ≤ r.m ∧ r.m ≤ 3) ∧ (0 ≤ r.o ∧ r.o ≤ 10000) ∧ 1 ≤ r.k ∧ r.k ≤ 100
  t : T.length ≤ 400
theorem free_far {T : List Int} {q : List Rq} (h : OkS T q) (m : Int) : ∀ p : Nat, freeF T q m ((ordQ q).take p) ≤ 10000 + p * 40000
  | 0 => by simp [freeF]
  | p + 1 => by
    cases e : (ordQ q)[p]? with
    | none =>
      rw [List.take_add_one, e, Option.toList_none, List.append_nil]
      exact Nat.le_trans (free_far h m p) (Nat.add_le_add_left (Nat.mul_le_mul_right _ (Nat.le_succ p)) _)
    | some k =>
      have hk := List.mem_of_getElem? e
      have hm := rqAt_mem (ordQ_mem.1 hk)
      obtain ⟨b1, b2, b3, b4⟩ := h.b _ hm
      have hi := free_far h m p
      by_cases hmm : (rqAt q k).m = m
      · subst hmm
        rw [free_at e, enN, bgN, preQ_take e]
        have h5 := endN_far (h.ok.c _ hm) (a := max (rqAt q k).o.toNat (freeF T q (rqAt q k).m ((ordQ q).take p))) (k := (rqAt q k).k.toNat) (by omega) (by omega) h.t
        have h6 : max (rqAt q k).o.toNat (freeF T q (rqAt q k).m ((ordQ q).take p)) ≤ 10000 + p * 40000 := Nat.max_le.2 ⟨Nat.le_trans (show (rqAt q k).o.toNat ≤ 10000 by omega) (Nat.le_add_right _ _), hi⟩
        rw [Nat.add_mul, Nat.one_mul, ← Nat.add_assoc]
        exact Nat.le_trans h5 (Nat.add_le_add_right h6 _)
      · rw [free_other e hmm]
        exact Nat.le_trans hi (Nat.add_le_add_left (Nat.mul_le_mul_right _ (Nat.le_succ p)) _)
theorem bg_far {T : List Int} {q : List Rq} (h : OkS T q) (hl : q.length ≤ 40) {k : Int} (hk : k ∈ ordQ q) : bgN T q k ≤ 2000000 ∧ enN T q k ≤ 2000000 := by
  obtain ⟨p, hp⟩ := ord_pos hk
  have hpl : p < 40 := by have := (List.getElem?_eq_some_iff.1 hp).1; rw [ordQ_len] at this; omega
  have h1 := free_far h (rqAt q k).m (p + 1)
  have h2 := bg_lt_en h.ok hk
  rw [free_at hp] at h1
  have : (p + 1) * 40000 ≤ 40 * 40000 := Nat.mul_le_mul_right _ (by omega)
  omega
theorem mk_own (w : World) {N k : Nat} (hN : N ≤ w.heap.size) (hk : k ≤ 1000) : (w.alloc (.cells (madeCells #[.int .i64 0] k) 3)).ownsRow N 3 1 (.slice (some ⟨w.heap.size, 0, none⟩) k k) k ((List.replicate k (0 : Int)).flatMap enc1) := by
  have := World.ownsRow_lit (e := 3) (size := 1) (base := N) w (madeCells #[.int .i64 0] k) k hN (by unfold maxLen; omega) (by rw [← Array.length_toList, toList_madeCells_one]; simp)
  rw [toList_madeCells_one] at this
  rw [flat_enc1, List.map_replicate]
  exact this
/-- two of them -/
theorem two_mk {w : World} {N k : Nat} (hN : N < w.heap.size) (hk : k ≤ 1000) :
    N < w.heap.size ∧ N < w.heap.size + 1 ∧ w.heap.size < ((w.drew.alloc (.cells (madeCells #[.int .i64 0] k) 3)).alloc (.cells (madeCells #[.int .i64 0] k) 3)).heap.size ∧ w.heap.size + 1 < ((w.drew.alloc (.cells (madeCells #[.int .i64 0] k) 3)).alloc (.cells (madeCells #[.int .i64 0] k) 3)).heap.size ∧
    ((w.drew.alloc (.cells (madeCells #[.int .i64 0] k) 3)).alloc (.cells (madeCells #[.int .i64 0] k) 3)).ownsRow N 3 1 (.slice (some ⟨w.heap.size, 0, none⟩) k k) k ((List.replicate k (0 : Int)).flatMap enc1) ∧
    ((w.drew.alloc (.cells (madeCells #[.int .i64 0] k) 3)).alloc (.cells (madeCells #[.int .i64 0] k) 3)).ownsRow N 3 1 (.slice (some ⟨w.heap.size + 1, 0, none⟩) k k) k ((List.replicate k (0 : Int)).flatMap enc1) ∧
    Below w.heap.size w ((w.drew.alloc (.cells (madeCells #[.int .i64 0] k) 3)).alloc (.cells (madeCells #[.int .i64 0] k) 3)) := by
  refine ⟨hN, by omega, by simp; omega, by simp, ?_, ?_, by (repeat' (first | (with_reducible exact Below.refl _ _) | (with_reducible assumption) | (with_reducible refine Below.alloc ?_ ?_ _) | (with_reducible refine Below.drew ?_) | (with_reducible refine Below.draws ?_ _) | (with_reducible refine Below.setCell ?_ ?_ _) | (refine Below.then ?_ (by with_reducible assumption)) | go_size))⟩
  · exact (mk_own w.drew (N := N) (by simp; omega) hk).alloc _
  · have := mk_own (w.drew.alloc (.cells (madeCells #[.int .i64 0] k) 3)) (N := N) (k := k) (by simp; omega) hk
    simpa using this
end Go.Proofs.Ytgldgomjlcojaaa
