/- The contract of slices.Insert of one int, at a row that the call made. The conditions: the row is the caller's own; the new int lies in another block. -/
import Derived.Test.YtmdjbnicjohkjaaBsrchL
import Derived.Shelf.Spec.SlicesInsert
import Derived.Shelf.Spec.SlicesInsertGrow
import Derived.Maps.AppendAt
import Derived.Maps.RangeWalk
namespace Go.Proofs.Ytmdjbnicjohkjaa
open Go.RowKit
set_option linter.unusedSimpArgs false
set_option linter.unusedVariables false
def insRen : Go.Shelf.Ren := ⟨fun | 21 => 85 | 27 => 96 | 28 => 97 | 35 => 102 | 39 => 105 | n => n, fun | 0 => 0 | 3 => 3 | 4 => 4 | 22 => 27 | n => n, fun n => n⟩
theorem insLay : Go.Proofs.Lays2.n21 Try.prog insRen := {
  mixed := by kernel_rfl
  f21 := Try.func85.trans (congrArg some (by kernel_rfl))
  f27 := Try.func96.trans (congrArg some (by kernel_rfl))
  f28 := Try.func97.trans (congrArg some (by kernel_rfl))
  f35 := Try.func102.trans (congrArg some (by kernel_rfl))
  f39 := Try.func105.trans (congrArg some (by kernel_rfl))
  t0 := Try.underlying0
  a0 := Try.isAgg0
  z0 := Try.sizeOf0
  v0 := Try.zeroValue0
  t3 := Try.underlying3
  a3 := Try.isAgg3
  z3 := Try.sizeOf3
  v3 := Try.zeroValue3
  t4 := Try.underlying4
  a4 := Try.isAgg4
  z4 := Try.sizeOf4
  v4 := Try.zeroValue4
  t22 := Try.underlying27
  a22 := Try.isAgg27
  z22 := Try.sizeOf27
  v22 := Try.zeroValue27
  i3 := by kernel_rfl }
/-- cells written from place o on -/
def putAt : List Value → Nat → List Value → List Value
  | xs, _, [] => xs
  | xs, o, v :: r => putAt (xs.set o v) (o + 1) r
theorem putAt_len : ∀ (vs : List Value) (o : Nat) (xs : List Value), (putAt xs o vs).length = xs.length
  | [], _, _ => rfl
  | v :: r, o, xs => by rw [putAt, putAt_len r]; simp
theorem putAt_get : ∀ (vs : List Value) (o : Nat) (xs : List Value) (j : Nat), j < xs.length → (putAt xs o vs)[j]? = if o ≤ j ∧ j < o + vs.length then vs[j - o]? else xs[j]?
  | [], o, xs, j, h => by rw [putAt, if_neg (by simp)]
  | v :: r, o, xs, j, h => by
    rw [putAt, putAt_get r (o + 1) (xs.set o v) j (by simpa using h)]
    by_cases h1 : o + 1 ≤ j ∧ j < o + 1 + r.length
    · rw [if_pos h1, if_pos (by simp; omega), show j - o = (j - (o + 1)) + 1 by omega, List.getElem?_cons_succ]
    · rw [if_neg h1]
      by_cases h2 : j = o
      · subst h2
        rw [if_pos (by simp)]
        simp [h]
      · rw [if_neg (by simp at h1 ⊢; omega), List.getElem?_set_ne (by omega)]
theorem owns_put {B e k n c g : Nat} : ∀ (vs : List Value) (o : Nat) (w : World) (xs : List Value), w.ownsRow B e k (.slice (some ⟨g, 0, none⟩) n c) n xs →
    (w.setCells g o vs).ownsRow B e k (.slice (some ⟨g, 0, none⟩) n c) n (putAt xs o vs) ∧ w.grownBy (w.setCells g o vs) (some g)
  | [], o, w, xs, h => ⟨h, World.grownBy.refl _ _⟩
  | v :: r, o, w, xs, h => by
    have h1 := h.stored o v
    have h2 := owns_put r (o + 1) _ _ h1.1
    exact ⟨h2.1, h1.2.trans h2.2⟩
/-- the spare cells taken in -/
theorem owns_wide {w : World} {B e n m c g : Nat} {xs : List Value} (h : w.ownsRow B e 1 (.slice (some ⟨g, 0, none⟩) n c) n xs) (hm : n + m ≤ c) : ∃ ys, ys.length = m ∧ w.ownsRow B e 1 (.slice (some ⟨g, 0, none⟩) (n + m) c) (n + m) (xs ++ ys) := by
  obtain ⟨h0, h1 | ⟨g', cap, cur, hv, hB, hg, hn, hc, hs, ht⟩⟩ := h
  · simp at h1
  · simp at hv
    obtain ⟨rfl, rfl⟩ := hv
    refine ⟨(cur.toList.drop n).take m, by simp; omega, ⟨by simp at h0 ⊢; omega, .inr ⟨g, c, cur, rfl, hB, hg, hm, hc, hs, ?_⟩⟩⟩
    rw [← ht, Nat.mul_one, Nat.mul_one, List.take_add]
def insL (xs : List Int) (i : Nat) (x : Int) : List Int := xs.take i ++ x :: xs.drop i
theorem insL_len {xs : List Int} {i : Nat} {x : Int} (h : i ≤ xs.length) : (insL xs i x).length = xs.length + 1 := by simp [insL]; omega
theorem insL_get {xs : List Int} {i : Nat} {x : Int} (h : i ≤ xs.length) (j : Nat) : (insL xs i x)[j]? = if j < i then xs[j]? else if j = i then some x else xs[j - 1]? := by
  unfold insL
  by_cases h1 : j < i
  · rw [if_pos h1, List.getElem?_append_left (by simp; omega), List.getElem?_take, if_pos h1]
  · rw [if_neg h1, List.getElem?_append_right (by simp; omega)]
    have e : (xs.take i).length = i := by simp; omega
    rw [e]
    by_cases h2 : j = i
    · rw [if_pos h2, h2, Nat.sub_self]; rfl
    · rw [if_neg h2, show j - i = (j - 1 - i) + 1 by omega, List.getElem?_cons_succ, List.getElem?_drop, show i + (j - 1 - i) = j - 1 by omega]
/-- the two roads write the same -/
theorem ins_eq {xs : List Int} {i : Nat} {x : Int} {y : Value} (h : i ≤ xs.length) : putAt (putAt (xs.flatMap enc1 ++ [y]) (i + 1) ((xs.flatMap enc1).drop i)) i [.int .i64 x] = (insL xs i x).flatMap enc1 := by
  apply List.ext_getElem?
  intro j
  rw [flat_enc1, flat_enc1]
  by_cases hj : j < xs.length + 1
  · rw [putAt_get _ _ _ _ (by rw [putAt_len]; simp; omega), putAt_get _ _ _ _ (by simp; omega), List.getElem?_map, insL_get h]
    by_cases h1 : j < i
    · rw [if_neg (by omega), if_neg (by omega), if_pos h1, List.getElem?_append_left (by simp; omega), List.getElem?_map]
    · rw [if_neg h1]
      by_cases h2 : j = i
      · subst h2; simp
      · rw [if_neg (by simp; omega), if_pos (by simp; omega), if_neg h2, List.getElem?_drop, List.getElem?_map, show i + (j - (i + 1)) = j - 1 by omega]
  · rw [List.getElem?_eq_none (by rw [putAt_len, putAt_len]; simp; omega), List.getElem?_eq_none (by simp [insL_len h]; omega)]
theorem grown_drew (W : World) (r : Option Nat) : W.grownBy W.drew r := ⟨rfl, rfl, rfl, Nat.le_refl _, fun _ _ _ => rfl⟩
def InsP (B : Nat) (w : World) (v : Value) (xs : List Int) (e : Ending) (w' : World) : Prop :=
  ∃ a n c, e = .returned (.slice a n c) ∧ w'.ownsRow B 3 1 (.slice a n c) n (xs.flatMap enc1) ∧ w.grownBy w' v.ownBlock
theorem frozen_new {w : World} {vb : Nat} {cs : Array Value} {T : TypeId} (hv : w.heap[vb]? = some (.cells cs T (0, 0))) (i : Nat) : w.frozen? ⟨vb, i, none⟩ = false := by
  simp [World.frozen?, hv]
theorem insL_end {xs : List Int} {x : Int} : insL xs xs.length x = xs ++ [x] := by simp [insL]
theorem one_cell (x : Int) : ∀ u ∈ [Value.int .i64 x], u.oneCell' = true := by intro u hu; simp at hu; subst hu; rfl
theorem flat_one (xs : List Int) : ∀ u ∈ xs.flatMap enc1, u.oneCell' = true := by intro u hu; obtain ⟨y, _, hy⟩ := List.mem_flatMap.1 hu; exact enc1_one y u hy
theorem ownsRow_succ' {W : World} {B e k n : Nat} {v : Value} {xs : List Value} (h : W.ownsRow B e k v (n + 1) xs) : ∃ g c, v = .slice (some ⟨g, 0, none⟩) (n + 1) c := by
  rcases h.2 with ⟨_, h⟩ | ⟨g, cap, cur, rfl, _⟩
  · omega
  · exact ⟨_, _, rfl⟩
set_option maxRecDepth 100000 in
set_option maxHeartbeats 4000000 in
theorem insert_end (B : Nat) (a : Option Addr) (n c : Nat) (xs : List Int) (x : Int) (vb : Nat) (T : TypeId) (w : World) (hn : n ≤ 1000)
    (hO : w.ownsRow B 3 1 (.slice a n c) n (xs.flatMap enc1)) (hB : B ≤ w.heap.size) (hv : w.heap[vb]? = some (.cells #[.int .i64 x] T (0, 0))) :
    Calls Try.prog 85 #[.slice a n c, .int .i64 n, .slice (some ⟨vb, 0, none⟩) 1 1] w (InsP B w (.slice a n c) (insL xs n x)) := by
  have hl := (ownsI_rd hO).length
  obtain ⟨i0, hi0, hz0, hzs, hzb⟩ := info_parts (show (Try.prog.info? 3).map (fun i => (i.zero, i.size, i.bytes)) = some (some (.int .i64 0), 1, 8) by kernel_rfl)
  have hcv : ∀ j u, [Value.int .i64 x][j]? = some u → w.cell? ((⟨vb, 0, none⟩ : Addr).add j) = some u := by
    intro j u hj
    rcases j with _ | j
    · simp at hj; subst hj; simp [World.cell?, hv, Addr.add]
    · simp at hj
  have HV := Lib.hid hcv
  have HL := Lib.hid hl
  have HO := Lib.hid hO
  have H0 := Lib.hid hi0
  have h63 : n + 1 ≤ maxLen := by unfold maxLen; omega
  rcases hO.2 with ⟨hv0, hn0⟩ | ⟨g, cap, cur, hv0, _, _, hnc, _⟩
  · simp at hv0
    obtain ⟨rfl, rfl, rfl⟩ := hv0
    clear hcv hl hO hi0
    go_enter Try.func85, Try.ntmps85
    go_wp2_with (at_builtin; refine wpList_append_own _ rfl _ _ 27 rfl B 3 i0 _ 1 8 Try.underlying27 H0.out hz0 hzs hzb rfl (by decide) (.slice none 0 0) _ _ rfl HO.out ⟨vb, 0, none⟩ 1 1 [.int .i64 x] rfl rfl HV.out (one_cell x) h63 (by omega) hB ?_; intro v1 w1 hown1 hg1 _; have HO1 := Lib.hid hown1; have HG1 := Lib.hid hg1; clear hown1 hg1)
    all_goals
      have hown := HO1.out
      obtain ⟨g1, c1, rfl⟩ := ownsRow_succ' hown
      rw [show xs.flatMap enc1 ++ [.int .i64 x] = (xs ++ [x]).flatMap enc1 by rw [List.flatMap_append]; rfl] at hown
      go_ret
      exact ⟨_, _, _, rfl, by rw [← HL.out, insL_end, HL.out]; exact hown, HG1.out⟩
  · simp at hv0
    obtain ⟨rfl, rfl⟩ := hv0
    clear hcv hl hO hi0
    go_enter Try.func85, Try.ntmps85
    go_wp2_with (at_builtin; refine wpList_append_own _ rfl _ _ 27 rfl B 3 i0 _ 1 8 Try.underlying27 H0.out hz0 hzs hzb rfl (by decide) (.slice _ n c) _ _ rfl HO.out ⟨vb, 0, none⟩ 1 1 [.int .i64 x] rfl rfl HV.out (one_cell x) h63 (by omega) hB ?_; intro v1 w1 hown1 hg1 _; have HO1 := Lib.hid hown1; have HG1 := Lib.hid hg1; clear hown1 hg1)
    all_goals
      have hown := HO1.out
      obtain ⟨g1, c1, rfl⟩ := ownsRow_succ' hown
      rw [show xs.flatMap enc1 ++ [.int .i64 x] = (xs ++ [x]).flatMap enc1 by rw [List.flatMap_append]; rfl] at hown
      go_ret
      exact ⟨_, _, _, rfl, by rw [← HL.out, insL_end, HL.out]; exact hown, HG1.out⟩
theorem insert_any (B : Nat) (a : Option Addr) (n c i : Nat) (xs : List Int) (x : Int) (vb : Nat) (T : TypeId) (w : World) (hn : n ≤ 1000) (hi : i ≤ n)
    (hO : w.ownsRow B 3 1 (.slice a n c) n (xs.flatMap enc1)) (hB : B ≤ w.heap.size) (hv : w.heap[vb]? = some (.cells #[.int .i64 x] T (0, 0))) (hvb : (Value.slice a n c).ownBlock ≠ some vb) :
    Calls Try.prog 85 #[.slice a n c, .int .i64 i, .slice (some ⟨vb, 0, none⟩) 1 1] w (InsP B w (.slice a n c) (insL xs i x)) := by
  by_cases hin : i = n
  · subst hin
    exact insert_end B a i c xs x vb T w hn hO hB hv
  have hl := (ownsI_rd hO).length
  have hOO := hO
  obtain ⟨h0, ⟨hv0, hn0⟩ | ⟨g, cap, cur, hv0, hBg, hg, hnc, hcm, hcs, htk⟩⟩ := hOO
  · omega
  simp at hv0
  obtain ⟨rfl, rfl⟩ := hv0
  have hgv : vb ≠ g := by intro q; subst q; exact hvb rfl
  have hcx : ∀ j u, (xs.flatMap enc1)[j]? = some u → w.cell? ⟨g, 0 + j, none⟩ = some u := by
    intro j u hj
    have hj' := (List.getElem?_eq_some_iff.1 hj).1
    rw [Nat.zero_add, hO.cellAt j (by rw [h0] at hj'; exact hj'), hj]
  have hcv : ∀ j u, [Value.int .i64 x][j]? = some u → w.cell? ⟨vb, 0 + j, none⟩ = some u := by
    intro j u hj
    rcases j with _ | j
    · simp at hj; subst hj; simp [World.cell?, hv]
    · simp at hj
  by_cases hroom : n + 1 ≤ c
  · refine (Any2.slices_Insert_int_shift insLay g 0 n c i vb 0 1 1 (xs.flatMap enc1) [.int .i64 x] w (by omega) (by decide) hroom (by unfold maxLen at hcm; omega) hgv (by rw [h0]; omega) rfl hcx
      (fun j hj => by rw [Nat.zero_add]; simp [World.cell?, hg]; omega) (fun j hj => hO.frozenAt _) hcv (flat_one xs) (one_cell x) T 3 1 c (by simp [World.shape?, hv]) (by simp [World.shape?, hg]; omega) (by omega) (frozen_new hv _) (frozen_new hv _)).mono ?_
    rintro e w' ⟨rfl, rfl⟩
    obtain ⟨ys, hy, hw⟩ := owns_wide hO.drew (m := 1) hroom
    obtain ⟨y, rfl⟩ : ∃ y, ys = [y] := List.length_eq_one_iff.1 hy
    have h1 := owns_put ((xs.flatMap enc1).drop i) (i + 1) _ _ hw
    have h2 := owns_put [.int .i64 x] i _ _ h1.1
    rw [ins_eq (by omega)] at h2
    simp only [Nat.zero_add]
    exact ⟨_, _, _, rfl, h2.1, (grown_drew w _).trans (h1.2.trans h2.2)⟩
  · refine (Any2.slices_Insert_int_grow insLay g 0 n c i vb 0 1 1 (xs.flatMap enc1) [.int .i64 x] w (by omega) (by decide) hnc (by omega) (by omega) (by rw [h0]; omega) rfl hcx hcv (flat_one xs) (one_cell x)).mono ?_
    rintro e w' ⟨rfl, rfl⟩
    have hge := grownCap_ge w (n + 1) c 3
    have hle := grownCap_le_maxLen w (n + 1) c 3 (by unfold maxLen; omega)
    have et : insRen.t 3 = 3 := rfl
    rw [et]
    obtain ⟨N, hN⟩ : ∃ N, grownCap w (n + 1) c 3 = N := ⟨_, rfl⟩
    rw [hN] at hge hle ⊢
    obtain ⟨L, hL⟩ : ∃ L, L = ((xs.flatMap enc1).take i).toArray ++ Builtin.zeroCells (Value.int .i64 0).cells (n + 1 - i) ++ Builtin.zeroCells (Value.int .i64 0).cells (N - (n + 1)) := ⟨_, rfl⟩
    rw [← hL]
    have hls : L.size = N := by rw [hL]; simp [size_zeroCells, Value.cells, h0]; omega
    have hw : (w.alloc (.cells L 3)).ownsRow B 3 1 (.slice (some ⟨w.heap.size, 0, none⟩) (n + 1) N) (n + 1) (L.toList.take (n + 1)) :=
      ⟨by simp [hls]; omega, .inr ⟨w.heap.size, N, L, rfl, hB, heap_alloc_new _ _, hge, hle, by simp [hls], by simp⟩⟩
    have hLt : ∀ j, j < i → (L.toList.take (n + 1))[j]? = (xs.flatMap enc1)[j]? := by
      intro j hj
      rw [List.getElem?_take, if_pos (by omega), hL]
      simp only [Array.toList_append, List.append_assoc, List.toList_toArray]
      rw [List.getElem?_append_left (by rw [List.length_take, h0]; omega), List.getElem?_take, if_pos hj]
    have hlen : (L.toList.take (n + 1)).length = n + 1 := by simp [hls]; omega
    have h1 := owns_put [.int .i64 x] i _ _ hw.drew
    have h2 := owns_put ((xs.flatMap enc1).drop i) (i + 1) _ _ h1.1.drew
    have he : putAt (putAt (L.toList.take (n + 1)) i [.int .i64 x]) (i + 1) ((xs.flatMap enc1).drop i) = (insL xs i x).flatMap enc1 := by
      apply List.ext_getElem?
      intro j
      by_cases hj : j < n + 1
      · rw [putAt_get _ _ _ _ (by rw [putAt_len, hlen]; exact hj), putAt_get _ _ _ _ (by rw [hlen]; exact hj), flat_enc1, flat_enc1, List.getElem?_map, insL_get (by omega)]
        by_cases q1 : j < i
        · rw [if_neg (by omega), if_neg (by omega), if_pos q1, hLt j q1, flat_enc1, List.getElem?_map]
        · by_cases q2 : j = i
          · subst q2; rw [if_neg (by omega), if_pos (by simp)]; simp
          · rw [if_pos (by simp; omega), if_neg q1, if_neg q2, List.getElem?_drop, List.getElem?_map, show i + (j - (i + 1)) = j - 1 by omega]
      · rw [List.getElem?_eq_none (by rw [putAt_len, putAt_len, hlen]; omega), List.getElem?_eq_none (by rw [flat_enc1]; simp [insL_len (show i ≤ xs.length by omega)]; omega)]
    rw [he] at h2
    refine ⟨_, _, _, rfl, h2.1, ?_⟩
    have g1 := World.grownBy_alloc w (.cells L 3) (some g)
    have g2 := h1.2
    have g3 := h2.2
    exact g1.andThen ((grown_drew _ _).trans (g2.trans ((grown_drew _ _).trans g3))) (fun j e => .inl (by cases e; exact Nat.le_refl _))
end Go.Proofs.Ytmdjbnicjohkjaa
