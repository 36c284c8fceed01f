/- slices.Grow of nil, slices.Concat and slices.Delete at ints. The conditions are the ones that each contract names. -/
import Derived.Test.YtabbmnnohnfbeaaAsLib
import Derived.Shelf.Spec.SlicesGrow
import Derived.ArgAppend
import Derived.BigRegion
namespace Go.Proofs.Ytabbmnnohnfbeaa
open Go.RowKit
set_option linter.unusedSimpArgs false
set_option linter.unusedVariables false
def grRen : Go.Shelf.Ren := ⟨fun | 4 => 130 | n => n, fun | 0 => 0 | 3 => 3 | 4 => 4 | 9 => 9 | 20 => 20 | 22 => 32 | 25 => 3 | n => n, fun n => n⟩
theorem grLay : Go.Proofs.Lays8.n4 Try.prog grRen := {
  mixed := by kernel_rfl
  f4 := ⟨"slices.Grow[[]int,int]", by decide, Try.func130.trans (congrArg some (by kernel_rfl))⟩
  t0 := Try.underlying0
  a0 := Try.isAgg0
  z0 := Try.sizeOf0
  v0 := Try.zeroValue0
  t3 := Try.underlying3
  a3 := Try.isAgg3
  z3 := Try.sizeOf3
  v3 := Try.zeroValue3
  t4 := Try.underlying4
  a4 := Try.isAgg4
  z4 := Try.sizeOf4
  v4 := Try.zeroValue4
  t9 := Try.underlying9
  a9 := Try.isAgg9
  z9 := Try.sizeOf9
  v9 := Try.zeroValue9
  t20 := Try.underlying20
  a20 := Try.isAgg20
  z20 := Try.sizeOf20
  v20 := Try.zeroValue20
  t22 := Try.underlying32
  a22 := Try.isAgg32
  z22 := Try.sizeOf32
  v22 := Try.zeroValue32 }
theorem grow_any (n : Nat) (w : World) (h0 : 0 < n) (hn : n ≤ 100000) : Calls Try.prog 130 #[.slice none 0 0, .int .i64 n] w fun e w' =>
    ∃ a c, e = .returned (.slice a 0 c) ∧ w'.ownsRow w.heap.size 3 1 (.slice a 0 c) 0 [] ∧ Below w.heap.size w w' := by
  obtain ⟨i0, hi0, hz0, hzs, hzb⟩ := info_parts (show (Try.prog.info? 3).map (fun i => (i.zero, i.size, i.bytes)) = some (some (.int .i64 0), 1, 8) by kernel_rfl)
  have := Any8.slices_Grow_grow grLay i0 _ hi0 hz0 (by omega) none 0 0 n [] w (by omega) (by omega) (by rw [hzb]; omega) (by omega) (by simp) (fun _ => rfl) (fun a h => by simp at h)
  refine this.mono ?_
  rintro e w' ⟨rfl, rfl⟩
  have hcm : grownCap w (0 + n) 0 3 ≤ maxLen := grownCap_le_maxLen w (0 + n) 0 3 (by unfold maxLen; omega)
  have hge := grownCap_ge w (0 + n) 0 3
  have hb : Below w.heap.size w w.drew := (Below.refl _ _).drew
  refine ⟨_, _, rfl, ⟨rfl, .inr ⟨w.heap.size, _, _, rfl, Nat.le_refl _, heap_alloc_new w.drew _, Nat.zero_le _, hcm, ?_, by simp⟩⟩, hb.alloc (Nat.le_refl _) _⟩
  simp only [Array.size_append, List.size_toArray, size_zeroCells]
  show 0 + (0 + n - 0) * 1 + (grownCap w (0 + n) 0 3 - (0 + n)) * 1 = grownCap w (0 + n) 0 3 * 1
  omega
/-- a slice of ints as it is handed over -/
structure ISl where
  a : Option Addr
  n : Nat
  c : Nat
  xs : List Int
deriving Inhabited
abbrev valS (s : ISl) : Value := .slice s.a s.n s.c
def ISl.ok (w : World) (s : ISl) : Prop := Rd w s.a s.n 1 (s.xs.map enc1) ∧ (s.n = 0 → (s.a = none ∧ s.c = 0) ∨ ∃ ad, s.a = some ad)
theorem ISl.ok.ext {w w' : World} {s : ISl} (h : s.ok w) (hb : Below w.heap.size w w') : s.ok w' := ⟨h.1.ext hb, h.2⟩
def sizeS : List ISl → Nat
  | [] => 0
  | s :: g => s.n + sizeS g
def catS : List ISl → List Int
  | [] => []
  | s :: g => s.xs ++ catS g
theorem catS_len {w : World} : ∀ {g : List ISl}, (∀ s ∈ g, s.ok w) → (catS g).length = sizeS g
  | [], _ => rfl
  | s :: g, h => by
    have h1 := (h s (by simp)).1.length
    have h2 := catS_len (g := g) (fun t ht => h t (by simp [ht]))
    rw [catS, sizeS, List.length_append, h1, h2]
set_option maxRecDepth 100000 in
set_option maxHeartbeats 4000000 in
theorem concat_any (a : Option Addr) (n c : Nat) (g : List ISl) (w : World) (hR : Rd w a n 1 (g.map fun s => [valS s])) (hok : ∀ s ∈ g, s.ok w) (h0 : 0 < sizeS g) (hs : sizeS g ≤ 1000) :
    Calls Try.prog 99 #[.slice a n c] w fun e w' => ∃ a' c', e = .returned (.slice a' (sizeS g) c') ∧ w'.ownsRow w.heap.size 3 1 (.slice a' (sizeS g) c') (sizeS g) ((catS g).flatMap enc1) ∧ Below w.heap.size w w' := by
  have hsm := hR.small
  have HR := Lib.hid hR; have HOK := Lib.hid hok
  have HL : Hid (g.length = n) := Lib.hid (by have := hR.len; simpa using this)
  obtain ⟨R, hRR⟩ : ∃ R, sizeS g = R := ⟨_, rfl⟩
  have HA : Hid (0 + sizeS (g.drop 0) = R) := Lib.hid (by simpa using hRR)
  have HB0 : Hid ([] ++ catS (g.drop 0) = catS g) := Lib.hid rfl
  have HZ : Hid (0 + sizeS (g.drop 0) = R) := HA
  have hE := E1
  rw [hRR] at h0 hs ⊢
  clear hR hok hRR
  go_enter Try.func99, Try.ntmps99
  go_wp2
  go_loopw [3, 11] (fun v i wr => ∃ k s : Nat, k ≤ n ∧ v = .int .i64 s ∧ i = .int .i64 k ∧ s + sizeS (g.drop k) = R ∧ w = wr) (fun _ i _ => n - (intOf i).toNat)
  case atStart => exact ⟨0, 0, Nat.zero_le _, rfl, rfl, HA.out, rfl⟩
  case round =>
    obtain ⟨k, s, hk, rfl, rfl, he, rfl⟩ := hrel
    have HE := Lib.hid he; clear he
    by_cases hlt : k < n
    · obtain ⟨x, b, off, rfl, hb, hc, HD⟩ := HR.out.nextV k hlt
      have hE2 := HE.out
      rw [HD.out, sizeS] at hE2
      have HE3 : Hid ((s + x.n) + sizeS (g.drop (k + 1)) = R) := Lib.hid (by omega)
      have hsx : s + x.n ≤ 1000 := by omega
      obtain ⟨xa, xn, xc, xs⟩ := x
      simp only [] at hc hsx
      simp only [valS] at hc
      clear hE2
      go_wp2_with fail
      go_roundw
      case rel => exact ⟨k + 1, s + xn, by omega, by go_num, by go_num, HE3.out, by first | rfl | trivial⟩
      case measure => simp [intOf]; omega
    · have hE2 := HE.out
      rw [List.drop_of_length_le (by rw [HL.out]; omega), sizeS, Nat.add_zero] at hE2
      subst hE2
      go_wp2_with (go_at_call 130; (with_reducible refine (grow_any s _ h0 (by omega)).mono ?_); rintro e w2 ⟨a2, c2, rfl, hown2, hb2⟩; have HO2 := Lib.hid hown2; have B2 := Lib.hid hb2; clear hown2 hb2)
      go_loopw [6, 27] (fun v i wr => ∃ (k m : Nat) (a' : Option Addr) (c' : Nat) (ys : List Int), k ≤ n ∧ v = .slice a' m c' ∧ i = .int .i64 k ∧ m + sizeS (g.drop k) = s ∧ ys ++ catS (g.drop k) = catS g ∧ wr.ownsRow w.heap.size 3 1 (.slice a' m c') m (ys.flatMap enc1) ∧ Below w.heap.size w wr) (fun _ i _ => n - (intOf i).toNat)
      case atStart => exact ⟨0, 0, a2, c2, [], Nat.zero_le _, rfl, rfl, HZ.out, HB0.out, HO2.out, B2.out⟩
      case round =>
        clear HO2 B2
        obtain ⟨k2, m, a', c', ys, hk2, rfl, rfl, he, hy, hO, hB⟩ := hrel
        have HE4 := Lib.hid he; have HY := Lib.hid hy; have HO := Lib.hid hO; have HB := Lib.hid hB
        have hz := hB.size
        clear he hy hO hB
        by_cases hlt2 : k2 < n
        · obtain ⟨x, b, off, rfl, hb, hc, HD⟩ := (HR.out.ext HB.out).nextV k2 hlt2
          have hxm : x ∈ g := List.mem_of_mem_drop (by rw [HD.out]; simp)
          have hx := (HOK.out x hxm).ext HB.out
          have hE2 := HE4.out
          have hY2 := HY.out
          rw [HD.out, sizeS] at hE2
          rw [HD.out, catS, ← List.append_assoc] at hY2
          have HX1 := Lib.hid hx.1; have HX2 := Lib.hid hx.2
          have HE5 : Hid ((m + x.n) + sizeS (g.drop (k2 + 1)) = s) := Lib.hid (by omega)
          have HY5 := Lib.hid hY2
          have hmx : m + x.n ≤ 1000 := by omega
          obtain ⟨xa, xn, xc, xs⟩ := x
          simp only [] at hc hmx
          simp only [valS] at hc
          clear hE2 hY2 hx hxm
          go_wp2_with (at_builtin; refine wpList_pushAll (B := w.heap.size) rfl _ _ _ rfl hE enc1_len enc1_one rfl HO.out rfl HX1.out HX2.out (by omega) (by decide) (by omega) ?_; intro v3 w3 hown3 hv3 hb3; obtain ⟨a3, c3, rfl⟩ := hv3; have HO3 := Lib.hid hown3; have B3 := Lib.hid hb3; clear hown3 hb3)
          go_roundw
          case rel => exact ⟨k2 + 1, m + xn, a3, c3, ys ++ xs, by omega, rfl, by go_num, HE5.out, HY5.out, by rw [List.flatMap_append]; exact HO3.out, HB.out.trans B3.out⟩
          case measure => simp [intOf]; omega
        · have hE2 := HE4.out
          have hY2 := HY.out
          rw [List.drop_of_length_le (by rw [HL.out]; omega), sizeS, Nat.add_zero] at hE2
          rw [List.drop_of_length_le (by rw [HL.out]; omega), catS, List.append_nil] at hY2
          subst hE2
          subst hY2
          go_wp2_with fail
          go_ret
          exact ⟨_, _, rfl, HO.out, HB.out⟩
theorem del_list {xs : List Int} {i : Nat} (hi : i < xs.length) : ((putAt (putAt (xs.flatMap enc1) i ((xs.drop (i + 1)).flatMap enc1)) (xs.length - 1) [.int .i64 0]).take ((xs.length - 1) * 1)) = (cutL xs i).flatMap enc1 := by
  rw [Nat.mul_one]
  apply List.ext_getElem?
  intro j
  by_cases hj : j < xs.length - 1
  · rw [List.getElem?_take_of_lt hj, putAt_get _ _ _ _ (by rw [putAt_len]; simp [flat_enc1]; omega), if_neg (by omega), putAt_get _ _ _ _ (by simp [flat_enc1]; omega), flat_enc1, flat_enc1, flat_enc1]
    simp only [List.getElem?_map]
    rw [cutL_get hi]
    by_cases h1 : j < i
    · rw [if_neg (by omega), if_pos h1]
    · rw [if_pos (by simp; omega), if_neg h1, List.getElem?_drop, show i + 1 + (j - i) = j + 1 by omega]
  · rw [List.getElem?_eq_none (by rw [List.length_take, putAt_len, putAt_len]; simp; omega), List.getElem?_eq_none (by rw [flat_enc1, List.length_map, cutL_len hi]; omega)]
theorem grown_drew' (W : World) (r : Option Nat) : W.grownBy W.drew r := ⟨rfl, rfl, rfl, Nat.le_refl _, fun _ _ _ => rfl⟩
set_option maxRecDepth 100000 in
set_option maxHeartbeats 4000000 in
theorem delete_any (B b n c i : Nat) (xs : List Int) (w : World) (hn : n ≤ 1000) (hO : w.ownsRow B 3 1 (.slice (some ⟨b, 0, none⟩) n c) n (xs.flatMap enc1)) (hi : i < n) :
    Calls Try.prog 100 #[.slice (some ⟨b, 0, none⟩) n c, .int .i64 i, .int .i64 ((i + 1 : Nat) : Int)] w (DelP B w b (n - 1) c (cutL xs i)) := by
  have hlen := (ownsI_rd hO).length
  obtain ⟨i0, hi0, hz0, hzs, hzb⟩ := info_parts (show (Try.prog.info? 3).map (fun i => (i.zero, i.size, i.bytes)) = some (some (.int .i64 0), 1, 8) by kernel_rfl)
  have hc1 : n ≤ c := by
    rcases hO.2 with ⟨h, _⟩ | ⟨g', cap', cur', h, _, _, hh, _⟩
    · simp at h
    · simp at h; omega
  obtain ⟨m, rfl⟩ : ∃ m, n = m + 1 := ⟨n - 1, by omega⟩
  have hcell : ∀ j, j < m + 1 → (w.cell? ⟨b, j, none⟩).isSome = true := fun j hj => by
    rw [hO.cellAt j (by omega)]
    rw [flat_enc1, List.getElem?_map, List.getElem?_eq_getElem (by omega)]; rfl
  have hfr : ∀ j, w.frozen? ⟨b, j, none⟩ = false := fun j => hO.frozenAt j
  have hld : (xs.drop (i + 1)).length = m - i := by simp; omega
  obtain ⟨news, hnews⟩ : ∃ l, (xs.drop (i + 1)).flatMap enc1 = l := ⟨_, rfl⟩
  have hnl : news.length = m - i := by rw [← hnews, flat_enc1, List.length_map, hld]
  have hload : (loadCellsFrom ⟨b, i + 1, none⟩ 0 (m - i) #[]).run Try.prog w.drew = .ok news.toArray w.drew := by
    have := run_loadCells_list (P := Try.prog) (w := w.drew) ⟨b, i + 1, none⟩ news (fun j u hj => by
      have hjl := (List.getElem?_eq_some_iff.1 hj).1
      have h1 : w.cell? ⟨b, i + 1 + j, none⟩ = some u := by
        rw [hO.cellAt (i + 1 + j) (by omega), flat_enc1, List.getElem?_map]
        rw [← hnews, flat_enc1, List.getElem?_map, List.getElem?_drop] at hj
        exact hj
      have e : (⟨b, i + 1, none⟩ : Addr).add j = ⟨b, i + 1 + j, none⟩ := by unfold Addr.add; split <;> simp_all
      rw [e]; exact h1)
    rw [hnl] at this
    simpa [loadCells] using this
  have hstore : (storeCells ⟨b, i, none⟩ news).run Try.prog w.drew = .ok () (w.drew.setCells b i news) := by
    have := run_storeCells_cells (P := Try.prog) b i news 0 w.drew (fun j hj => by rw [Nat.add_zero]; exact hcell _ (by omega)) (fun j hj => by rw [Nat.add_zero]; exact hfr _) (fun u hu => by
      rw [← hnews] at hu
      obtain ⟨y, _, hy⟩ := List.mem_flatMap.1 hu
      exact enc1_one y u hy)
    exact this
  obtain ⟨w2, hw2⟩ : ∃ w2, w.drew.setCells b i ((xs.drop (i + 1)).flatMap enc1) = w2 := ⟨_, rfl⟩
  have HW2 := Lib.hid hw2
  have hP := owns_put ((xs.drop (i + 1)).flatMap enc1) i w.drew (xs.flatMap enc1) (owns_ext hO (Below.refl _ _).drew)
  rw [hnews] at hw2 hP
  rw [hw2] at hP
  rw [hw2] at hstore
  have hcm : (w2.cell? ⟨b, m, none⟩).isSome = true := by
    rw [hP.1.cellAt m (by omega), putAt_get _ _ _ _ (by rw [flat_enc1, List.length_map]; omega)]
    split
    · rename_i h
      rw [List.getElem?_eq_getElem (by omega)]; rfl
    · rw [List.getElem?_eq_getElem (by rw [flat_enc1, List.length_map]; omega)]; rfl
  have hclr := fun ty c => clear_one (w := w2) (b := b) (o := m) (c := c) hcm (hP.1.frozenAt m) ty
  have HP := Lib.hid hP
  have HL := Lib.hid hlen
  have hne : ((i : Int) == ((i : Int) + 1)) = false := by simp; omega
  have e1 : m + 1 - m = 1 := by omega
  have e2 : m + 1 - (i + 1) = m - i := by omega
  have hc2 : m + 1 ≤ c := hc1
  have hc3 : m ≤ c := by omega
  have hc4 : i ≤ c := by omega
  have hc5 : i + 1 ≤ m + 1 := by omega
  have hc6 : i + 1 ≤ c := by omega
  have HNW := Lib.hid hnews
  have HN0 : Hid (m = i → w2 = w.drew) := Lib.hid (fun e => by
    have : news = [] := List.length_eq_zero_iff.1 (by omega)
    rw [← hw2, this]; rfl)
  clear hO hlen hcell hfr hld hw2 hP hi0 hz0 hzs hzb hcm hnews hnl
  have hc7 : ¬ c = m := by omega
  have hc8 : i ≤ m := by omega
  have hc9 : 0 ≤ (i : Int) + 1 := by omega
  have fin : ∀ w3 : World, w3 = w2.setCells b m [.int .i64 0] → DelP B w b m c (cutL xs i) (.returned (.slice (some ⟨b, 0, none⟩) m c)) w3 := fun w3 e => by
    subst e
    have h1 := owns_put [.int .i64 0] m _ _ HP.out.1
    have h2 := owns_less h1.1 (show m ≤ m + 1 by omega)
    have hd := del_list (xs := xs) (i := i) (by rw [HL.out]; omega)
    rw [HL.out, Nat.add_sub_cancel, HNW.out] at hd
    rw [hd] at h2
    exact ⟨rfl, h2, (grown_drew' w _).trans (HP.out.2.trans h1.2)⟩
  have FIN := Lib.hid fin
  clear fin
  by_cases hcc : c = i + 1
  · subst hcc
    obtain rfl : m = i := by omega
    obtain rfl := HN0.out rfl
    go_enter Try.func100, Try.ntmps100
    go_wp2_with fail
    go_region
    go_wp2_with fail
    go_ret
    exact FIN.out _ rfl
  · go_enter Try.func100, Try.ntmps100
    go_wp2_with fail
    go_region
    go_wp2_with fail
    go_ret
    exact FIN.out _ rfl
end Go.Proofs.Ytabbmnnohnfbeaa
