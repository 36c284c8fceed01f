/- The walk of ResponseFewer: it returns true. The conditions: the tasks read as named; their lists are no longer than memory bears. -/
import Derived.Test.YtabbmnnohnfbeaaRsSane
import Derived.Test.YtabbmnnohnfbeaaRsSim
import Derived.Test.YtabbmnnohnfbeaaApp
import Derived.Test.YtabbmnnohnfbeaaTkOpen
namespace Go.Proofs.Ytabbmnnohnfbeaa
open Go.ChangeShapes Go.WideShapes Go.ChangeAt Go.RowKit Go.Joins Go.Deep
set_option linter.unusedSimpArgs false
set_option linter.unusedVariables false
theorem ETk : Elt Try.prog 22 52 6 64 := Elt.mk' (z := .agg #[.int .i64 0, .int .i64 0, .int .i64 0, .int .i64 0, .int .i64 0, .slice none 0 0]) Try.underlying22 (by kernel_rfl) rfl (by decide)
def cutT (L : List Ta) (t : Nat) : List Ta := L.take t ++ L.drop (t + 1)
def skip (t i : Nat) : Nat := if i < t then i else i + 1
theorem cutT_len {L : List Ta} {t : Nat} (ht : t < L.length) : (cutT L t).length = L.length - 1 := by unfold cutT; simp; omega
theorem cutT_at {L : List Ta} {t i : Nat} (ht : t < L.length) (hi : i < (cutT L t).length) : taAt (cutT L t) i = taAt L (skip t i) := by
  rw [cutT_len ht] at hi
  have e : (cutT L t)[i]? = L[skip t i]? := by
    unfold cutT skip
    split
    · rw [List.getElem?_append_left (by simp; omega), List.getElem?_take, if_pos (by assumption)]
    · rw [List.getElem?_append_right (by simp; omega), List.getElem?_drop]
      congr 1; simp; omega
  unfold taAt
  rw [Int.toNat_natCast, Int.toNat_natCast, e]
theorem cutT_mem {L : List Ta} {t : Nat} {x : Ta} (h : x ∈ cutT L t) : x ∈ L := by
  unfold cutT at h
  rcases List.mem_append.1 h with h | h
  · exact List.mem_of_mem_take h
  · exact List.mem_of_mem_drop h
theorem cutT_sim {L : List Ta} {t : Nat} (ht : t < L.length) : Sim (cutT L t) L (skip t) := by
  have e := fun i hi => cutT_at (L := L) (t := t) (i := i) ht hi
  have hl := cutT_len ht
  refine ⟨fun i hi => ?_, fun i j h => ?_, fun i hi => ?_, fun i hi => ?_, fun i hi => ?_, fun i hi => ?_, fun i hi => ?_, fun i hi k p q hp hq => ?_⟩
  · unfold skip; split <;> omega
  · unfold skip; split <;> split <;> omega
  · rw [e i hi]
  · rw [e i hi]; exact Int.le_refl _
  · rw [e i hi]; exact Int.le_refl _
  · rw [e i hi]; exact Int.le_refl _
  · rw [e i hi]
  · rw [e i hi, hq] at hp
    obtain rfl : q = p := by simpa using hp
    exact ⟨rfl, Int.le_refl _⟩
theorem cutT_valid {L : List Ta} {t : Nat} (ht : t < L.length) (hv : validL L = true) : validL (cutT L t) = true := by
  unfold validL rightB at hv ⊢
  simp only [Bool.and_eq_true, decide_eq_true_eq, List.all_eq_true] at hv ⊢
  exact ⟨⟨by rw [cutT_len ht]; omega, fun x hx => hv.1.2 x (cutT_mem hx)⟩, fun x hx => hv.2 x (cutT_mem hx)⟩
theorem fewer_acc {L : List Ta} {t : Nat} {F S : Int} (ht : t < L.length) (h : accE L F S = 0) : accE (cutT L t) F S = 0 := by
  have ho : okB L F S = true := by
    unfold accE at h
    split at h
    · assumption
    · simp at h
  have ha : accB L F S = true := by
    unfold accE at h
    rw [ho] at h
    cases q : accB L F S
    · rw [q] at h; simp at h
    · rfl
  unfold okB at ho
  rw [Bool.and_eq_true] at ho
  have hv := cutT_valid ht ho.1
  have hk := (cutT_sim ht).acc (valid_of hv) (valid_of ho.1) ha
  rw [accE, okB, hv, ho.2, hk]; rfl
theorem Rd.takeK {w : World} {a : Option Addr} {n k t : Nat} {α : Type} {f : α → List Value} {xs : List α} (h : Rd w a n k (xs.map f)) (ht : t ≤ n) : Rd w a t k ((xs.take t).map f) := by
  have hl := h.length
  refine ⟨by simp; omega, Nat.le_trans ht h.small, fun h0 => ?_⟩
  obtain ⟨b, off, rfl, hb, hc⟩ := h.at_ (by omega)
  refine ⟨b, off, rfl, hb, fun i hi j hj => ?_⟩
  have hi' : i < xs.length := by simp at hi; omega
  have := hc i (by simpa using hi') j hj
  rw [this]
  simp
theorem Rd.dropK {w : World} {b off n k t : Nat} {α : Type} {f : α → List Value} {xs : List α} (h : Rd w (some ⟨b, off, none⟩) n k (xs.map f)) (ht : t ≤ n) : Rd w (some ⟨b, off + t * k, none⟩) (n - t) k ((xs.drop t).map f) := by
  have hl := h.length
  refine ⟨by simp; omega, Nat.le_trans (Nat.sub_le _ _) h.small, fun h0 => ?_⟩
  obtain ⟨b', off', e, hb, hc⟩ := h.at_ (by omega)
  simp at e
  obtain ⟨rfl, rfl⟩ := e
  refine ⟨b, off + t * k, rfl, hb, fun i hi j hj => ?_⟩
  have hi' : i < xs.length - t := by simpa using hi
  have := hc (t + i) (by simp; omega) j hj
  rw [show off + t * k + i * k + j = off + (t + i) * k + j by rw [Nat.add_mul]; omega, this]
  simp
theorem cut_rd {w w3 : World} {a a3 : Option Addr} {n q m B e c3 : Nat} {g : List TaV} (hG : RdT w a n g) (hb : Below w.heap.size w w3) (hq : q + 1 ≤ n) (hl : g.length = n) (ho : w3.ownsRow B e 6 (.slice a3 m c3) m ((g.take q).flatMap encTa ++ (g.drop (q + 1)).flatMap encTa)) :
    RdL w3 a3 m (cutT (g.map TaV.ta) q) := by
  rw [← List.flatMap_append] at ho
  refine ⟨g.take q ++ g.drop (q + 1), ⟨Rd.of_owns encTa_len (by decide) ho, fun t ht => ?_⟩, by unfold cutT; simp [List.map_take, List.map_drop]⟩
  have hm : t ∈ g := by
    rcases List.mem_append.1 ht with h | h
    · exact List.mem_of_mem_take h
    · exact List.mem_of_mem_drop h
  exact (hG.ok t hm).ext hb
theorem slice_hi {w : World} {b off n c q : Nat} {g : List TaV} (h : Rd w (some ⟨b, off, none⟩) n 6 (g.map encTa)) (hq : q + 1 ≤ n) (hnc : n ≤ c) :
    ∃ o m k, (∀ w', (Instr.slice 22 (.slice (some ⟨b, off, none⟩) n c) none (some (.int .i64 (q : Int))) none).run Try.prog w' = .ok (.slice (some ⟨b, o, none⟩) m k) w') ∧ Rd w (some ⟨b, o, none⟩) m 6 ((g.take q).map encTa) ∧ m ≤ n := by
  refine ⟨off, q, c, fun w' => ?_, h.takeK (by omega), by omega⟩
  have hne : ¬ c = 0 := by omega
  rw [run_slice_h (P := Try.prog) w' 22 (some ⟨b, off, none⟩) n c (by kernel_rfl) .i64 (q : Int) (by omega) (by omega)]
  rw [show (Go.sizeOf (Try.prog.elem 22)).run Try.prog w' = .ok 6 w' by kernel_rfl]
  simp [Result.andThen, sliced, hne, Addr.add]
theorem slice_lo {w : World} {b off n c q : Nat} {g : List TaV} (h : Rd w (some ⟨b, off, none⟩) n 6 (g.map encTa)) (hq : q + 1 ≤ n) (hnc : n ≤ c) :
    ∃ o m k, (∀ w', (Instr.slice 22 (.slice (some ⟨b, off, none⟩) n c) (some (.int .i64 ((q : Int) + 1))) none none).run Try.prog w' = .ok (.slice (some ⟨b, o, none⟩) m k) w') ∧ Rd w (some ⟨b, o, none⟩) m 6 ((g.drop (q + 1)).map encTa) ∧ m ≤ n := by
  have hl := h.length
  have e : ((q : Int) + 1).toNat = q + 1 := by omega
  by_cases hc : c = q + 1
  · refine ⟨off, n - (q + 1), c - (q + 1), fun w' => ?_, ?_, by omega⟩
    · rw [run_slice_l (P := Try.prog) w' 22 (some ⟨b, off, none⟩) n c (by kernel_rfl) .i64 ((q : Int) + 1) (by omega) (by omega)]
      rw [show (Go.sizeOf (Try.prog.elem 22)).run Try.prog w' = .ok 6 w' by kernel_rfl]
      simp [Result.andThen, sliced, hc, e]
    · have : g.drop (q + 1) = [] := List.drop_of_length_le (by omega)
      rw [this, show n - (q + 1) = 0 by omega]
      exact Rd.nil _ _ _
  · refine ⟨off + (q + 1) * 6, n - (q + 1), c - (q + 1), fun w' => ?_, h.dropK hq, by omega⟩
    rw [run_slice_l (P := Try.prog) w' 22 (some ⟨b, off, none⟩) n c (by kernel_rfl) .i64 ((q : Int) + 1) (by omega) (by omega)]
    rw [show (Go.sizeOf (Try.prog.elem 22)).run Try.prog w' = .ok 6 w' by kernel_rfl]
    simp [Result.andThen, sliced, hc, e, Addr.add]
theorem opensB_slice3 {P : Program} {t e : TypeId} {k : Nat} {α : Type} [Inhabited α] {en : α → List Value} {ok : World → α → Prop} (ht : P.underlying t = some (.slice e)) (hk : P.cellsOf e = k) (hk0 : 0 < k) (he : OpensB P e (fun w cs y => cs = en y ∧ ok w y)) :
    OpensB P t (fun w cs (ys : List α) => ∃ a n c, cs = [.slice a n c] ∧ Rd w a n k (ys.map en) ∧ (∀ y ∈ ys, ok w y) ∧ (n = 0 → (a = none ∧ c = 0) ∨ ∃ ad, a = some ad) ∧ (n ≤ c ∧ c ≤ 9223372036854775807)) := by
  intro H enc w base spare held fuel cs x h hw
  rcases open_slice ht h with ⟨rfl, _⟩ | ⟨a, len, cap, m, n, D, Pl, rfl, hb, hl, hm, hmm, hxe, hx⟩
  · exact ⟨[], none, 0, 0, rfl, Rd.nil w k none, by simp, fun _ => .inl ⟨rfl, rfl⟩, by omega⟩
  · have hlm : len ≤ m := by rw [hmm]; split <;> omega
    rw [hxe] at hw
    simp only [DataW.weights, ht, List.mem_cons, List.mem_append, List.length_map, List.length_range] at hw
    have each : ∀ i, i < len → ∃ y : α, (∀ j, j < k → w.cell? ((a.add (i * k)).add j) = (en y)[j]?) ∧ ok w y := by
      intro i hi
      obtain ⟨cs', h1, h2⟩ := hx i (by omega)
      rw [hk] at h1
      obtain ⟨_, hlen, hcell⟩ := World.cells?_some h1
      obtain ⟨y, rfl, hok⟩ := he h2 (fun q hq => hw q (.inr (.inl (weightsAll_mem (List.mem_map_of_mem (List.mem_range.2 hi)) q hq))))
      exact ⟨y, hcell, hok⟩
    obtain ⟨q, hq⟩ := choose_lt each
    refine ⟨(List.range len).map q, some a, len, cap, rfl, ⟨by simp, by unfold maxLen at hm; omega, fun h0 => ?_⟩, fun y hy => ?_, fun _ => .inr ⟨a, rfl⟩, hl, by unfold maxLen at hm; omega⟩
    · have c0 := (hq 0 h0).1 0 hk0
      have hne : ∃ v, w.cell? ((a.add (0 * k)).add 0) = some v := by
        obtain ⟨cs', h1, h2⟩ := hx 0 (by omega)
        rw [hk] at h1
        obtain ⟨_, hlen, hcell⟩ := World.cells?_some h1
        rw [hcell 0 hk0]
        exact ⟨cs'[0], by simp [List.getElem?_eq_getElem, hlen, hk0]⟩
      obtain ⟨v, hv⟩ := hne
      have hs0 := World.cell?_spot hv
      have hsp : a.spot = none := by
        obtain ⟨b, o, s⟩ := a
        unfold Addr.add at hs0
        simp at hs0
        exact hs0
      have hblk := World.block_lt_of_cell? w _ hv
      rw [addB_add _ _ hsp, addB_add _ _ rfl] at hblk
      refine ⟨a.block, a.off, by obtain ⟨b, o, s⟩ := a; simp only at hsp; rw [hsp], hblk, fun i hi j hj => ?_⟩
      have hi' : i < len := by simpa using hi
      have := (hq i hi').1 j hj
      rw [addB_add _ _ hsp, addB_add _ _ rfl] at this
      simp only at this
      rw [this]; simp
    · obtain ⟨i, hi, rfl⟩ := List.mem_map.1 hy
      exact (hq i (List.mem_range.1 hi)).2
set_option maxRecDepth 100000 in
theorem open_T3 {H : Type} {enc : TypeId × Value → H} {w : World} {base b0 : Nat} {spare : Nat → Bool} {held : Bool} {r : Reach} {v : Value} {d : DataW H} {ps : List MemPlace}
    (hv : Value.okWide Try.prog w r b0 22 v) (h : DataW.Trod enc Try.prog w base spare held 22 v d ps) (hw : ∀ n ∈ d.weights Try.prog 22, n ≤ reachBytes) :
    ∃ a n c, v = .slice a n c ∧ ∃ L : List Ta, RdL w a n L ∧ (∀ t ∈ L, t.pcs.length ≤ 281474976710656) ∧ NilOk a n c ∧ (n ≤ c ∧ c ≤ 9223372036854775807) := by
  obtain ⟨a0, n0, c0, rfl⟩ := okWide_slice Try.underlying22 hv
  obtain ⟨fuel, hf⟩ := h
  obtain ⟨ys, a, n, c, e, h1, h2, h3, h4⟩ := opensB_slice3 (en := encTa) (k := 6) (ok := fun w t => t.ok w ∧ t.n ≤ 281474976710656) Try.underlying22 (by kernel_rfl) (by decide) opensB_task hf hw
  simp [Value.cells] at e
  obtain ⟨rfl, rfl, rfl⟩ := e
  refine ⟨_, _, _, rfl, _, RdT.rdL ⟨h1, fun t ht => (h2 t ht).1⟩, fun t ht => ?_, h3, h4⟩
  obtain ⟨u, hu, rfl⟩ := List.mem_map.1 ht
  have := (h2 u hu).1.1.length
  have := (h2 u hu).2
  have e : (TaV.ta u).pcs.length = u.pcs.length := rfl
  omega
set_option maxRecDepth 10000 in
set_option maxHeartbeats 8000000 in
theorem fewer_walk {w : World} (a : Option Addr) (n c : Nat) (L : List Ta) (hL : RdL w a n L) (hT : ∀ t ∈ L, t.pcs.length ≤ 281474976710656) (hN : NilOk a n c) (hC : n ≤ c ∧ c ≤ 9223372036854775807) (F S t : Int) (ht : -9223372036854775808 ≤ t ∧ t ≤ 9223372036854775807) :
    Calls Try.prog 3 #[.slice a n c, .agg #[.int .i64 F, .int .i64 S], .int .i64 t] w fun e w' => e = .returned (.bool true) ∧ Below w.heap.size w w' := by
  have HM := Lib.hid ((many_any a n c L _ (hL.ext (Below.alloc (Below.refl _ _) (Nat.le_refl _) _)) hT) : Calls Try.prog 15 #[.slice a n c] (w.alloc (.cells #[.int .i64 F, .int .i64 S] 24)) _)
  have HR := Lib.hid hL
  have hll := hL.length
  have hsm := hL.small
  have e2 := ETk
  cases hm : manyL n L
  · rw [hm] at HM
    have hn4 := (Many_no hm).1
    by_cases h0 : t < 0
    · clear hL hT hm hll
      go_enter Try.func3, Try.ntmps3
      go_wp2_with (first
        | (go_at_call 15; refine (HM.out).mono ?_; rintro e w1 ⟨rfl, rfl⟩)
        | (go_at_call 17; (with_reducible refine (sane_any _).mono ?_); rintro e w9 ⟨rfl, hb9⟩; have B9 := Lib.hid hb9; clear hb9))
      go_ret
      exact ⟨rfl, Below.then (Below.alloc (Below.refl _ _) (Nat.le_refl _) _) B9.out⟩
    · have h0' : decide (t < 0) = false := by simpa using h0
      by_cases h1 : (n : Int) ≤ t
      · clear hL hT hm hll
        go_enter Try.func3, Try.ntmps3
        go_wp2_with (first
          | (go_at_call 15; refine (HM.out).mono ?_; rintro e w1 ⟨rfl, rfl⟩)
          | (go_at_call 17; (with_reducible refine (sane_any _).mono ?_); rintro e w9 ⟨rfl, hb9⟩; have B9 := Lib.hid hb9; clear hb9))
        go_ret
        exact ⟨rfl, Below.then (Below.alloc (Below.refl _ _) (Nat.le_refl _) _) B9.out⟩
      · obtain ⟨q, rfl⟩ := Int.eq_ofNat_of_zero_le (Int.not_lt.1 h0)
        have hq : q < n := by omega
        have h1' : decide ((n : Int) ≤ (q : Int)) = false := by simpa using h1
        have h1'' : decide (n ≤ q) = false := by simp; omega
        obtain ⟨z, hz⟩ : ∃ z, accE L F S = z := ⟨_, rfl⟩
        have HAE := Lib.hid hz
        by_cases hz0 : z = 0
        · subst hz0
          have HAK := Lib.hid (fewer_acc (t := q) (by omega) hz)
          obtain ⟨g, hG, hg⟩ := hL
          obtain ⟨b, off, rfl, hb, _⟩ := hG.rd.at_ (by omega)
          have HG := Lib.hid hG
          have Hg := Lib.hid hg
          have hqc : q ≤ c := by omega
          have hqc1 : q + 1 ≤ c := by omega
          have hqn1 : q + 1 ≤ n := by omega
          have hi1 : (q : Int) + 1 ≤ (n : Int) := by omega
          have hi2 : (0 : Int) ≤ (q : Int) + 1 := by omega
          have hi3 : (n : Int) ≤ (c : Int) := by omega
          have hi4 : (q : Int) + 1 ≤ (c : Int) := by omega
          have hlg : g.length = n := hG.length
          obtain ⟨o1, m1, k1', hs1, hd1, hm1⟩ := slice_hi (c := c) hG.rd hqn1 hC.1
          obtain ⟨o2, m2, k2', hs2, hd2, hm2⟩ := slice_lo (c := c) hG.rd hqn1 hC.1
          have hmt1 := hd1.length
          have hmt2 := hd2.length
          have hwr : IntKind.i64.wrap ((q : Int) + 1) = (q : Int) + 1 := IntWalk.i64_in _ (by omega)
          have HM1 := Lib.hid hmt1
          have HM2 := Lib.hid hmt2
          have HD1 := Lib.hid hd1
          have HD2 := Lib.hid hd2
          clear hT hm hll hz hG hg hd1 hd2 hmt1 hmt2 hC hi1 hi2 hi3 hi4 hqc hqc1
          go_enter Try.func3, Try.ntmps3
          go_wp2_with (first
            | (go_at_call 15; refine (HM.out).mono ?_; rintro e w1 ⟨rfl, rfl⟩)
            | (go_at_call 16; (with_reducible refine (Accept_is (HR.out.ext (Below.alloc (Below.refl _ _) (Nat.le_refl _) _)) HAE.out).mono ?_); rintro e w1 ⟨rfl, hb1⟩; have B1 := Lib.hid (Below.then (Below.alloc (Below.refl _ _) (Nat.le_refl _) _) hb1); have c0 := (hb1.cell (p := ⟨w.heap.size, 0, none⟩) (by simp)).trans (show _ = some (.int .i64 F) by simp [go_sem]); have c1 := (hb1.cell (p := ⟨w.heap.size, 1, none⟩) (by simp)).trans (show _ = some (.int .i64 S) by simp [go_sem]); have hz1 := hb1.size; simp only [World.size_alloc] at hz1; clear hb1))
          go_region_held3 (fun w' => w'.cell? ⟨w.heap.size, 0, none⟩ = some (.int .i64 F) ∧ w'.cell? ⟨w.heap.size, 1, none⟩ = some (.int .i64 S))
            (first | go_keep)
            (first
              | (refine step_app (by rfl) _ _ _ (by rfl) e2 (B := w1.heap.size) (n := 0) (xs := []) (news := (g.take q).flatMap encTa) (by rfl) (by exact (World.ownsRow_lit w1 #[] 0 (Nat.le_refl _) (by decide) rfl)) (by rfl) (by rw [flat_len encTa_len, HM1.out]) (by exact News.rd encTa_len (by decide) (HD1.out.ext (by refine Below.then B1.out ?_; (repeat' (first | (with_reducible exact Below.refl _ _) | (with_reducible assumption) | (with_reducible refine Below.alloc ?_ ?_ _) | (with_reducible refine Below.drew ?_) | (with_reducible refine Below.draws ?_ _) | (with_reducible refine Below.setCell ?_ ?_ _) | (refine Below.then ?_ (by with_reducible assumption)) | go_size)))) (fun _ => .inr ⟨_, rfl⟩)) (by intro u hu; obtain ⟨y, _, hy⟩ := List.mem_flatMap.1 hu; exact encTa_one y u hy) (by omega) (by decide) (by simp) ?_
                 intro a2 c2 w2 hown2 hg2
                 have hbw : Below w1.heap.size w1 w2 := Below.trans (by (repeat' (first | (with_reducible exact Below.refl _ _) | (with_reducible assumption) | (with_reducible refine Below.alloc ?_ ?_ _) | (with_reducible refine Below.drew ?_) | (with_reducible refine Below.draws ?_ _) | (with_reducible refine Below.setCell ?_ ?_ _) | (refine Below.then ?_ (by with_reducible assumption)) | go_size))) (grown_below (B := w1.heap.size) (e := 52) (k := 6) (n := 0) (xs := []) (by exact (World.ownsRow_lit w1 #[] 0 (Nat.le_refl _) (by decide) rfl)) hg2 (by simp))
                 simp only [Nat.zero_add, List.nil_append] at hown2 ⊢
                 have HO2 := Lib.hid hown2
                 have B2 := Lib.hid hbw
                 have k0 := (hbw.cell (p := ⟨w.heap.size, 0, none⟩) (by simp only []; omega)).trans c0
                 have k1 := (hbw.cell (p := ⟨w.heap.size, 1, none⟩) (by simp only []; omega)).trans c1
                 clear hown2 hg2 hbw)
              | (refine step_app (by rfl) _ _ _ (by rfl) e2 (B := w1.heap.size) (news := (g.drop (q + 1)).flatMap encTa) (by rfl) HO2.out (by rfl) (by rw [flat_len encTa_len, HM2.out]) (by exact News.rd encTa_len (by decide) (HD2.out.ext (by refine Below.then ?_ B2.out; exact B1.out)) (fun _ => .inr ⟨_, rfl⟩)) (by intro u hu; obtain ⟨y, _, hy⟩ := List.mem_flatMap.1 hu; exact encTa_one y u hy) (by omega) (by decide) (by have := B2.out.size; omega) ?_
                 intro a3 c3 w3 hown3 hg3
                 have hbw : Below w1.heap.size w2 w3 := grown_below (B := w1.heap.size) (e := 52) (k := 6) HO2.out hg3 (by have := B2.out.size; omega)
                 have HO3 := Lib.hid hown3
                 have B3 := Lib.hid (B2.out.trans hbw)
                 have l0 := (hbw.cell (p := ⟨w.heap.size, 0, none⟩) (by simp only []; omega)).trans k0
                 have l1 := (hbw.cell (p := ⟨w.heap.size, 1, none⟩) (by simp only []; omega)).trans k1
                 clear hown3 hg3 hbw))
          have HW3 : Hid (Below w.heap.size w w3) := Lib.hid (Below.then B1.out B3.out)
          have HRK := Lib.hid (cut_rd HG.out HW3.out hqn1 hlg HO3.out)
          rw [Hg.out] at HRK
          clear B1 B2 B3
          go_wp2_with (first
            | (go_at_call 16; (with_reducible refine (Accept_is HRK.out HAK.out).mono ?_); rintro e w5 ⟨rfl, hb5⟩; have B5 := Lib.hid hb5; clear hb5)
            | (go_at_call 17; (with_reducible refine (sane_any _).mono ?_); rintro e w9 ⟨rfl, hb9⟩; have B9 := Lib.hid hb9; clear hb9))
          go_ret
          exact ⟨rfl, (by repeat (first | (with_reducible exact Below.refl _ _) | (refine Below.then ?_ (Hid.out (by with_reducible assumption)))))⟩
        · have hz' : (z != 0) = true := by simpa using hz0
          clear hL hT hm hll hz
          go_enter Try.func3, Try.ntmps3
          go_wp2_with (first
            | (go_at_call 15; refine (HM.out).mono ?_; rintro e w1 ⟨rfl, rfl⟩)
            | (go_at_call 16; (with_reducible refine (Accept_is (HR.out.ext (Below.alloc (Below.refl _ _) (Nat.le_refl _) _)) HAE.out).mono ?_); rintro e w1 ⟨rfl, hb1⟩; have B1 := Lib.hid (Below.then (Below.alloc (Below.refl _ _) (Nat.le_refl _) _) hb1); clear hb1)
            | (go_at_call 17; (with_reducible refine (sane_any _).mono ?_); rintro e w9 ⟨rfl, hb9⟩; have B9 := Lib.hid hb9; clear hb9))
          go_ret
          exact ⟨rfl, (by repeat (first | (with_reducible exact Below.refl _ _) | (refine Below.then ?_ (Hid.out (by with_reducible assumption)))))⟩
  · rw [hm] at HM
    clear hL hT hm
    go_enter Try.func3, Try.ntmps3
    go_wp2_with (first
      | (go_at_call 15; refine (HM.out).mono ?_; rintro e w1 ⟨rfl, rfl⟩)
      | (go_at_call 17; (with_reducible refine (sane_any _).mono ?_); rintro e w9 ⟨rfl, hb9⟩; have B9 := Lib.hid hb9; clear hb9))
    go_ret
    exact ⟨rfl, Below.then (Below.alloc (Below.refl _ _) (Nat.le_refl _) _) B9.out⟩
end Go.Proofs.Ytabbmnnohnfbeaa
