/- The walk of ResponseAssigns: it returns true. The conditions: the tasks read as named; their lists are no longer than memory bears. -/
import Derived.Test.YtabbmnnohnfbeaaAsTop3
import Derived.Test.YtabbmnnohnfbeaaIntsEq
import Derived.Test.YtabbmnnohnfbeaaRsSane
namespace Go.Proofs.Ytabbmnnohnfbeaa
open Go.RowKit
set_option linter.unusedSimpArgs false
set_option linter.unusedVariables false
/-- what Assign finds: priorities that are an order's -/
structure AsgOk (L : List Ta) (F S : Int) (xs : List Int) : Prop where
  len : xs.length = L.length
  rng : ∀ x ∈ xs, 0 ≤ x ∧ x < L.length
  nd : xs.Nodup
  v : ValidT L
  acc : ∀ K : List Ta, K.length = L.length → (∀ (j : Nat) (t u : Ta) (x : Int), L[j]? = some t → K[j]? = some u → xs[j]? = some x → u = { t with pri := x }) → accE K F S = 0
theorem asgR_is {L : List Ta} {F S : Int} {xs : List Int} (h : asgR L F S = (xs, 0)) : AsgOk L F S xs := by
  cases hok : okB L F S
  · unfold asgR at h; rw [hok] at h; simp at h
  · rw [asgR_ok hok] at h
    cases hp : asgF L F S L.length (idxs L.length) [] with
    | none => rw [hp] at h; simp [asgEnd] at h
    | some p =>
      rw [hp, asgEnd] at h
      split at h
      · rename_i ha
        simp at h
        have ho := asg_ord hp
        have hvs : validL L = true ∧ supB F S = true := by unfold okB at hok; simpa using hok
        have hV := valid_of hvs.1
        have hx : ∀ (j : Nat), j < L.length → ∃ q : Nat, p[q]? = some (j : Int) ∧ q < L.length ∧ xs[j]? = some ((L.length : Int) - 1 - q) := fun j hj => by
          obtain ⟨q, hq⟩ := idx_of_mem (x := (j : Int)) (ho.mem.2 ⟨by omega, by omega⟩)
          have hql := (List.getElem?_eq_some_iff.1 hq).1
          rw [ho.len] at hql
          refine ⟨q, hq, hql, ?_⟩
          have hjl : j < (ordL L p).length := by rw [ordL_len]; exact hj
          have e := taAt_of (List.getElem?_eq_getElem hjl)
          have hpr := ordL_pri ho hq
          unfold priI at hpr
          rw [e] at hpr
          rw [← h, List.getElem?_map, List.getElem?_eq_getElem hjl]
          simp [hpr]
        have hxl : xs.length = L.length := by rw [← h]; simp [ordL_len]
        refine ⟨hxl, fun x hm => ?_, ?_, hV, fun K hK hk => ?_⟩
        · obtain ⟨j, hj⟩ := List.getElem?_of_mem hm
          have hjl := (List.getElem?_eq_some_iff.1 hj).1
          obtain ⟨q, _, hq, e⟩ := hx j (by omega)
          rw [hj] at e; simp at e; omega
        · refine List.pairwise_iff_getElem.2 (fun i j hi hj hij e => ?_)
          obtain ⟨q, hq, _, e1⟩ := hx i (by omega)
          obtain ⟨r, hr, _, e2⟩ := hx j (by omega)
          rw [List.getElem?_eq_getElem hi] at e1
          rw [List.getElem?_eq_getElem hj] at e2
          simp at e1 e2
          have : q = r := by omega
          subst this
          rw [hq] at hr
          simp at hr
          omega
        · have hKO : K = ordL L p := by
            apply List.ext_getElem?
            intro j
            by_cases hj : j < L.length
            · obtain ⟨q, hq, _, e1⟩ := hx j hj
              have h1 : K[j]? = some (K[j]'(by omega)) := List.getElem?_eq_getElem (by omega)
              have h2 := hk j _ _ _ (List.getElem?_eq_getElem hj) h1 e1
              have hjl : j < (ordL L p).length := by rw [ordL_len]; exact hj
              have e := taAt_of (List.getElem?_eq_getElem hjl)
              have hpr := ordL_pri ho hq
              unfold priI at hpr
              rw [h1, List.getElem?_eq_getElem hjl, h2, ← e, ordL_at ho (by omega)]
              rw [ordL_at ho (by omega)] at hpr
              simp only [] at hpr
              rw [hpr, taAt_of (List.getElem?_eq_getElem hj)]
            · rw [List.getElem?_eq_none (by omega), List.getElem?_eq_none (by rw [ordL_len]; omega)]
          rw [hKO]
          unfold accE okB
          rw [ordL_valid hV ho, hvs.2, ha]; rfl
      · simp at h
theorem rAssign_is {a : Option Addr} {n c : Nat} {F S y : Int} {xs : List Int} {L : List Ta} {w : World} (hL : RdL w a n L) (hN : NilOk a n c) (h : asgR L F S = (xs, y)) :
    Calls Try.prog 51 #[.slice a n c, .agg #[.int .i64 F, .int .i64 S]] w (OutIE w.heap.size w xs y) := by
  have := rAssign_any a n c F S L w hL hN
  rw [h] at this; exact this
theorem Assign_is' {a : Option Addr} {n c : Nat} {F S y : Int} {xs : List Int} {L : List Ta} {w : World} (hL : RdL w a n L) (hN : NilOk a n c) (h : asgR L F S = (xs, y)) :
    Calls Try.prog 50 #[.slice a n c, .agg #[.int .i64 F, .int .i64 S]] w (OutIE w.heap.size w xs y) := by
  have := Assign_any a n c F S L w hL hN
  rw [h] at this; exact this
/-- which priorities are used -/
def usedV (n : Nat) (xs : List Int) : List Value := (List.range n).map (fun (x : Nat) => Value.bool (hasI xs (x : Int)))
theorem usedV_get {n : Nat} {xs : List Int} {x : Nat} (h : x < n) : (usedV n xs)[x]? = some (.bool (hasI xs (x : Int))) := by simp [usedV, h]
theorem usedV_set {n : Nat} {xs : List Int} {x : Nat} (h : x < n) : (usedV n xs).set x (.bool true) = usedV n (xs ++ [(x : Int)]) := by
  apply List.ext_getElem?
  intro j
  rw [List.getElem?_set]
  by_cases e : x = j
  · subst e
    rw [if_pos rfl, if_pos (by simpa [usedV] using h), usedV_get h]
    congr 2
    exact (hasI_iff.2 (by simp)).symm
  · rw [if_neg e]
    by_cases hj : j < n
    · rw [usedV_get hj, usedV_get hj]
      congr 2
      rw [Bool.eq_iff_iff, hasI_iff, hasI_iff, List.mem_append, List.mem_singleton]
      constructor
      · intro h; exact .inl h
      · rintro (h | h)
        · exact h
        · omega
    · rw [List.getElem?_eq_none (by simp [usedV]; omega), List.getElem?_eq_none (by simp [usedV]; omega)]
theorem wpList_mkB {ops : Array Oper} {rest : List Oper} {o : Oper} {a : Act} {Q : Exit → Act → World → Prop} {w : World} (hg : o.guard = none) (l c : Operand) (hop : o.op = Op.makeSlice 67 l c)
    {B : Nat} {kl kc : IntKind} {C D : Int} (n : Nat) (hl : a.eval l = .int kl D) (hc : a.eval c = .int kc C) (hD : D = (n : Int)) (hC : C = (n : Int)) (hn : n ≤ 100000000) (hB : B ≤ w.heap.size)
    (hK : ∀ w', w'.ownsRow B 4 1 (.slice (some ⟨w.heap.size, 0, none⟩) n n) n (usedV n []) → Below B w w' → w.heap.size < w'.heap.size → wpList Try.prog ops Q rest (a.put o.dst (.slice (some ⟨w.heap.size, 0, none⟩) n n)) w') : wpList Try.prog ops Q (o :: rest) a w := by
  obtain ⟨i, h1, h2, h3, h4⟩ := info_parts (show (Try.prog.info? 4).map (fun i => (i.zero, i.size, i.bytes)) = some (some (.bool false), 1, 1) by kernel_rfl)
  refine wpList_make_full w hg l c 67 hop B 4 i (.bool false) 1 Try.underlying67 h1 h2 h3 kl kc D C n hl hc hD hC (by rw [h4]; omega) (by unfold maxLen; omega) hB fun w' q1 q2 => hK w' ?_ ((Below.refl B w).grown q2 hB (by simp)) ?_
  · have e : (madeCells (Value.bool false).cells (n * 1)).toList = usedV n [] := by
      rw [Nat.mul_one]
      have : (madeCells (Value.bool false).cells n).toList = List.replicate n (Value.bool false) := toList_madeCells_one _ n
      rw [this]
      apply List.ext_getElem?
      intro j
      by_cases hj : j < n
      · rw [usedV_get hj]; simp [hj, hasI]
      · rw [List.getElem?_eq_none (by simp; omega), List.getElem?_eq_none (by simp [usedV]; omega)]
    rw [← e]; exact q1
  · rcases q1.2 with ⟨h, _⟩ | ⟨g, cap, cur, h, _, hh, _⟩
    · simp at h
    · simp at h; rw [h.1]; exact (Array.getElem?_eq_some_iff.1 hh).1
/-- the tasks whose priorities are set so far -/
def PrL (L K : List Ta) (xs : List Int) (i : Nat) : Prop := K.length = L.length ∧ ∀ (j : Nat) (t u : Ta) (x : Int), L[j]? = some t → K[j]? = some u → xs[j]? = some x → (j < i → u = { t with pri := x }) ∧ (i ≤ j → u = t)
theorem PrL.start (L : List Ta) (xs : List Int) : PrL L L xs 0 := ⟨rfl, fun j t u x h1 h2 _ => ⟨fun h => by omega, fun _ => by rw [h1] at h2; simpa using h2.symm⟩⟩
theorem PrL.set {L K : List Ta} {xs : List Int} {i : Nat} (h : PrL L K xs i) {u : Ta} (hu : K[i]? = some u) {x : Int} (hx : xs[i]? = some x) : PrL L (K.set i { u with pri := x }) xs (i + 1) := by
  refine ⟨by simpa using h.1, fun j t v y h1 h2 h3 => ?_⟩
  rw [List.getElem?_set] at h2
  split at h2
  · rename_i e; subst e
    split at h2
    · simp at h2; subst h2
      rw [hx] at h3; simp at h3; subst h3
      have := (h.2 _ t u x h1 hu hx).2 (Nat.le_refl _)
      subst this
      exact ⟨fun _ => rfl, fun h => by omega⟩
    · simp at h2
  · rename_i e
    have := h.2 j t v y h1 h2 h3
    exact ⟨fun hj => this.1 (by omega), fun hj => this.2 (by omega)⟩
theorem MutT.far {B B' : Nat} {w : World} {a : Option Addr} {n c : Nat} {g : List TaV} (h : MutT B w a n c g) {q m d : Nat} {us : List Value} (ho : w.ownsRow B' 4 1 (.slice (some ⟨q, 0, none⟩) m d) m us) (j : Nat) (u : Value) : MutT B (w.setCell ⟨q, j, none⟩ u) a n c g :=
  ⟨⟨ownsRow_setCell_other h.own.own (owns_diff ho h.own.own (by decide)) u, fun t ht => ownsRow_setCell_other (h.own.ok t ht) (owns_diff ho (h.own.ok t ht) (by decide)) u⟩, h.ap⟩
set_option maxRecDepth 100000 in
set_option maxHeartbeats 8000000 in
theorem assigns_walk {w : World} (a : Option Addr) (n c : Nat) (L : List Ta) (hL : RdL w a n L) (hT : ∀ t ∈ L, t.pcs.length ≤ 281474976710656) (hN : NilOk a n c) (F S : Int) :
    Calls Try.prog 13 #[.slice a n c, .agg #[.int .i64 F, .int .i64 S]] w fun e w' => e = .returned (.bool true) ∧ Below w.heap.size w w' := by
  have HM := Lib.hid (fun w' (hb : Below w.heap.size w w') => many_any a n c L w' (hL.ext hb) hT)
  have HA := Lib.hid hL; have HN := Lib.hid hN
  have hll := hL.length
  obtain ⟨m1, hm1⟩ : ∃ x, manyL n L = x := ⟨_, rfl⟩
  rw [hm1] at HM
  obtain ⟨xs, y, has⟩ : ∃ x y, asgR L F S = (x, y) := ⟨_, _, rfl⟩
  have HAS := Lib.hid has
  have HLL := Lib.hid hll
  clear hL hT hN hm1
  cases m1
  · by_cases hy : y = 0
    · subst hy
      have hO := asgR_is has
      have HOK := Lib.hid hO
      have hn5 : n ≤ 5 := by rw [← hll]; exact hO.v.r.len
      have HP : Hid (∀ t ∈ L, t.pcs.length ≤ 1000) := Lib.hid (fun t ht => by have := (hO.v.r.pcs t ht).2; omega)
      clear hO has hll
      go_enter Try.func13, Try.ntmps13
      go_wp2_with (first
          | (go_at_call 15; (with_reducible refine (HM.out _ (by (repeat' (first | (with_reducible exact Below.refl _ _) | (with_reducible assumption) | (with_reducible refine Below.alloc ?_ ?_ _) | (with_reducible refine Below.drew ?_) | (with_reducible refine Below.draws ?_ _) | (with_reducible refine Below.setCell ?_ ?_ _) | (refine Below.then ?_ (by with_reducible assumption)) | go_size)))).mono ?_); rintro e9 w9 ⟨rfl, rfl⟩)
          | (go_at_call 50; (with_reducible refine (Assign_is' (HA.out.ext (by (repeat' (first | (with_reducible exact Below.refl _ _) | (with_reducible assumption) | (with_reducible refine Below.alloc ?_ ?_ _) | (with_reducible refine Below.drew ?_) | (with_reducible refine Below.draws ?_ _) | (with_reducible refine Below.setCell ?_ ?_ _) | (refine Below.then ?_ (by with_reducible assumption)) | go_size)))) HN.out HAS.out).mono ?_); rintro e w1 ⟨a1, n1, c1, rfl, ho1, hb1⟩; obtain ⟨hc1, hf1, hz1, hr1⟩ := bfacts hb1; (try simp only [World.size_alloc, World.size_setCell, World.size_drew, World.size_drewN] at hz1 hr1); (try have hs1_w_0 : w.heap.size < w1.heap.size := by omega); have HO1 := Lib.hid (ownsI_rd ho1); clear ho1)
          | (go_at_call 51; (with_reducible refine (rAssign_is (HA.out.ext (by (repeat' (first | (with_reducible exact Below.refl _ _) | (with_reducible assumption) | (with_reducible refine Below.alloc ?_ ?_ _) | (with_reducible refine Below.drew ?_) | (with_reducible refine Below.draws ?_ _) | (with_reducible refine Below.setCell ?_ ?_ _) | (refine Below.then ?_ (by with_reducible assumption)) | go_size)))) HN.out HAS.out).mono ?_); rintro e w2 ⟨a2, n2, c2, rfl, ho2, hb2⟩; obtain ⟨hc2, hf2, hz2, hr2⟩ := bfacts hb2; (try simp only [World.size_alloc, World.size_setCell, World.size_drew, World.size_drewN] at hz2 hr2); (try have hs2_w_0 : w.heap.size < w2.heap.size := by omega); have HO2 := Lib.hid (ownsI_rd ho2); clear ho2)
          | (go_at_call 22; (with_reducible refine (ints_eq _ _ _ _ _ _ xs _ (HO1.out.ext (by (repeat' (first | (with_reducible exact Below.refl _ _) | (with_reducible assumption) | (with_reducible refine Below.alloc ?_ ?_ _) | (with_reducible refine Below.drew ?_) | (with_reducible refine Below.draws ?_ _) | (with_reducible refine Below.setCell ?_ ?_ _) | (refine Below.then ?_ (by with_reducible assumption)) | go_size)))) (HO2.out.ext (by (repeat' (first | (with_reducible exact Below.refl _ _) | (with_reducible assumption) | (with_reducible refine Below.alloc ?_ ?_ _) | (with_reducible refine Below.drew ?_) | (with_reducible refine Below.draws ?_ _) | (with_reducible refine Below.setCell ?_ ?_ _) | (refine Below.then ?_ (by with_reducible assumption)) | go_size))))).mono ?_); rintro e w3 ⟨rfl, hb3⟩; obtain ⟨hc3, hf3, hz3, hr3⟩ := bfacts hb3; (try simp only [World.size_alloc, World.size_setCell, World.size_drew, World.size_drewN] at hz3 hr3); (try have hs3_w_0 : w.heap.size < w3.heap.size := by omega))
          | (go_at_call 17; (with_reducible refine (sane_any _).mono ?_); rintro e8 w8 ⟨rfl, hb8⟩)
          | (go_at_call 29; (with_reducible refine (copied_M _ _ _ L (by omega) HP.out _ (HA.out.ext (by (repeat' (first | (with_reducible exact Below.refl _ _) | (with_reducible assumption) | (with_reducible refine Below.alloc ?_ ?_ _) | (with_reducible refine Below.drew ?_) | (with_reducible refine Below.draws ?_ _) | (with_reducible refine Below.setCell ?_ ?_ _) | (refine Below.then ?_ (by with_reducible assumption)) | go_size)))) HN.out).mono ?_); rintro e w4 ⟨a4, c4, g4, rfl, hm4, hg4, hb4⟩; obtain ⟨hc4, hf4, hz4, hr4⟩ := bfacts hb4; (try simp only [World.size_alloc, World.size_setCell, World.size_drew, World.size_drewN] at hz4 hr4); (try have hs4_w_0 : w.heap.size < w4.heap.size := by omega); have HM4 := Lib.hid hm4; have HG4 := Lib.hid hg4; clear hm4 hg4)
          | (at_make; refine wpList_mkB (B := w4.heap.size) rfl _ _ rfl n rfl rfl rfl rfl (by omega) (Nat.le_refl _) ?_; intro w5 hown5 hb5 hlt5; have HO5 := Lib.hid hown5; have B5 := Lib.hid hb5; clear hown5 hb5))
      have HX1 := Lib.hid (HO1.out.ext (show Below w1.heap.size w1 w4 by (repeat' (first | (with_reducible exact Below.refl _ _) | (with_reducible assumption) | (with_reducible refine Below.alloc ?_ ?_ _) | (with_reducible refine Below.drew ?_) | (with_reducible refine Below.draws ?_ _) | (with_reducible refine Below.setCell ?_ ?_ _) | (refine Below.then ?_ (by with_reducible assumption)) | go_size))))
      have hBW : Below w.heap.size w w4 := by (repeat' (first | (with_reducible exact Below.refl _ _) | (with_reducible assumption) | (with_reducible refine Below.alloc ?_ ?_ _) | (with_reducible refine Below.drew ?_) | (with_reducible refine Below.draws ?_ _) | (with_reducible refine Below.setCell ?_ ?_ _) | (refine Below.then ?_ (by with_reducible assumption)) | go_size))
      have s0 : w5.cell? ⟨w.heap.size, 0, none⟩ = some (.int .i64 F) := (B5.out.cell (p := ⟨w.heap.size, 0, none⟩) (by simp only []; omega)).trans (by simp [go_sem, *])
      have s1 : w5.cell? ⟨w.heap.size, 1, none⟩ = some (.int .i64 S) := (B5.out.cell (p := ⟨w.heap.size, 1, none⟩) (by simp only []; omega)).trans (by simp [go_sem, *])
      have HBW := Lib.hid hBW
      have hn1 : n1 = n := by have := HO1.out.length; rw [HOK.out.len, HLL.out] at this; exact this.symm
      subst hn1
      have HM5 := Lib.hid (HM4.out.ext B5.out)
      have HX5 := Lib.hid (HX1.out.ext B5.out)
      obtain ⟨sb, hsb⟩ : ∃ x, w.heap.size = x := ⟨_, rfl⟩
      obtain ⟨ub, hub⟩ : ∃ x, w4.heap.size = x := ⟨_, rfl⟩
      obtain ⟨B, hB⟩ : ∃ x, w3.heap.size = x := ⟨_, rfl⟩
      have hsB : sb < B := by omega
      have hBu : B ≤ ub := by have := hb4.size; omega
      have hw1B : w1.heap.size ≤ B := by have := hb2.size; have := hb3.size; omega
      rw [hB] at HM5
      rw [hsb] at s0 s1
      rw [hub] at HO5
      have HS0 := Lib.hid s0; have HS1 := Lib.hid s1
      have HSB := Lib.hid hsb; have HUB := Lib.hid hub
      simp only [hsb, hub]
      clear s0 s1 hsb hub hBW hb1 hb2 hb3 hb4 hc1 hc2 hc3 hc4 hf1 hf2 hf3 hf4
      go_loopw [11] (fun iv wr => ∃ (i : Nat) (g : List TaV), i ≤ n1 ∧ iv = .int .i64 i ∧ MutT B wr a4 n1 c4 g ∧ wr.ownsRow ub 4 1 (.slice (some ⟨ub, 0, none⟩) n1 n1) n1 (usedV n1 (xs.take i)) ∧ PrL L (g.map TaV.ta) xs i ∧ Below B w5 wr) (fun iv _ => n1 - (intOf iv).toNat)
      case atStart => exact ⟨0, g4, Nat.zero_le _, rfl, HM5.out, HO5.out, by rw [HG4.out]; exact PrL.start L xs, Below.refl _ _⟩
      case round =>
        obtain ⟨i, g, hi, rfl, hm, hu, hp, hB2⟩ := hrel
        have HM6 := Lib.hid hm; have HU := Lib.hid hu; have HPR := Lib.hid hp; have HB2 := Lib.hid hB2
        have hgl := hm.rd.length
        have hb5w : B ≤ w5.heap.size := by omega
        have hz6 := hB2.size
        have s0 := (hB2.cell (p := ⟨sb, 0, none⟩) (by simp only []; omega)).trans HS0.out
        have s1 := (hB2.cell (p := ⟨sb, 1, none⟩) (by simp only []; omega)).trans HS1.out
        by_cases hlt : i < n1
        · obtain ⟨x, b1, o1, rfl, hb1, hc1, hx1⟩ := HX5.out.idx i hlt
          obtain ⟨_, b1', o1', e1, hb1w, _, _⟩ := HO1.out.idx i hlt
          simp at e1
          obtain ⟨rfl, rfl⟩ := e1
          have hc2 := (hB2.cell (p := ⟨b1, o1 + i, none⟩) (by simp only []; omega)).trans hc1
          obtain ⟨hx0, hxn⟩ := HOK.out.rng x (List.mem_of_getElem? hx1)
          rw [HLL.out] at hxn
          obtain ⟨k, rfl⟩ := Int.eq_ofNat_of_zero_le hx0
          have hkn : k < n1 := by omega
          have hnu : hasI (xs.take i) (k : Int) = false := by
            cases h : hasI (xs.take i) (k : Int)
            · rfl
            · exfalso
              obtain ⟨j, hj⟩ := List.getElem?_of_mem (hasI_iff.1 h)
              have hjl := (List.getElem?_eq_some_iff.1 hj).1
              rw [List.length_take] at hjl
              rw [List.getElem?_take_of_lt (by omega)] at hj
              have := nodup_get HOK.out.nd hj hx1
              omega
          have hcu : wr.cell? ⟨ub, k, none⟩ = some (.bool false) := by rw [hu.cellAt k (by omega), usedV_get hkn, hnu]
          have hfu := hu.frozenAt k
          obtain ⟨q, rfl, hq1, hq2⟩ := hm.addr (by omega)
          obtain ⟨t, ht⟩ : ∃ t, g[i]? = some t := ⟨_, List.getElem?_eq_getElem (by omega)⟩
          obtain ⟨c0, f0⟩ := hm.at_ ht 0 (by omega)
          obtain ⟨pri, dl, fi, ga, ji, ta, tn, tc, ps⟩ := t
          simp [encTa] at c0
          simp only [Nat.add_zero] at f0
          have hqu : q ≠ ub := fun e => owns_diff hu hm.own.own (by decide) (by rw [e]; rfl)
          have hqu' : ¬ ub = q := fun e => hqu e.symm
          have M1 := hm.far hu k (.bool true)
          have U1 := (hu.stored k (.bool true)).1
          rw [usedV_set hkn] at U1
          have hts : xs.take (i + 1) = xs.take i ++ [(k : Int)] := by rw [List.take_add_one, hx1]; rfl
          rw [← hts] at U1
          have M2 : MutT B ((wr.setCell ⟨ub, k, none⟩ (.bool true)).setCell ⟨q, i * 6, none⟩ (.int .i64 k)) (some ⟨q, 0, none⟩) n1 c4 (g.set i ⟨k, dl, fi, ga, ji, ta, tn, tc, ps⟩) := M1.set ht 0 (by omega) (.int .i64 k) rfl rfl rfl rfl rfl
          have U2 := ownsRow_setCell_other (a := ⟨q, i * 6, none⟩) U1 (by simp [Value.ownBlock]; exact hqu') (.int .i64 k)
          have P2' : PrL L ((g.set i ⟨k, dl, fi, ga, ji, ta, tn, tc, ps⟩).map TaV.ta) xs (i + 1) := by
            rw [set_map]
            exact hp.set (u := TaV.ta ⟨pri, dl, fi, ga, ji, ta, tn, tc, ps⟩) (by rw [List.getElem?_map, ht]; rfl) hx1
          have HM7 := Lib.hid M2; have HU7 := Lib.hid U2; have HP7 := Lib.hid P2'
          clear hm hu hp hB2 M1 U1 M2 U2 P2' ht hx1 hts hnu
          have hd1 : decide ((k : Int) < 0) = false := by simp
          have hd2 : decide ((n1 : Int) ≤ (k : Int)) = false := by simp; omega
          have hqr : q < wr.heap.size := hq2
          go_wp2_with fail
          go_roundw
          case rel => exact ⟨i + 1, _, by omega, by go_num, HM7.out, HU7.out, HP7.out, (HB2.out.setCell (by simp only []; omega) _).setCell (by simp only []; omega) _⟩
          case measure => simp [intOf]; omega
        · obtain rfl : i = n1 := by omega
          have hacc : accE (g.map TaV.ta) F S = 0 := HOK.out.acc _ hp.1 (fun j t u x h1 h2 h3 => (hp.2 j t u x h1 h2 h3).1 (by have := (List.getElem?_eq_some_iff.1 h1).1; rw [HLL.out] at this; exact this))
          have HAC := Lib.hid hacc
          have HRK := Lib.hid hm.rdL
          have HWW : Hid (Below sb w wr) := Lib.hid (by rw [← HSB.out]; exact ((HBW.out.trans (B5.out.mono (by omega))).trans (hB2.mono (by rw [HSB.out]; omega))))
          clear hm hu hp hB2 hacc
          go_wp2_with (first
            | (go_at_call 16; (with_reducible refine (Accept_is HRK.out HAC.out).mono ?_); rintro e w7 ⟨rfl, hb7⟩; have B7 := Lib.hid hb7; clear hb7)
            | (go_at_call 17; (with_reducible refine (sane_any _).mono ?_); rintro e8 w8 ⟨rfl, hb8⟩; have B8 := Lib.hid hb8; clear hb8))
          go_ret
          exact ⟨rfl, by first | exact Below.then (Below.then (by have := HWW.out; rw [← HSB.out] at this; exact this) B7.out) B8.out | (rw [← HSB.out] at *; exact Below.then (Below.then HWW.out B7.out) B8.out)⟩
    · have hy' : (y != 0) = true := by simpa using hy
      clear has hll
      go_enter Try.func13, Try.ntmps13
      go_wp2_with (first
          | (go_at_call 15; (with_reducible refine (HM.out _ (by (repeat' (first | (with_reducible exact Below.refl _ _) | (with_reducible assumption) | (with_reducible refine Below.alloc ?_ ?_ _) | (with_reducible refine Below.drew ?_) | (with_reducible refine Below.draws ?_ _) | (with_reducible refine Below.setCell ?_ ?_ _) | (refine Below.then ?_ (by with_reducible assumption)) | go_size)))).mono ?_); rintro e9 w9 ⟨rfl, rfl⟩)
          | (go_at_call 50; (with_reducible refine (Assign_is' (HA.out.ext (by (repeat' (first | (with_reducible exact Below.refl _ _) | (with_reducible assumption) | (with_reducible refine Below.alloc ?_ ?_ _) | (with_reducible refine Below.drew ?_) | (with_reducible refine Below.draws ?_ _) | (with_reducible refine Below.setCell ?_ ?_ _) | (refine Below.then ?_ (by with_reducible assumption)) | go_size)))) HN.out HAS.out).mono ?_); rintro e w1 ⟨a1, n1, c1, rfl, ho1, hb1⟩; obtain ⟨hc1, hf1, hz1, hr1⟩ := bfacts hb1; (try simp only [World.size_alloc, World.size_setCell, World.size_drew, World.size_drewN] at hz1 hr1); (try have hs1_w_0 : w.heap.size < w1.heap.size := by omega); have HO1 := Lib.hid (ownsI_rd ho1); clear ho1)
          | (go_at_call 51; (with_reducible refine (rAssign_is (HA.out.ext (by (repeat' (first | (with_reducible exact Below.refl _ _) | (with_reducible assumption) | (with_reducible refine Below.alloc ?_ ?_ _) | (with_reducible refine Below.drew ?_) | (with_reducible refine Below.draws ?_ _) | (with_reducible refine Below.setCell ?_ ?_ _) | (refine Below.then ?_ (by with_reducible assumption)) | go_size)))) HN.out HAS.out).mono ?_); rintro e w2 ⟨a2, n2, c2, rfl, ho2, hb2⟩; obtain ⟨hc2, hf2, hz2, hr2⟩ := bfacts hb2; (try simp only [World.size_alloc, World.size_setCell, World.size_drew, World.size_drewN] at hz2 hr2); (try have hs2_w_0 : w.heap.size < w2.heap.size := by omega); have HO2 := Lib.hid (ownsI_rd ho2); clear ho2)
          | (go_at_call 22; (with_reducible refine (ints_eq _ _ _ _ _ _ xs _ (HO1.out.ext (by (repeat' (first | (with_reducible exact Below.refl _ _) | (with_reducible assumption) | (with_reducible refine Below.alloc ?_ ?_ _) | (with_reducible refine Below.drew ?_) | (with_reducible refine Below.draws ?_ _) | (with_reducible refine Below.setCell ?_ ?_ _) | (refine Below.then ?_ (by with_reducible assumption)) | go_size)))) (HO2.out.ext (by (repeat' (first | (with_reducible exact Below.refl _ _) | (with_reducible assumption) | (with_reducible refine Below.alloc ?_ ?_ _) | (with_reducible refine Below.drew ?_) | (with_reducible refine Below.draws ?_ _) | (with_reducible refine Below.setCell ?_ ?_ _) | (refine Below.then ?_ (by with_reducible assumption)) | go_size))))).mono ?_); rintro e w3 ⟨rfl, hb3⟩; obtain ⟨hc3, hf3, hz3, hr3⟩ := bfacts hb3; (try simp only [World.size_alloc, World.size_setCell, World.size_drew, World.size_drewN] at hz3 hr3); (try have hs3_w_0 : w.heap.size < w3.heap.size := by omega))
          | (go_at_call 17; (with_reducible refine (sane_any _).mono ?_); rintro e8 w8 ⟨rfl, hb8⟩))
      go_ret
      exact ⟨rfl, by (repeat' (first | (with_reducible exact Below.refl _ _) | (with_reducible assumption) | (with_reducible refine Below.alloc ?_ ?_ _) | (with_reducible refine Below.drew ?_) | (with_reducible refine Below.draws ?_ _) | (with_reducible refine Below.setCell ?_ ?_ _) | (refine Below.then ?_ (by with_reducible assumption)) | go_size))⟩
  · clear has hll
    go_enter Try.func13, Try.ntmps13
    go_wp2_with (first
          | (go_at_call 15; (with_reducible refine (HM.out _ (by (repeat' (first | (with_reducible exact Below.refl _ _) | (with_reducible assumption) | (with_reducible refine Below.alloc ?_ ?_ _) | (with_reducible refine Below.drew ?_) | (with_reducible refine Below.draws ?_ _) | (with_reducible refine Below.setCell ?_ ?_ _) | (refine Below.then ?_ (by with_reducible assumption)) | go_size)))).mono ?_); rintro e9 w9 ⟨rfl, rfl⟩)
          | (go_at_call 50; (with_reducible refine (Assign_is' (HA.out.ext (by (repeat' (first | (with_reducible exact Below.refl _ _) | (with_reducible assumption) | (with_reducible refine Below.alloc ?_ ?_ _) | (with_reducible refine Below.drew ?_) | (with_reducible refine Below.draws ?_ _) | (with_reducible refine Below.setCell ?_ ?_ _) | (refine Below.then ?_ (by with_reducible assumption)) | go_size)))) HN.out HAS.out).mono ?_); rintro e w1 ⟨a1, n1, c1, rfl, ho1, hb1⟩; obtain ⟨hc1, hf1, hz1, hr1⟩ := bfacts hb1; (try simp only [World.size_alloc, World.size_setCell, World.size_drew, World.size_drewN] at hz1 hr1); (try have hs1_w_0 : w.heap.size < w1.heap.size := by omega); have HO1 := Lib.hid (ownsI_rd ho1); clear ho1)
          | (go_at_call 51; (with_reducible refine (rAssign_is (HA.out.ext (by (repeat' (first | (with_reducible exact Below.refl _ _) | (with_reducible assumption) | (with_reducible refine Below.alloc ?_ ?_ _) | (with_reducible refine Below.drew ?_) | (with_reducible refine Below.draws ?_ _) | (with_reducible refine Below.setCell ?_ ?_ _) | (refine Below.then ?_ (by with_reducible assumption)) | go_size)))) HN.out HAS.out).mono ?_); rintro e w2 ⟨a2, n2, c2, rfl, ho2, hb2⟩; obtain ⟨hc2, hf2, hz2, hr2⟩ := bfacts hb2; (try simp only [World.size_alloc, World.size_setCell, World.size_drew, World.size_drewN] at hz2 hr2); (try have hs2_w_0 : w.heap.size < w2.heap.size := by omega); have HO2 := Lib.hid (ownsI_rd ho2); clear ho2)
          | (go_at_call 22; (with_reducible refine (ints_eq _ _ _ _ _ _ xs _ (HO1.out.ext (by (repeat' (first | (with_reducible exact Below.refl _ _) | (with_reducible assumption) | (with_reducible refine Below.alloc ?_ ?_ _) | (with_reducible refine Below.drew ?_) | (with_reducible refine Below.draws ?_ _) | (with_reducible refine Below.setCell ?_ ?_ _) | (refine Below.then ?_ (by with_reducible assumption)) | go_size)))) (HO2.out.ext (by (repeat' (first | (with_reducible exact Below.refl _ _) | (with_reducible assumption) | (with_reducible refine Below.alloc ?_ ?_ _) | (with_reducible refine Below.drew ?_) | (with_reducible refine Below.draws ?_ _) | (with_reducible refine Below.setCell ?_ ?_ _) | (refine Below.then ?_ (by with_reducible assumption)) | go_size))))).mono ?_); rintro e w3 ⟨rfl, hb3⟩; obtain ⟨hc3, hf3, hz3, hr3⟩ := bfacts hb3; (try simp only [World.size_alloc, World.size_setCell, World.size_drew, World.size_drewN] at hz3 hr3); (try have hs3_w_0 : w.heap.size < w3.heap.size := by omega))
          | (go_at_call 17; (with_reducible refine (sane_any _).mono ?_); rintro e8 w8 ⟨rfl, hb8⟩))
    go_ret
    exact ⟨rfl, by (repeat' (first | (with_reducible exact Below.refl _ _) | (with_reducible assumption) | (with_reducible refine Below.alloc ?_ ?_ _) | (with_reducible refine Below.drew ?_) | (with_reducible refine Below.draws ?_ _) | (with_reducible refine Below.setCell ?_ ?_ _) | (refine Below.then ?_ (by with_reducible assumption)) | go_size))⟩
end Go.Proofs.Ytabbmnnohnfbeaa
