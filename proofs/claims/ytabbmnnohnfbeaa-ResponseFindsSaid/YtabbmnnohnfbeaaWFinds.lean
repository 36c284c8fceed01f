/- The walk of ResponseFinds: it returns true. The conditions: the tasks read as named; their lists are no longer than memory bears. -/
import Derived.Test.YtabbmnnohnfbeaaAsTop2
import Derived.Test.YtabbmnnohnfbeaaAsFind
import Derived.Test.YtabbmnnohnfbeaaRsSane
namespace Go.Proofs.Ytabbmnnohnfbeaa
open Go.RowKit
set_option linter.unusedSimpArgs false
set_option linter.unusedVariables false
/-- a task whose locks have been taken away, as far as d tells -/
structure UlT (t u : Ta) (d : Nat → Prop) : Prop where
  pri : u.pri = t.pri
  dl : u.dl = t.dl
  first : u.first = t.first
  gap : u.gap = t.gap
  jit : u.jit = t.jit
  pl : u.pcs.length = t.pcs.length
  pc : ∀ (x : Nat) (p q : P2), t.pcs[x]? = some p → u.pcs[x]? = some q → q.1 = p.1 ∧ (q.2 = p.2 ∨ q.2 = -1) ∧ (d x → q.2 = -1)
def UlL (L K : List Ta) (i j : Nat) : Prop := K.length = L.length ∧ ∀ (k : Nat) (t u : Ta), L[k]? = some t → K[k]? = some u → UlT t u (fun x => k < i ∨ (k = i ∧ x < j))
theorem UlL.start (L : List Ta) : UlL L L 0 0 := ⟨rfl, fun k t u h1 h2 => by
  rw [h1] at h2; simp at h2; subst h2
  exact ⟨rfl, rfl, rfl, rfl, rfl, rfl, fun x p q h3 h4 => by rw [h3] at h4; simp at h4; subst h4; exact ⟨rfl, .inl rfl, fun h => by omega⟩⟩⟩
theorem UlL.next {L K : List Ta} {i j : Nat} (h : UlL L K i j) {u : Ta} (hu : K[i]? = some u) (hj : u.pcs.length ≤ j) : UlL L K (i + 1) 0 := by
  refine ⟨h.1, fun k t v h1 h2 => ?_⟩
  have hk := h.2 k t v h1 h2
  refine ⟨hk.pri, hk.dl, hk.first, hk.gap, hk.jit, hk.pl, fun x p q h3 h4 => ?_⟩
  obtain ⟨g1, g2, g3⟩ := hk.pc x p q h3 h4
  refine ⟨g1, g2, fun hd => g3 ?_⟩
  by_cases e : k = i
  · subst e
    rw [hu] at h2; simp at h2; subst h2
    have := (List.getElem?_eq_some_iff.1 h4).1
    right; exact ⟨rfl, by omega⟩
  · left; omega
theorem UlL.set {L K : List Ta} {i j : Nat} (h : UlL L K i j) {u : Ta} (hu : K[i]? = some u) {p0 : P2} (hp : u.pcs[j]? = some p0) : UlL L (K.set i { u with pcs := u.pcs.set j (p0.1, -1) }) i (j + 1) := by
  refine ⟨by simpa using h.1, fun k t v h1 h2 => ?_⟩
  rw [List.getElem?_set] at h2
  split at h2
  · rename_i e; subst e
    split at h2
    · simp at h2; subst h2
      have hk := h.2 _ t u h1 hu
      refine ⟨hk.pri, hk.dl, hk.first, hk.gap, hk.jit, by simp only [List.length_set]; exact hk.pl, fun x p q h3 h4 => ?_⟩
      simp only [List.getElem?_set] at h4
      split at h4
      · rename_i e2; subst e2
        split at h4
        · simp at h4; subst h4
          exact ⟨(hk.pc _ p p0 h3 hp).1, .inr rfl, fun _ => rfl⟩
        · simp at h4
      · rename_i e2
        obtain ⟨g1, g2, g3⟩ := hk.pc x p q h3 h4
        exact ⟨g1, g2, fun hd => g3 (by omega)⟩
    · simp at h2
  · rename_i e
    have hk := h.2 k t v h1 h2
    refine ⟨hk.pri, hk.dl, hk.first, hk.gap, hk.jit, hk.pl, fun x p q h3 h4 => ?_⟩
    obtain ⟨g1, g2, g3⟩ := hk.pc x p q h3 h4
    exact ⟨g1, g2, fun hd => g3 (by omega)⟩
theorem UlL.at_ {L K : List Ta} {i j : Nat} (h : UlL L K i j) {u : Ta} (hu : u ∈ K) : ∃ (k : Nat) (t : Ta), L[k]? = some t ∧ t ∈ L ∧ UlT t u (fun x => k < i ∨ (k = i ∧ x < j)) ∧ k < L.length := by
  obtain ⟨k, hk⟩ := List.getElem?_of_mem hu
  have hlt := (List.getElem?_eq_some_iff.1 hk).1
  rw [h.1] at hlt
  exact ⟨k, L[k], List.getElem?_eq_getElem hlt, List.getElem_mem hlt, h.2 k _ u (List.getElem?_eq_getElem hlt) hk, hlt⟩
theorem UlL.nolock {L K : List Ta} (h : UlL L K L.length 0) : NoLock K := by
  intro u hu q hq
  obtain ⟨k, t, _, _, e, hk⟩ := h.at_ hu
  obtain ⟨x, hx⟩ := List.getElem?_of_mem hq
  have hlt := (List.getElem?_eq_some_iff.1 hx).1
  rw [e.pl] at hlt
  have := (e.pc x _ q (List.getElem?_eq_getElem hlt) hx).2.2 (.inl hk)
  omega
theorem UlL.valid {L K : List Ta} {i j : Nat} (h : UlL L K i j) (hv : ValidT L) : validL K = true := by
  unfold validL
  rw [Bool.and_eq_true, List.all_eq_true]
  constructor
  · unfold rightB
    rw [Bool.and_eq_true, decide_eq_true_eq, List.all_eq_true]
    refine ⟨by rw [h.1]; exact hv.r.len, fun u hu => ?_⟩
    obtain ⟨k, t, _, ht, e, hk⟩ := h.at_ hu
    have h2 := hv.r.pcs t ht
    have h3 := hv.r.pri t ht
    have h4 := e.pl
    have h5 := e.pri
    unfold taskB
    rw [Bool.and_eq_true, Bool.and_eq_true, inB_iff, inB_iff, List.all_eq_true]
    refine ⟨⟨by omega, by omega⟩, fun q hq => ?_⟩
    obtain ⟨x, hx⟩ := List.getElem?_of_mem hq
    have hlt := (List.getElem?_eq_some_iff.1 hx).1
    rw [e.pl] at hlt
    have h6 := e.pc x _ q (List.getElem?_eq_getElem hlt) hx
    have h7 := hv.r.piece t ht _ (List.getElem_mem hlt)
    unfold pieceB
    simp only [Bool.and_eq_true, inB_iff]
    omega
  · intro u hu
    obtain ⟨k, t, _, ht, e, hk⟩ := h.at_ hu
    refine patB_iff.2 ⟨?_, ?_⟩
    · rw [e.first, e.gap, e.jit]; exact hv.vp t ht
    · rw [e.dl, e.gap]; exact hv.dl t ht
theorem asg_nolock {K : List Ta} {F S : Int} (hv : validL K = true) (hs : supB F S = true) (hn : NoLock K) (ha : accE K F S = 0) : ∃ xs, asgR K F S = (xs, 0) ∧ xs.length = K.length := by
  have hok : okB K F S = true := by unfold okB; rw [hv, hs]; rfl
  have hac : accB K F S = true := by
    unfold accE at ha
    rw [if_pos hok] at ha
    split at ha
    · assumption
    · simp at ha
  obtain ⟨p, hp, hpa⟩ := asg_finds (valid_of hv) hn hac
  rw [asgR_ok hok, hp]
  exact ⟨(ordL K p).map Ta.pri, by simp [asgEnd, hpa], by simp [ordL_len]⟩
theorem Assign_is {a : Option Addr} {n c : Nat} {F S y : Int} {xs : List Int} {L : List Ta} {w : World} (hL : RdL w a n L) (hN : NilOk a n c) (h : asgR L F S = (xs, y)) :
    Calls Try.prog 50 #[.slice a n c, .agg #[.int .i64 F, .int .i64 S]] w (OutIE w.heap.size w xs y) := by
  have := Assign_any a n c F S L w hL hN
  rw [h] at this; exact this
set_option maxRecDepth 100000 in
set_option maxHeartbeats 8000000 in
theorem finds_walk {w : World} (a : Option Addr) (n c : Nat) (L : List Ta) (hL : RdL w a n L) (hT : ∀ t ∈ L, t.pcs.length ≤ 281474976710656) (hN : NilOk a n c) (F S : Int) :
    Calls Try.prog 14 #[.slice a n c, .agg #[.int .i64 F, .int .i64 S]] w fun e w' => e = .returned (.bool true) ∧ Below w.heap.size w w' := by
  have HM := Lib.hid (fun w' (hb : Below w.heap.size w w') => many_any a n c L w' (hL.ext hb) hT)
  have HA := Lib.hid hL; have HN := Lib.hid hN
  have hll := hL.length
  obtain ⟨m1, hm1⟩ : ∃ x, manyL n L = x := ⟨_, rfl⟩
  rw [hm1] at HM
  obtain ⟨vl, hvl⟩ : ∃ v, validL L = v := ⟨_, rfl⟩
  have HV := Lib.hid hvl
  obtain ⟨vs, hvs⟩ : ∃ v, supB F S = v := ⟨_, rfl⟩
  have HS := Lib.hid hvs
  have HLL := Lib.hid hll
  clear hL hT hN hm1 hvl hvs hll
  cases m1
  · cases vl
    · go_enter Try.func14, Try.ntmps14
      go_wp2_with (first
          | (go_at_call 15; (with_reducible refine (HM.out _ (by (repeat' (first | (with_reducible exact Below.refl _ _) | (with_reducible assumption) | (with_reducible refine Below.alloc ?_ ?_ _) | (with_reducible refine Below.drew ?_) | (with_reducible refine Below.draws ?_ _) | (with_reducible refine Below.setCell ?_ ?_ _) | (refine Below.then ?_ (by with_reducible assumption)) | go_size)))).mono ?_); rintro e9 w9 ⟨rfl, rfl⟩)
          | (go_at_call 34; (with_reducible refine (rValid_is (HA.out.ext (by (repeat' (first | (with_reducible exact Below.refl _ _) | (with_reducible assumption) | (with_reducible refine Below.alloc ?_ ?_ _) | (with_reducible refine Below.drew ?_) | (with_reducible refine Below.draws ?_ _) | (with_reducible refine Below.setCell ?_ ?_ _) | (refine Below.then ?_ (by with_reducible assumption)) | go_size)))) HV.out).mono ?_); rintro e w1 ⟨rfl, hb1⟩; obtain ⟨hc1, hf1, hz1, hr1⟩ := bfacts hb1; (try simp only [World.size_alloc, World.size_setCell, World.size_drew, World.size_drewN] at hz1 hr1); (try have hs1_w_0 : w.heap.size < w1.heap.size := by omega))
          | (go_at_call 42; (with_reducible refine (rsupV_is HS.out).mono ?_); rintro e w2 ⟨rfl, hb2⟩; obtain ⟨hc2, hf2, hz2, hr2⟩ := bfacts hb2; (try simp only [World.size_alloc, World.size_setCell, World.size_drew, World.size_drewN] at hz2 hr2); (try have hs2_w_0 : w.heap.size < w2.heap.size := by omega))
          | (go_at_call 17; (with_reducible refine (sane_any _).mono ?_); rintro e8 w8 ⟨rfl, hb8⟩))
      go_ret
      exact ⟨rfl, by (repeat' (first | (with_reducible exact Below.refl _ _) | (with_reducible assumption) | (with_reducible refine Below.alloc ?_ ?_ _) | (with_reducible refine Below.drew ?_) | (with_reducible refine Below.draws ?_ _) | (with_reducible refine Below.setCell ?_ ?_ _) | (refine Below.then ?_ (by with_reducible assumption)) | go_size))⟩
    · cases vs
      · go_enter Try.func14, Try.ntmps14
        go_wp2_with (first
          | (go_at_call 15; (with_reducible refine (HM.out _ (by (repeat' (first | (with_reducible exact Below.refl _ _) | (with_reducible assumption) | (with_reducible refine Below.alloc ?_ ?_ _) | (with_reducible refine Below.drew ?_) | (with_reducible refine Below.draws ?_ _) | (with_reducible refine Below.setCell ?_ ?_ _) | (refine Below.then ?_ (by with_reducible assumption)) | go_size)))).mono ?_); rintro e9 w9 ⟨rfl, rfl⟩)
          | (go_at_call 34; (with_reducible refine (rValid_is (HA.out.ext (by (repeat' (first | (with_reducible exact Below.refl _ _) | (with_reducible assumption) | (with_reducible refine Below.alloc ?_ ?_ _) | (with_reducible refine Below.drew ?_) | (with_reducible refine Below.draws ?_ _) | (with_reducible refine Below.setCell ?_ ?_ _) | (refine Below.then ?_ (by with_reducible assumption)) | go_size)))) HV.out).mono ?_); rintro e w1 ⟨rfl, hb1⟩; obtain ⟨hc1, hf1, hz1, hr1⟩ := bfacts hb1; (try simp only [World.size_alloc, World.size_setCell, World.size_drew, World.size_drewN] at hz1 hr1); (try have hs1_w_0 : w.heap.size < w1.heap.size := by omega))
          | (go_at_call 42; (with_reducible refine (rsupV_is HS.out).mono ?_); rintro e w2 ⟨rfl, hb2⟩; obtain ⟨hc2, hf2, hz2, hr2⟩ := bfacts hb2; (try simp only [World.size_alloc, World.size_setCell, World.size_drew, World.size_drewN] at hz2 hr2); (try have hs2_w_0 : w.heap.size < w2.heap.size := by omega))
          | (go_at_call 17; (with_reducible refine (sane_any _).mono ?_); rintro e8 w8 ⟨rfl, hb8⟩))
        go_ret
        exact ⟨rfl, by (repeat' (first | (with_reducible exact Below.refl _ _) | (with_reducible assumption) | (with_reducible refine Below.alloc ?_ ?_ _) | (with_reducible refine Below.drew ?_) | (with_reducible refine Below.draws ?_ _) | (with_reducible refine Below.setCell ?_ ?_ _) | (refine Below.then ?_ (by with_reducible assumption)) | go_size))⟩
      · have hV := valid_of HV.out
        have hn5 : n ≤ 5 := by rw [← HLL.out]; exact hV.r.len
        have HVT := Lib.hid hV
        have HP : Hid (∀ t ∈ L, t.pcs.length ≤ 1000) := Lib.hid (fun t ht => by have := (hV.r.pcs t ht).2; omega)
        clear hV
        go_enter Try.func14, Try.ntmps14
        go_wp2_with (first
          | (go_at_call 15; (with_reducible refine (HM.out _ (by (repeat' (first | (with_reducible exact Below.refl _ _) | (with_reducible assumption) | (with_reducible refine Below.alloc ?_ ?_ _) | (with_reducible refine Below.drew ?_) | (with_reducible refine Below.draws ?_ _) | (with_reducible refine Below.setCell ?_ ?_ _) | (refine Below.then ?_ (by with_reducible assumption)) | go_size)))).mono ?_); rintro e9 w9 ⟨rfl, rfl⟩)
          | (go_at_call 34; (with_reducible refine (rValid_is (HA.out.ext (by (repeat' (first | (with_reducible exact Below.refl _ _) | (with_reducible assumption) | (with_reducible refine Below.alloc ?_ ?_ _) | (with_reducible refine Below.drew ?_) | (with_reducible refine Below.draws ?_ _) | (with_reducible refine Below.setCell ?_ ?_ _) | (refine Below.then ?_ (by with_reducible assumption)) | go_size)))) HV.out).mono ?_); rintro e w1 ⟨rfl, hb1⟩; obtain ⟨hc1, hf1, hz1, hr1⟩ := bfacts hb1; (try simp only [World.size_alloc, World.size_setCell, World.size_drew, World.size_drewN] at hz1 hr1); (try have hs1_w_0 : w.heap.size < w1.heap.size := by omega))
          | (go_at_call 42; (with_reducible refine (rsupV_is HS.out).mono ?_); rintro e w2 ⟨rfl, hb2⟩; obtain ⟨hc2, hf2, hz2, hr2⟩ := bfacts hb2; (try simp only [World.size_alloc, World.size_setCell, World.size_drew, World.size_drewN] at hz2 hr2); (try have hs2_w_0 : w.heap.size < w2.heap.size := by omega))
          | (go_at_call 17; (with_reducible refine (sane_any _).mono ?_); rintro e8 w8 ⟨rfl, hb8⟩)
          | (go_at_call 29; (with_reducible refine (copied_M _ _ _ L (by omega) HP.out _ (HA.out.ext (by (repeat' (first | (with_reducible exact Below.refl _ _) | (with_reducible assumption) | (with_reducible refine Below.alloc ?_ ?_ _) | (with_reducible refine Below.drew ?_) | (with_reducible refine Below.draws ?_ _) | (with_reducible refine Below.setCell ?_ ?_ _) | (refine Below.then ?_ (by with_reducible assumption)) | go_size)))) HN.out).mono ?_); rintro e w3 ⟨a3, c3, g3, rfl, hm3, hg3, hb3⟩; obtain ⟨hc3, hf3, hz3, hr3⟩ := bfacts hb3; (try simp only [World.size_alloc, World.size_setCell, World.size_drew, World.size_drewN] at hz3 hr3); (try have hs3_w_0 : w.heap.size < w3.heap.size := by omega); have HM3 := Lib.hid hm3; have HG3 := Lib.hid hg3; clear hm3 hg3))
        have hBW : Below w.heap.size w w3 := by (repeat' (first | (with_reducible exact Below.refl _ _) | (with_reducible assumption) | (with_reducible refine Below.alloc ?_ ?_ _) | (with_reducible refine Below.drew ?_) | (with_reducible refine Below.draws ?_ _) | (with_reducible refine Below.setCell ?_ ?_ _) | (refine Below.then ?_ (by with_reducible assumption)) | go_size))
        have hs0 : w3.cell? ⟨w.heap.size, 0, none⟩ = some (.int .i64 F) := by simp [go_sem, *]
        have hs1 : w3.cell? ⟨w.heap.size, 1, none⟩ = some (.int .i64 S) := by simp [go_sem, *]
        have HS0 := Lib.hid hs0; have HS1 := Lib.hid hs1; have HBW := Lib.hid hBW
        obtain ⟨sb, hsb⟩ : ∃ x, w.heap.size = x := ⟨_, rfl⟩
        have HSB := Lib.hid hsb
        obtain ⟨B, hB2⟩ : ∃ x, w2.heap.size = x := ⟨_, rfl⟩
        have hsB : sb < B := by rw [← hB2, ← hsb]; assumption
        rw [hB2] at HM3
        have hb3' : B ≤ w3.heap.size := by rw [← hB2]; exact hb3.size
        have HB2 := Lib.hid hB2
        rw [hsb] at HS0 HS1
        simp only [hsb]
        clear hs0 hs1 hBW hsb hB2 hb1 hb2 hb3 hc1 hc2 hc3 hf1 hf2 hf3
        go_loopw [6] (fun iv wr => ∃ (i : Nat) (g : List TaV), i ≤ n ∧ iv = .int .i64 i ∧ MutT B wr a3 n c3 g ∧ UlL L (g.map TaV.ta) i 0 ∧ Below B w3 wr) (fun iv _ => n - (intOf iv).toNat)
        case atStart => exact ⟨0, g3, Nat.zero_le _, rfl, HM3.out, by rw [HG3.out]; exact UlL.start L, Below.refl _ _⟩
        case round =>
          obtain ⟨i, g, hi, rfl, hm, hu, hB⟩ := hrel
          have HM4 := Lib.hid hm; have HU := Lib.hid hu; have HB := Lib.hid hB
          have hgl := hm.rd.length
          clear hm hu hB HM3 HG3
          by_cases hlt : i < n
          · obtain ⟨q, rfl, hq1, hq2⟩ := HM4.out.addr (by omega)
            go_wp2_with fail
            go_loopw [7] (fun jv wr => ∃ (j : Nat) (g : List TaV) (t : TaV), jv = .int .i64 j ∧ MutT B wr (some ⟨q, 0, none⟩) n c3 g ∧ UlL L (g.map TaV.ta) i j ∧ g[i]? = some t ∧ j ≤ t.n ∧ t.n ≤ 8 ∧ Below B w3 wr) (fun jv _ => 8 - (intOf jv).toNat)
            case atStart =>
              obtain ⟨t, ht⟩ : ∃ t, g[i]? = some t := ⟨_, List.getElem?_eq_getElem (by omega)⟩
              refine ⟨0, g, t, rfl, HM4.out, HU.out, ht, Nat.zero_le _, ?_, HB.out⟩
              have h1 : i < L.length := by rw [HLL.out]; exact hlt
              have h2 := HU.out.2 i _ t.ta (List.getElem?_eq_getElem h1) (by rw [List.getElem?_map, ht]; rfl)
              have h3 := (HVT.out.r.pcs _ (List.getElem_mem h1)).2
              have h4 := (HM4.out.rd.ok _ (List.mem_of_getElem? ht)).1.length
              have h5 := h2.pl
              have h6 : t.ta.pcs.length = t.pcs.length := rfl
              omega
            case round =>
              obtain ⟨j, g2, t, rfl, hm, hu, ht, hj, ht8, hB⟩ := hrel
              have HM5 := Lib.hid hm; have HU5 := Lib.hid hu; have HT5 := Lib.hid ht; have HB5 := Lib.hid hB
              obtain ⟨z5, g5⟩ := hm.at_ ht 5 (by omega)
              have hpl : t.pcs.length = t.n := by have := (hm.rd.ok _ (List.mem_of_getElem? ht)).1.length; simpa using this
              simp [encTa] at z5
              by_cases hjt : j < t.n
              · obtain ⟨pq, hpa, hp1, hp2, _⟩ := (hm.own.ok _ (List.mem_of_getElem? ht)).addr (by omega)
                obtain ⟨p, hpj⟩ : ∃ p, t.pcs[j]? = some p := ⟨_, List.getElem?_eq_getElem (by omega)⟩
                obtain ⟨d1, e1'⟩ := hm.piece ht hpa hpj 1 (by omega)
                have M : MutT B (wr.setCell ⟨pq, j * 2 + 1, none⟩ (.int .i64 (-1))) (some ⟨q, 0, none⟩) n c3 (g2.set i { t with pcs := t.pcs.set j (p.1, -1) }) := hm.setP ht hpa hpj 1 (by omega) (.int .i64 (-1)) (p' := (p.1, -1)) rfl rfl
                have hu2 : UlL L ((g2.set i { t with pcs := t.pcs.set j (p.1, -1) }).map TaV.ta) i (j + 1) := by
                  rw [set_map]
                  exact hu.set (u := t.ta) (by rw [List.getElem?_map, ht]; rfl) hpj
                have HM6 := Lib.hid M; have HU6 := Lib.hid hu2
                have hg6 : (g2.set i { t with pcs := t.pcs.set j (p.1, -1) })[i]? = some { t with pcs := t.pcs.set j (p.1, -1) } := by rw [List.getElem?_set_self (List.getElem?_eq_some_iff.1 ht).1]
                have HG6 := Lib.hid hg6
                rw [hpa] at z5
                simp [enc2] at d1
                clear hm hu ht hB M hu2 hg6 hpj
                go_wp2_with fail
                go_roundw
                case rel => exact ⟨j + 1, _, _, by go_num, HM6.out, HU6.out, HG6.out, by simp only []; omega, by simp only []; omega, HB5.out.setCell hp1 _⟩
                case measure => simp [intOf]; omega
              · have hnx := hu.next (u := t.ta) (by rw [List.getElem?_map, ht]; rfl) (show t.pcs.length ≤ j by omega)
                have HNX := Lib.hid hnx
                clear hm hu ht hB hnx
                go_wp2_with fail
                go_roundw
                case rel => exact ⟨i + 1, g2, by omega, by go_num, HM5.out, HNX.out, HB5.out⟩
                case measure => simp [intOf]; omega
          · obtain rfl : i = n := by omega
            have hul : UlL L (g.map TaV.ta) L.length 0 := by rw [HLL.out]; exact HU.out
            have HRK := Lib.hid HM4.out.rdL
            have hvk := hul.valid HVT.out
            have hnk := hul.nolock
            have hlk : (g.map TaV.ta).length = i := by simpa using hgl
            have HNK : Hid (NilOk a3 i c3) := Lib.hid (owns_nilT HM4.out.own.own)
            generalize g.map TaV.ta = K at *
            obtain ⟨x, hx⟩ : ∃ x, accE K F S = x := ⟨_, rfl⟩
            have HX := Lib.hid hx
            have z0 := (HB.out.cell (p := ⟨sb, 0, none⟩) (by simp only []; omega)).trans HS0.out
            have z1 := (HB.out.cell (p := ⟨sb, 1, none⟩) (by simp only []; omega)).trans HS1.out
            have hbr := HB.out.size
            have hsr : sb < wr.heap.size := by omega
            have HWW : Hid (Below w.heap.size w wr) := Lib.hid (HBW.out.trans (HB.out.mono (by rw [HSB.out]; omega)))
            by_cases hx0 : x = 0
            · subst hx0
              obtain ⟨xs, hxs, hxl⟩ := asg_nolock hvk HS.out hnk hx
              have HXS := Lib.hid hxs
              clear hul hvk hnk hx hxs
              go_wp2_with (first
                | (go_at_call 16; (with_reducible refine (Accept_is HRK.out HX.out).mono ?_); rintro e w5 ⟨rfl, hb5⟩; have B5 := Lib.hid hb5; have y0 := keep_c hb5 z0; have y1 := keep_c hb5 z1; clear hb5)
                | (go_at_call 50; (with_reducible refine (Assign_is (HRK.out.ext B5.out) HNK.out HXS.out).mono ?_); rintro e w6 ⟨a6, n6, c6, rfl, ho6, hb6⟩; have hn6 : n6 = i := ((ownsI_rd ho6).length).symm.trans (hxl.trans hlk); have B6 := Lib.hid hb6; clear ho6 hb6)
                | (go_at_call 17; (with_reducible refine (sane_any _).mono ?_); rintro e8 w8 ⟨rfl, hb8⟩; have B8 := Lib.hid hb8; clear hb8))
              go_ret
              exact ⟨ret_bool (by simp [*]), Below.then (Below.then (Below.then HWW.out B5.out) B6.out) B8.out⟩
            · have hx0' : (x != 0) = true := by simpa using hx0
              clear hul hvk hnk hx
              go_wp2_with (first
                | (go_at_call 16; (with_reducible refine (Accept_is HRK.out HX.out).mono ?_); rintro e w5 ⟨rfl, hb5⟩; have B5 := Lib.hid hb5; clear hb5)
                | (go_at_call 17; (with_reducible refine (sane_any _).mono ?_); rintro e8 w8 ⟨rfl, hb8⟩; have B8 := Lib.hid hb8; clear hb8))
              go_ret
              exact ⟨rfl, Below.then (Below.then HWW.out B5.out) B8.out⟩
  · go_enter Try.func14, Try.ntmps14
    go_wp2_with (first
          | (go_at_call 15; (with_reducible refine (HM.out _ (by (repeat' (first | (with_reducible exact Below.refl _ _) | (with_reducible assumption) | (with_reducible refine Below.alloc ?_ ?_ _) | (with_reducible refine Below.drew ?_) | (with_reducible refine Below.draws ?_ _) | (with_reducible refine Below.setCell ?_ ?_ _) | (refine Below.then ?_ (by with_reducible assumption)) | go_size)))).mono ?_); rintro e9 w9 ⟨rfl, rfl⟩)
          | (go_at_call 34; (with_reducible refine (rValid_is (HA.out.ext (by (repeat' (first | (with_reducible exact Below.refl _ _) | (with_reducible assumption) | (with_reducible refine Below.alloc ?_ ?_ _) | (with_reducible refine Below.drew ?_) | (with_reducible refine Below.draws ?_ _) | (with_reducible refine Below.setCell ?_ ?_ _) | (refine Below.then ?_ (by with_reducible assumption)) | go_size)))) HV.out).mono ?_); rintro e w1 ⟨rfl, hb1⟩; obtain ⟨hc1, hf1, hz1, hr1⟩ := bfacts hb1; (try simp only [World.size_alloc, World.size_setCell, World.size_drew, World.size_drewN] at hz1 hr1); (try have hs1_w_0 : w.heap.size < w1.heap.size := by omega))
          | (go_at_call 42; (with_reducible refine (rsupV_is HS.out).mono ?_); rintro e w2 ⟨rfl, hb2⟩; obtain ⟨hc2, hf2, hz2, hr2⟩ := bfacts hb2; (try simp only [World.size_alloc, World.size_setCell, World.size_drew, World.size_drewN] at hz2 hr2); (try have hs2_w_0 : w.heap.size < w2.heap.size := by omega))
          | (go_at_call 17; (with_reducible refine (sane_any _).mono ?_); rintro e8 w8 ⟨rfl, hb8⟩))
    go_ret
    exact ⟨rfl, by (repeat' (first | (with_reducible exact Below.refl _ _) | (with_reducible assumption) | (with_reducible refine Below.alloc ?_ ?_ _) | (with_reducible refine Below.drew ?_) | (with_reducible refine Below.draws ?_ _) | (with_reducible refine Below.setCell ?_ ?_ _) | (refine Below.then ?_ (by with_reducible assumption)) | go_size))⟩
end Go.Proofs.Ytabbmnnohnfbeaa
